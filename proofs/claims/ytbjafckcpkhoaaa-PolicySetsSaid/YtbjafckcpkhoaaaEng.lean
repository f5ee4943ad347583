/- Lemmas for a law of the seat: what functions of the program do, each stated as a contract of its own (Eng). -/
import Derived.Below
import Derived.Orders
import Derived.Tactics2
import Derived.LoopTactic
import Derived.RowKit3
import Derived.KernelRfl
import Derived.OrdersIn
import Derived.TacticsIn
import Derived.RangeFuncRecord
import Derived.RangeFuncSeq
import Derived.RangeFuncCalls
import Derived.Laws.Sem
import Derived.WalkKit
import Derived.WideLaws
import Derived.LaidEql
import Derived.Maps.AppendAt
import Derived.Shelf.Abstract
import Derived.Laws.StructEq
import Derived.ChangeKeysEq
import Derived.SizedLaws
import Derived.Deep.Slices
import Derived.Deep.Fields
import Derived.Carry
import Derived.OpenShut
import Derived.RangeFuncLeaves
set_option linter.unusedVariables false
set_option linter.unusedSimpArgs false
namespace Go.Eng
open Go.RowKit

/-! frames as lists of (slot, value); the newest entry of a slot stands first -/
abbrev Fr := List (Nat × Value)

def Fr.look : Fr → Nat → Option Value
  | [], _ => none
  | (d, v) :: l, t => bif Nat.beq d t then some v else Fr.look l t

def evo (l : Fr) : Operand → Option Value
  | .tmp t => l.look t
  | .const v => some v
  | .global g => some (.pointer (some ⟨g, 0, none⟩))
  | .func f => some (.func (.func f) #[] #[])

/-! what is no plain memory: the records of loops over functions, the blocks for their deferred calls -/
def ctl : Obj → Bool
  | .loop _ => true
  | .deferred _ => true
  | _ => false
/-- The records of loops, but for one, lie as they lay. -/
def DK (ex : Option Nat) (w w' : World) : Prop := ∀ (k : Nat) (o : Obj), w.heap[k]? = some o → ctl o = true → ex ≠ some k → w'.heap[k]? = some o
theorem DK.refl {ex : Option Nat} {w : World} : DK ex w w := fun _ _ h _ _ => h
theorem DK.trans {ex : Option Nat} {a b c : World} (h : DK ex a b) (k : DK ex b c) : DK ex a c := fun i o hi ho he => k i o (h i o hi ho he) ho he
theorem DK.of_below {ex : Option Nat} {w w' : World} (h : Below w.heap.size w w') : DK ex w w' := fun k o hk _ _ => (h.block k (Array.getElem?_eq_some_iff.1 hk).1).trans hk
theorem DK.some {ex : Option Nat} {w w' : World} (h : DK none w w') : DK ex w w' := fun i o hi ho _ => h i o hi ho (by simp)

/-- What a walk is under: how many slots; the round's loop; the world where the call began; the loop whose record may turn; whether loops over functions may leave marks. -/
structure Ev where
  n : Nat
  ro : Option Nat
  w0 : World
  ex : Option Nat
  mr : Bool

def mark (D : Nat) : Deferred := { target := .collected D, args := #[] }

structure Good (N : Ev) (a : Act) (w : World) : Prop where
  dk : DK N.ex N.w0 w
  size : N.w0.heap.size ≤ w.heap.size
  exlt : ∀ x, N.ex = some x → x < N.w0.heap.size
  marks : ∃ Ds : List Nat, a.defers = Ds.map mark ∧ (N.mr = false → Ds = []) ∧ Ds.Nodup ∧ ∀ D ∈ Ds, N.w0.heap.size ≤ D ∧ N.ex ≠ some D ∧ w.heap[D]? = some (.deferred (some []))
  rnd : ∀ l, N.ro = some l → N.ex ≠ some l ∧ ∃ r, w.heap[l]? = some (.loop r)

theorem Good.step {N : Ev} {a a' : Act} {w w' : World} (h : Good N a w) (hd : a'.defers = a.defers) (hk : DK N.ex w w') (hs : w.heap.size ≤ w'.heap.size) : Good N a' w' := by
  obtain ⟨Ds, h1, h0, h2, h3⟩ := h.marks
  exact ⟨h.dk.trans hk, Nat.le_trans h.size hs, h.exlt, ⟨Ds, hd.trans h1, h0, h2, fun D hD => ⟨(h3 D hD).1, (h3 D hD).2.1, hk D _ (h3 D hD).2.2 rfl (h3 D hD).2.1⟩⟩,
    fun l hl => let ⟨hx, r, hr⟩ := h.rnd l hl; ⟨hx, r, hk l _ hr rfl hx⟩⟩

/-- The frame's entries are what the slots hold. -/
structure Holds (N : Ev) (l : Fr) (a : Act) : Prop where
  size : a.tmps.size = N.n
  slot : ∀ t v, l.look t = some v → a.tmps[t]? = some v

theorem Holds.eval {N : Ev} {l : Fr} {a : Act} (h : Holds N l a) {x : Operand} {v : Value} (hx : evo l x = some v) : a.eval x = v := by
  cases x with
  | tmp t =>
    have := h.slot t v hx
    simp [Act.eval, this]
  | const c => simpa [evo, Act.eval] using hx
  | global g => simpa [evo, Act.eval] using hx
  | func f => simpa [evo, Act.eval] using hx

theorem Fr.look_cons (d : Nat) (v : Value) (l : Fr) (t : Nat) : Fr.look ((d, v) :: l) t = if d = t then some v else Fr.look l t := by
  simp only [Fr.look]
  by_cases h : d = t
  · subst h; simp
  · have : Nat.beq d t = false := by
      rw [Bool.eq_false_iff]; intro hc; exact h (Nat.eq_of_beq_eq_true hc)
    simp [this, h]

theorem Holds.put {N : Ev} {l : Fr} {a : Act} (h : Holds N l a) {d : Nat} (hd : d < N.n) (v : Value) : Holds N ((d, v) :: l) (a.put (some d) v) := by
  refine ⟨by simp [Act.put, h.size], ?_⟩
  intro t u ht
  rw [Fr.look_cons] at ht
  split at ht
  · rename_i e; subst e
    cases ht
    simp [Act.put, h.size, hd]
  · rename_i e
    simp only [Act.put]
    rw [Array.getElem?_setIfInBounds_ne e]
    exact h.slot t u ht

/-- Every entry of 'l'' is in 'l'. -/
def Sub : Fr → Fr → Prop
  | [], _ => True
  | (d, v) :: r, l => l.look d = some v ∧ Sub r l

theorem Sub.look {l' l : Fr} (h : Sub l' l) {t : Nat} {v : Value} (ht : l'.look t = some v) : l.look t = some v := by
  induction l' with
  | nil => simp [Fr.look] at ht
  | cons p r ih =>
    obtain ⟨d, u⟩ := p
    rw [Fr.look_cons] at ht
    split at ht
    · rename_i e; subst e; cases ht; exact h.1
    · exact ih h.2 ht

theorem Holds.sub {N : Ev} {l l' : Fr} {a : Act} (h : Holds N l a) (hs : Sub l' l) : Holds N l' a :=
  ⟨h.size, fun t v ht => h.slot t v (hs.look ht)⟩

/-! posts over frames -/
abbrev Post := Exit → Fr → World → Prop

/-- Every function may be called, as deep as need be; in a round or not. -/
def FW (ro : Option Nat) : Fence := { fn := fun _ => True, depth := none, alive := false, round := ro }

def up (N : Ev) (Q : Post) : Exit → Act → World → Prop := fun e a w => ∃ l, Holds N l a ∧ Good N a w ∧ Q e l w

def thenK (K : Fr → World → Prop) (Q : Post) : Post
  | .normal, l, w => K l w
  | e, l, w => Q e l w

def WC (P : Program) (N : Ev) (c : Code) (Q : Post) (l : Fr) (w : World) : Prop := ∀ a, Holds N l a → Good N a w → c.wpIn (FW N.ro) 0 P (up N Q) a w
def WL (P : Program) (N : Ev) (ops : Array Oper) (Q : Post) (rest : List Oper) (l : Fr) (w : World) : Prop := ∀ a, Holds N l a → Good N a w → wpListIn (FW N.ro) 0 P ops (up N Q) rest a w

/-- One operation, without its guard. -/
def OpW (P : Program) (N : Ev) (o : Oper) (K : Fr → World → Prop) (Q : Post) (l : Fr) (w : World) : Prop :=
  ∀ a, Holds N l a → Good N a w → o.wpIn (FW N.ro) 0 P a w (up N (thenK K Q) .normal) (up N Q)

section
variable {P : Program} {N : Ev} {Q : Post} {l : Fr} {w : World}

theorem WC.sub {c : Code} (l' : Fr) (hs : Sub l' l) (h : WC P N c Q l' w) : WC P N c Q l w := fun a ha hg => h a (ha.sub hs) hg

theorem WC.mono {c : Code} {Q' : Post} (hq : ∀ e l w, Q e l w → Q' e l w) (h : WC P N c Q l w) : WC P N c Q' l w :=
  fun a ha hg => wpIn_mono (h a ha hg) fun _ _ _ ⟨l, hl, g, q⟩ => ⟨l, hl, g, hq _ _ _ q⟩

theorem wc_seq {c d : Code} (h : WC P N c (thenK (WC P N d Q) Q) l w) : WC P N (.seq c d) Q l w := by
  intro a ha hg
  refine wpIn_seq (wpIn_mono (h a ha hg) ?_)
  rintro e a' w' ⟨l', hl', g', q⟩
  cases e with
  | normal => exact q a' hl' g'
  | _ => exact ⟨l', hl', g', q⟩

theorem wc_skip (h : Q .normal l w) : WC P N .skip Q l w := fun a ha hg => wpIn_skip ⟨l, ha, hg, h⟩
theorem wc_label {n : Nat} (h : Q .normal l w) : WC P N (.label n) Q l w := fun a ha hg => wpIn_label ⟨l, ha, hg, h⟩
theorem wc_exit {id : Nat} (h : Q (.exit id) l w) : WC P N (.exit id) Q l w := fun a ha hg => wpIn_exit ⟨l, ha, hg, h⟩
theorem wc_ret (h : Q .ret l w) : WC P N .ret Q l w := fun a ha hg => wpIn_ret ⟨l, ha, hg, h⟩

theorem wc_cond {c : Operand} {x y : Code} {b : Bool} (hc : evo l c = some (.bool b)) (ht : b = true → WC P N x Q l w) (hf : b = false → WC P N y Q l w) :
    WC P N (.cond c x y) Q l w :=
  fun a ha hg => wpIn_cond_split (ha.eval hc) (fun h => ht h a ha hg) (fun h => hf h a ha hg)

/-- A test whose outcome is known. -/
theorem wc_cond_t {c : Operand} {x y : Code} (hc : evo l c = some (.bool true)) (ht : WC P N x Q l w) : WC P N (.cond c x y) Q l w :=
  fun a ha hg => wpIn_cond_true (ha.eval hc) (ht a ha hg)
theorem wc_cond_f {c : Operand} {x y : Code} (hc : evo l c = some (.bool false)) (hf : WC P N y Q l w) : WC P N (.cond c x y) Q l w :=
  fun a ha hg => wpIn_cond_false (ha.eval hc) (hf a ha hg)

def blockQ (id : Nat) (Q : Post) : Post
  | .exit id', l, w => bif Nat.beq id' id then Q .normal l w else Q (.exit id') l w
  | e, l, w => Q e l w

theorem wc_block {id : Nat} {c : Code} (h : WC P N c (blockQ id Q) l w) : WC P N (.block id c) Q l w := by
  intro a ha hg
  refine wpIn_block (wpIn_mono (h a ha hg) ?_)
  rintro e a' w' ⟨l', hl', g', q⟩
  cases e with
  | exit id' =>
    simp only [Exit.inBlock]
    simp only [blockQ] at q
    by_cases e : id' = id
    · subst e
      rw [if_pos rfl]
      rw [show Nat.beq id' id' = true by simp] at q
      exact ⟨l', hl', g', q⟩
    · rw [if_neg e]
      have : Nat.beq id' id = false := by
        rw [Bool.eq_false_iff]; intro hc; exact e (Nat.eq_of_beq_eq_true hc)
      rw [this] at q
      exact ⟨l', hl', g', q⟩
  | _ => exact ⟨l', hl', g', q⟩

theorem wpIn_loopG {F : Fence} {n : Nat} {P : Program} {c : Code} {Q : Exit → Act → World → Prop} {a : Act} {w : World} {σ : Type} (I : σ → Act → World → Prop) (μ : σ → Nat) (s₀ : σ) (h₀ : I s₀ a w)
    (round : ∀ s a w, I s a w → c.wpIn F n P (Exit.then (fun a' w' => ∃ s', I s' a' w' ∧ μ s' < μ s) Q) a w) : (Code.loop c).wpIn F n P Q a w := by
  intro b k cs hro hb hr
  have key : ∀ j s a w, μ s = j → I s a w →
      ∃ e a' w', Q e a' w' ∧ ArrivesIn (Machine.fenced P F) P (lone (b.atR a (.code c :: .inLoop c :: k)) cs w) b k cs e a' w' := by
    intro j
    induction j using Nat.strongRecOn with
    | _ j ih =>
      intro s a w hn hI
      obtain ⟨e, a₁, w₁, hq, harr⟩ := round s a w hI b (.inLoop c :: k) cs hro hb hr
      cases e with
      | normal =>
        obtain ⟨s₁, hI₁, hlt⟩ := hq
        obtain ⟨e₂, a₂, w₂, hq₂, harr₂⟩ := ih (μ s₁) (hn ▸ hlt) s₁ a₁ w₁ rfl hI₁
        exact ⟨e₂, a₂, w₂, hq₂, .of_steps (StepsIn.trans harr (.one (fenced_calm hb hr rfl) stepR_inLoop)) harr₂⟩
      | exit id => exact ⟨_, a₁, w₁, hq, .pass (x := .inLoop c) rfl (fun _ _ => .inl (by simp)) harr⟩
      | goto l => exact ⟨_, a₁, w₁, hq, .pass (x := .inLoop c) rfl (fun _ _ => .inl (by simp)) harr⟩
      | ret => exact ⟨_, a₁, w₁, hq, .pass (x := .inLoop c) rfl (fun _ _ => .inl (by simp)) harr⟩
      | panic ch => exact ⟨_, a₁, w₁, hq, .pass (x := .inLoop c) rfl (fun _ _ => .inl (by simp)) harr⟩
      | outgrown => exact ⟨_, a₁, w₁, hq, .pass (x := .inLoop c) rfl (fun _ _ => .inl (by simp)) harr⟩
  obtain ⟨e, a', w', hq, harr⟩ := key _ s₀ a w rfl h₀
  exact ⟨e, a', w', hq, .of_steps (.one (fenced_calm hb hr rfl) stepR_loop) harr⟩

/-- A loop over a state of the proof's own. -/
theorem wc_loop {c : Code} {σ : Type} (fr : σ → Fr) (wd : σ → World) (inv : σ → Prop) (μ : σ → Nat) (s₀ : σ) (hi : inv s₀) (hl : Sub (fr s₀) l) (hw : wd s₀ = w)
    (body : ∀ s, inv s → WC P N c (thenK (fun l' w' => ∃ s', inv s' ∧ μ s' < μ s ∧ Sub (fr s') l' ∧ wd s' = w') Q) (fr s) (wd s)) : WC P N (.loop c) Q l w := by
  intro a ha hg
  refine wpIn_loopG (fun s a w => inv s ∧ Holds N (fr s) a ∧ Good N a w ∧ wd s = w) μ s₀ ⟨hi, ha.sub hl, hg, hw⟩ ?_
  rintro s a w ⟨h1, h2, hg, rfl⟩
  refine wpIn_mono (body s h1 a h2 hg) ?_
  rintro e a' w' ⟨l', hl', g', q⟩
  cases e with
  | normal =>
    obtain ⟨s', i', m', u', w'⟩ := q
    exact ⟨s', ⟨i', hl'.sub u', g', w'⟩, m'⟩
  | _ => exact ⟨l', hl', g', q⟩

/-! regions whose order is the text's -/
theorem wc_region {id : Nat} {ops : List Oper} (h : WL P N ops.toArray Q ops l w) : WC P N (.region id ops.toArray false) Q l w :=
  fun a ha hg => wpIn_region_lit (h a ha hg)

theorem wl_nil {ops : Array Oper} {K : Fr → World → Prop} (h : K l w) : WL P N ops (thenK K Q) [] l w := fun a ha hg => wpListIn_nil ⟨l, ha, hg, h⟩

/-- An operation that nothing guards. -/
theorem wl_op {ops : Array Oper} {o : Oper} {rest : List Oper} (hg : o.guard = none) (h : OpW P N o (fun l w => WL P N ops Q rest l w) Q l w) : WL P N ops Q (o :: rest) l w := by
  intro a ha hgd
  unfold wpListIn
  rw [if_pos (by simp [Region.wanted, hg])]
  refine Oper.wpIn_mono ?_ (h a ha hgd)
  rintro a w ⟨l', hl', g', h⟩
  exact h a hl' g'

theorem yielded_of {ops : Array Oper} {a : Act} {j d : Nat} {b : Bool} (ha : Holds N l a) (hj : (ops[j]?).bind (·.dst) = some d) (hb : l.look d = some (.bool b)) : yielded ops a.tmps j = some b := by
  simp [yielded, hj, ha.slot _ _ hb]
end
end Go.Eng

set_option linter.unusedVariables false
set_option linter.unusedSimpArgs false
namespace Go.Eng
open Go.RowKit Go.Shelf

/-! facts on types, each closed over a program -/
def Und (P : Program) (T : Nat) (d : TypeDesc) : Prop := P.underlying T = some d
def Sz (P : Program) (T n : Nat) : Prop := ∀ w, (sizeOf T).run P w = .ok n w
def AggT (P : Program) (T : Nat) (b : Bool) : Prop := ∀ w, (isAgg T).run P w = .ok b w
def Zero (P : Program) (T : Nat) (v : Value) : Prop := ∀ w, (zeroValue T).run P w = .ok v w

/-! memory -/
def Cells (w : World) (b off : Nat) (vs : List Value) : Prop := ∀ i v, vs[i]? = some v → w.cell? ⟨b, off + i, none⟩ = some v

theorem Cells.below {w w' : World} {b off B : Nat} {vs : List Value} (h : Cells w b off vs) (hb : Below B w w') (hlt : b < B) : Cells w' b off vs :=
  fun i v hi => (hb.cell (p := ⟨b, off + i, none⟩) hlt).trans (h i v hi)

theorem Cells.ext {w w' : World} {b off : Nat} {vs : List Value} (h : Cells w b off vs) (hb : Below w.heap.size w w') : Cells w' b off vs := by
  intro i v hi
  have := h i v hi
  exact (hb.cell (p := ⟨b, off + i, none⟩) (World.block_lt_of_cell? w _ this)).trans this

theorem add_lit (b off i : Nat) : (⟨b, off, none⟩ : Addr).add i = ⟨b, off + i, none⟩ := by unfold Addr.add; split <;> simp_all

theorem cell_blk {w : World} {b o : Nat} {cs : Array Value} {T : TypeId} {fr : Nat × Nat} {v : Value} (h : w.heap[b]? = some (.cells cs T fr)) (hv : cs[o]? = some v) : w.cell? ⟨b, o, none⟩ = some v := by
  simp [World.cell?, h, hv]

theorem cells_blk {w : World} {b : Nat} {cs : Array Value} {T : TypeId} {fr : Nat × Nat} (h : w.heap[b]? = some (.cells cs T fr)) : Cells w b 0 cs.toList := by
  intro i v hi
  refine cell_blk h ?_
  simpa using hi

theorem cells_sub {w : World} {b o : Nat} {vs : List Value} (h : Cells w b o vs) (i : Nat) (us : List Value) (hu : us = (vs.drop i).take us.length) : Cells w b (o + i) us := by
  intro j v hj
  rw [hu] at hj
  have hj' : vs[i + j]? = some v := by
    rw [List.getElem?_take] at hj
    split at hj
    · rwa [List.getElem?_drop] at hj
    · cases hj
  have := h (i + j) v hj'
  rw [Nat.add_assoc]; exact this

theorem run_loadCellsFrom {P : Program} {w : World} {b o : Nat} (vs : List Value) : ∀ (i : Nat) (acc : Array Value), Cells w b (o + i) vs →
    (loadCellsFrom ⟨b, o, none⟩ i vs.length acc).run P w = .ok (acc ++ vs.toArray) w := by
  induction vs with
  | nil => intro i acc _; simp [loadCellsFrom, pure, Sem.run]
  | cons v vs ih =>
    intro i acc h
    have h0 : w.cell? ⟨b, o + i, none⟩ = some v := by simpa using h 0 v (by simp)
    have hr : (load (⟨b, o + i, none⟩ : Addr)).run P w = .ok v w := by simp [load, Sem.run, h0]
    simp only [List.length_cons, loadCellsFrom, Sem.run_bind, add_lit, hr, Result.andThen_ok]
    rw [ih (i + 1) (acc.push v) (fun j u hj => by have := h (j + 1) u (by simpa using hj); rw [← this]; congr 2; omega)]
    simp

theorem run_loadVar_agg {P : Program} {w : World} {b o T n : Nat} {vs : List Value} (hA : AggT P T true) (hS : Sz P T n) (hl : vs.length = n) (hc : Cells w b o vs) :
    (loadVar T ⟨b, o, none⟩).run P w = .ok (.agg vs.toArray) w := by
  subst hl
  have := run_loadCellsFrom (P := P) vs 0 #[] (by simpa using hc)
  simp only [loadVar, Sem.run_bind, hA w, hS w, Result.andThen_ok, loadCells, if_true, this, Array.empty_append]
  rfl

theorem run_loadVar_one {P : Program} {w : World} {b o T : Nat} {v : Value} (hA : AggT P T false) (hc : w.cell? ⟨b, o, none⟩ = some v) :
    (loadVar T ⟨b, o, none⟩).run P w = .ok v w := by
  simp [loadVar, Sem.run_bind, hA w, Result.andThen_ok, load, Sem.run, hc]

/-! a store into a block that is known whole -/
structure Put (w w' : World) (b : Nat) : Prop where
  os : w'.os = w.os
  tape : w'.tape = w.tape
  output : w'.output = w.output
  size : w'.heap.size = w.heap.size
  other : ∀ k, k ≠ b → w'.heap[k]? = w.heap[k]?

theorem Put.below {w0 w w' : World} {b B : Nat} (h : Put w w' b) (hB : Below B w0 w) (hb : B ≤ b) : Below B w0 w' :=
  ⟨h.os.trans hB.os, h.tape.trans hB.tape, h.output.trans hB.output, by rw [h.size]; exact hB.size, fun k hk => (h.other k (by omega)).trans (hB.block k hk)⟩

theorem Put.blk {w w' : World} {b k : Nat} {o : Obj} (h : Put w w' b) (hk : w.heap[k]? = some o) (hne : k ≠ b) : w'.heap[k]? = some o := (h.other k hne).trans hk

/-- what stands in the cells behind 'vs' was written from 'off' on -/
def splice (cs : Array Value) (off : Nat) : List Value → Array Value
  | [] => cs
  | v :: vs => splice (cs.setIfInBounds off v) (off + 1) vs

theorem run_storeCells {P : Program} {b o T : Nat} (vs : List Value) (h1 : ∀ v ∈ vs, v.oneCell' = true) : ∀ (i : Nat) (cs : Array Value) (w : World), w.heap[b]? = some (.cells cs T (0, 0)) → o + i + vs.length ≤ cs.size →
    ∃ w', (storeCells ⟨b, o, none⟩ vs i).run P w = .ok () w' ∧ Put w w' b ∧ w'.heap[b]? = some (.cells (splice cs (o + i) vs) T (0, 0)) := by
  induction vs with
  | nil => intro i cs w hb _; exact ⟨w, by simp [storeCells, pure, Sem.run], ⟨rfl, rfl, rfl, rfl, fun _ _ => rfl⟩, hb⟩
  | cons v vs ih =>
    intro i cs w hb hl
    have hv : v.oneCell' = true := h1 v (by simp)
    simp only [List.length_cons] at hl
    have hc : w.cell? ⟨b, o + i, none⟩ = some (cs[o + i]'(by omega)) := cell_blk hb (by simp [Array.getElem?_eq_getElem (show o + i < cs.size by omega)])
    have hf : w.frozen? ⟨b, o + i, none⟩ = false := by simp [World.frozen?, hb]
    have hw : (w.setCell ⟨b, o + i, none⟩ v).heap[b]? = some (.cells (cs.setIfInBounds (o + i) v) T (0, 0)) := by
      have hlt : b < w.heap.size := (Array.getElem?_eq_some_iff.1 hb).1
      simp only [World.setCell, Array.getElem?_modify, if_true, hb, Option.map_some]
      rfl
    have hr : (store (⟨b, o + i, none⟩ : Addr) v).run P w = .ok () (w.setCell ⟨b, o + i, none⟩ v) := by
      cases v <;> simp_all [store, Sem.run, Value.oneCell']
    obtain ⟨w', hr', hp, hb'⟩ := ih (fun u hu => h1 u (by simp [hu])) (i + 1) (cs.setIfInBounds (o + i) v) (w.setCell ⟨b, o + i, none⟩ v) hw (by simp; omega)
    refine ⟨w', ?_, ⟨hp.os, hp.tape, hp.output, by rw [hp.size]; simp [World.setCell], fun k hk => (hp.other k hk).trans (Below.heap_setCell _ _ _ _ hk)⟩, ?_⟩
    · simp only [storeCells, Sem.run_bind, add_lit, hr, Result.andThen_ok, hr']
    · rw [hb']; simp [splice, Nat.add_assoc]

theorem run_storeVar {P : Program} {w : World} {b o T T' : Nat} {cs : Array Value} {v : Value} (hS : Sz P T v.cells.size) (hb : w.heap[b]? = some (.cells cs T' (0, 0))) (h1 : ∀ u ∈ v.cells.toList, u.oneCell' = true) (hl : o + v.cells.size ≤ cs.size) :
    ∃ w', (storeVar T ⟨b, o, none⟩ v).run P w = .ok () w' ∧ Put w w' b ∧ w'.heap[b]? = some (.cells (splice cs o v.cells.toList) T' (0, 0)) := by
  obtain ⟨w', hr, hp, hb'⟩ := run_storeCells (P := P) (o := o) v.cells.toList h1 0 cs w hb (by simpa using hl)
  refine ⟨w', ?_, hp, by simpa using hb'⟩
  simp [storeVar, Sem.run_bind, hS w, Result.andThen_ok, hr]

/-! new blocks -/
structure New (w w' : World) (b : Nat) (o : Obj) : Prop where
  ext : Below w.heap.size w w'
  eq : b = w.heap.size
  size : w'.heap.size = w.heap.size + 1
  blk : w'.heap[b]? = some o

theorem new_push (w : World) (o : Obj) : New w { w with heap := w.heap.push o } w.heap.size o :=
  ⟨(Below.refl _ w).alloc (Nat.le_refl _) o, rfl, by simp, by simp⟩

theorem run_newRow {P : Program} (w : World) (T : TypeId) (cs : Array Value) : (newRow T cs).run P w = .ok ⟨w.heap.size, 0, none⟩ { w with heap := w.heap.push (.cells cs T) } := by
  simp [newRow, newObj, Sem.run_bind, Sem.run, Result.andThen, pure]

/-! contracts -/
/-- The call returns, no loop's record is turned, and 'R' holds of what it returns and of the world behind it. -/
def Ret (P : Program) (f : FuncId) (args : Array Value) (w : World) (R : Value → World → Prop) : Prop := Calls P f args w fun e w' => ∃ v, e = .returned v ∧ (DK none w w' ∧ w.heap.size ≤ w'.heap.size) ∧ R v w'

theorem Ret.mono {P : Program} {f : FuncId} {args : Array Value} {w : World} {R R' : Value → World → Prop} (h : Ret P f args w R) (hr : ∀ v w', R v w' → R' v w') : Ret P f args w R' :=
  Calls.mono h fun e w' ⟨v, he, hd, hv⟩ => ⟨v, he, hd, hr v w' hv⟩

/-- Behind the body: what the results' variables hold. -/
def OutsAt (P : Program) (l : Fr) (w : World) : List ResultVar → List Value → Prop
  | [], [] => True
  | .tmp t :: r, v :: vs => l.look t = some v ∧ OutsAt P l w r vs
  | .cell a T :: r, v :: vs => (∃ p, l.look a = some (.pointer (some p)) ∧ (loadVar T p).run P w = .ok v w) ∧ OutsAt P l w r vs
  | _, _ => False

def tupleOf : List Value → Value
  | [v] => v
  | vs => .tuple vs.toArray

def retQ (P : Program) (rs : List ResultVar) (R : Value → World → Prop) : Post
  | .normal, l, w | .ret, l, w => ∃ vs, OutsAt P l w rs vs ∧ R (tupleOf vs) w
  | _, _, _ => False

section
variable {P : Program} {N : Ev} {K : Fr → World → Prop} {Q : Post} {l : Fr} {w : World}

def argFr : Nat → List Value → Fr
  | _, [] => []
  | i, v :: vs => (i, v) :: argFr (i + 1) vs

theorem argFr_look (vs : List Value) : ∀ i t v, (argFr i vs).look t = some v → i ≤ t ∧ vs[t - i]? = some v := by
  induction vs with
  | nil => intro i t v h; simp [argFr, Fr.look] at h
  | cons u vs ih =>
    intro i t v h
    rw [argFr, Fr.look_cons] at h
    split at h
    · rename_i e; subst e; cases h; simp
    · obtain ⟨h1, h2⟩ := ih (i + 1) t v h
      have : t - i = (t - (i + 1)) + 1 := by omega
      exact ⟨by omega, by rw [this]; simpa using h2⟩

def resOf (a : Act) : ResultVar → Sem Value
  | .tmp t => pure (a.tmps.getD t undef)
  | .cell x t => do loadVar t (← asAddr (a.tmps.getD x undef))

theorem outs_run {rs : List ResultVar} {a : Act} (ha : Holds N l a) (f : ResultVar → Sem Value) (hf : ∀ r, f r = resOf a r) : ∀ {vs : List Value}, OutsAt P l w rs vs → (rs.mapM f).run P w = .ok vs w := by
  induction rs with
  | nil => intro vs h; cases vs with
    | nil => simp [pure, Sem.run]
    | cons v vs => exact h.elim
  | cons r rs ih =>
    intro vs h
    cases vs with
    | nil => cases r <;> exact h.elim
    | cons v vs =>
      cases r with
      | tmp t =>
        obtain ⟨h1, h2⟩ := h
        have e : a.tmps.getD t undef = v := by simp [ha.slot t v h1]
        rw [List.mapM_cons]
        simp only [Sem.run_bind, Sem.run_pure, Result.andThen_ok, hf, resOf, e, ih h2]
      | cell x T =>
        obtain ⟨⟨p, h1, hp⟩, h2⟩ := h
        have e : a.tmps.getD x undef = .pointer (some p) := by simp [ha.slot x _ h1]
        have ea : (asAddr (a.tmps.getD x undef)).run P w = .ok p w := by rw [e]; rfl
        rw [List.mapM_cons]
        simp only [Sem.run_bind, Sem.run_pure, Result.andThen_ok, hf, resOf, ea, hp, ih h2]

theorem outs_tmps {rs : List ResultVar} {vs : List Value} {a : Act} (ha : Holds N l a) (h : OutsAt P l w rs vs) (fn : Func) (hr : fn.results = rs.toArray) :
    (results fn a.tmps).run P w = .ok (tupleOf vs) w := by
  simp only [results, hr, Sem.run_bind, List.mapM_toArray]
  rw [map_eq_pure_bind, Sem.run_bind, outs_run (P := P) (w := w) ha _ (fun r => by cases r <;> rfl) h]
  simp only [Result.andThen_ok, Sem.run_pure]
  match vs with
  | [] => rfl
  | [v] => rfl
  | v :: u :: r => simp [tupleOf]

theorem args_hold {n : Nat} {ro : Option Nat} {w0 : World} {ex : Option Nat} {mk : Bool} {args : List Value} {k : Nat} (hk : k = n - args.toArray.size) (hle : args.length ≤ n) {ds : List Deferred} :
    Holds ⟨n, ro, w0, ex, mk⟩ (argFr 0 args) { tmps := args.toArray ++ Array.replicate k undef, defers := ds } := by
  refine ⟨by subst hk; simp; omega, ?_⟩
  intro t v ht
  obtain ⟨_, h2⟩ := argFr_look _ _ _ _ ht
  have hlt : t < args.length := by
    rcases Nat.lt_or_ge t args.length with h | h
    · exact h
    · rw [List.getElem?_eq_none (by simpa using h)] at h2; cases h2
  rw [Array.getElem?_append_left (by simpa using hlt)]
  simpa using h2

theorem good_start {n : Nat} {w : World} {ex : Option Nat} {mk : Bool} {tm : Array Value} (hx : ∀ x, ex = some x → x < w.heap.size := by intro x h; cases h) : Good ⟨n, none, w, ex, mk⟩ { tmps := tm, defers := [] } w :=
  ⟨DK.refl, Nat.le_refl _, hx, ⟨[], rfl, fun _ => rfl, List.nodup_nil, fun D h => by cases h⟩, fun l h => by cases h⟩

/-- Into a function. -/
theorem ret_of {f : FuncId} {fn : Func} {c : Code} {n : Nat} {args : List Value} {R : Value → World → Prop} (hf : P.funcs[f]? = some fn) (hb : fn.body = some c) (hN : fn.ntmps = n) (hle : Nat.ble args.length n = true) {rs : List ResultVar} (hr : fn.results = rs.toArray)
    (h : WC P ⟨n, none, w, none, false⟩ c (retQ P rs R) (argFr 0 args) w) : Ret P f args.toArray w R := by
  refine (callsIn_wide (n := 0)).1 (callsIn_of_wp (F := Fence.wide) hf hb trivial ?_)
  have hle' : args.length ≤ n := by simpa using hle
  refine wpIn_mono (h _ (args_hold (by rw [hN]) hle') good_start) ?_
  rintro e a' w' ⟨l', hl', g, q⟩
  have hd : a'.defers = [] := by
    obtain ⟨Ds, h1, h2, _⟩ := g.marks
    rw [h1, h2 rfl]; rfl
  cases e with
  | normal => obtain ⟨vs, ho, hR⟩ := q; exact ⟨hd, _, outs_tmps hl' ho fn hr, _, rfl, ⟨g.dk, g.size⟩, hR⟩
  | ret => obtain ⟨vs, ho, hR⟩ := q; exact ⟨hd, _, outs_tmps hl' ho fn hr, _, rfl, ⟨g.dk, g.size⟩, hR⟩
  | _ => exact q.elim
end
end Go.Eng

set_option linter.unusedVariables false
set_option linter.unusedSimpArgs false
namespace Go.Eng
open Go.RowKit Go.Shelf Go.Proofs

section
variable {P : Program} {N : Ev} {K : Fr → World → Prop} {Q : Post} {l : Fr} {w : World}

def nodef (o : Oper) : Bool := match o.op with
  | .defer _ => false
  | _ => true
theorem semAt_nodef {ro : Option Nat} {ρ : Operand → Value} {o : Oper} (h : nodef o = true) : Oper.semAt ro ρ o = execOp ρ o :=
  Oper.semAt_eq ro ρ o (fun c hc => by simp [nodef, hc] at h)

/-- An operation that gives a value. -/
theorem op_val {o : Oper} {d : Nat} {v : Value} {w' : World} (hd : o.dst = some d) (hN : Nat.blt d N.n = true)
    (hrun : ∀ a, Holds N l a → (execOp a.eval o).run P w = .ok (.value v) w') (k : K ((d, v) :: l) w')
    (hw : DK N.ex w w' ∧ w.heap.size ≤ w'.heap.size := by exact ⟨DK.refl, Nat.le_refl _⟩) (hf : nodef o = true := by rfl) : OpW P N o K Q l w := by
  intro a ha hg
  refine ⟨fun _ _ => trivial, ?_⟩
  show o.uponIn (FW N.ro) 0 P a _ _ ((o.semAt N.ro a.eval).run P w)
  rw [semAt_nodef hf, hrun a ha, Oper.uponIn_value, hd]
  exact ⟨_, ha.put (by simpa [Nat.blt_eq] using hN) v, hg.step rfl hw.1 hw.2, k⟩

/-- An operation that gives nothing (a store). -/
theorem op_skip {o : Oper} {w' : World} (hd : o.dst = none)
    (hrun : ∀ a, Holds N l a → (execOp a.eval o).run P w = .ok .skip w') (k : K l w')
    (hw : DK N.ex w w' ∧ w.heap.size ≤ w'.heap.size := by exact ⟨DK.refl, Nat.le_refl _⟩) (hf : nodef o = true := by rfl) : OpW P N o K Q l w := by
  intro a ha hg
  refine ⟨fun _ _ => trivial, ?_⟩
  show o.uponIn (FW N.ro) 0 P a _ _ ((o.semAt N.ro a.eval).run P w)
  rw [semAt_nodef hf, hrun a ha, Oper.uponIn_skip, hd]
  exact ⟨_, ha, hg.step rfl hw.1 hw.2, k⟩

theorem dk_new {ex : Option Nat} {w w' : World} {b : Nat} {o : Obj} (h : New w w' b o) : DK ex w w' ∧ w.heap.size ≤ w'.heap.size := ⟨DK.of_below h.ext, by rw [h.size]; omega⟩
theorem dk_put {ex : Option Nat} {w w' : World} {b : Nat} {o : Obj} (h : Put w w' b) (hb : w.heap[b]? = some o) (ho : ctl o = false) : DK ex w w' ∧ w.heap.size ≤ w'.heap.size := by
  refine ⟨fun k o' hk hc _ => ?_, by rw [h.size]; exact Nat.le_refl _⟩
  by_cases e : k = b
  · subst e
    rw [hb] at hk; cases hk; rw [ho] at hc; cases hc
  · exact (h.other k e).trans hk

variable {d : Nat} {T U : TypeId} {pos : String} {aft : Array Edge} {g : Option (Nat × Bool)}

theorem op_move {x : Operand} {v : Value} (hx : evo l x = some v) (hN : Nat.blt d N.n = true) (k : K ((d, v) :: l) w) :
    OpW P N ⟨some d, .move x, T, pos, aft, g⟩ K Q l w :=
  op_val rfl hN (fun a ha => by simp [execOp, ha.eval hx]) k

theorem op_assign {x : Operand} {v : Value} (hx : evo l x = some v) (hN : Nat.blt d N.n = true) (k : K ((d, v) :: l) w) :
    OpW P N ⟨some d, .assign x, T, pos, aft, g⟩ K Q l w :=
  op_val rfl hN (fun a ha => by simp [execOp, ha.eval hx]) k

theorem op_pick_t {c x y : Operand} {v : Value} (hc : evo l c = some (.bool true)) (hx : evo l x = some v) (hN : Nat.blt d N.n = true) (k : K ((d, v) :: l) w) :
    OpW P N ⟨some d, .pick c x y, T, pos, aft, g⟩ K Q l w :=
  op_val rfl hN (fun a ha => by simp [execOp, ha.eval hx, ha.eval hc, asBool]) k

theorem op_pick_f {c x y : Operand} {v : Value} (hc : evo l c = some (.bool false)) (hx : evo l y = some v) (hN : Nat.blt d N.n = true) (k : K ((d, v) :: l) w) :
    OpW P N ⟨some d, .pick c x y, T, pos, aft, g⟩ K Q l w :=
  op_val rfl hN (fun a ha => by simp [execOp, ha.eval hx, ha.eval hc, asBool]) k

theorem op_extract {i : Nat} {x : Operand} {vs : Array Value} {v : Value} (hx : evo l x = some (.tuple vs)) (hv : vs[i]? = some v) (hN : Nat.blt d N.n = true) (k : K ((d, v) :: l) w) :
    OpW P N ⟨some d, .extract x i, T, pos, aft, g⟩ K Q l w :=
  op_val rfl hN (fun a ha => by simp [execOp, ha.eval hx, Instr.extract, hv]) k

/-! binary operators -/
theorem op_bin {op : BinOp} {x y : Operand} {vx vy v : Value} (hx : evo l x = some vx) (hy : evo l y = some vy)
    (hg : ∀ w, (eqGuard op T x y vx vy).run P w = .ok () w) (hr : ∀ w, (binOp op T vx vy).run P w = .ok v w) (hN : Nat.blt d N.n = true) (k : K ((d, v) :: l) w) {T' : TypeId} :
    OpW P N ⟨some d, .binOp op T x y T', U, pos, aft, g⟩ K Q l w :=
  op_val rfl hN (fun s hs => by simp [execOp, hs.eval hx, hs.eval hy, Sem.run_bind, hg w, hr w, Result.andThen_ok]) k

theorem wrap_in {k : IntKind} {n : Int} (h : k.min ≤ n ∧ n ≤ k.max) : k.wrap n = n := by
  cases k <;> simp [IntKind.min, IntKind.max, IntKind.wrap, IntKind.bits, IntKind.signed] at * <;> omega

variable {x y : Operand} {kd : IntKind} {a b : Int} {T' : TypeId}

theorem op_addw (hx : evo l x = some (.int kd a)) (hy : evo l y = some (.int kd b)) (hN : Nat.blt d N.n = true) (k : K ((d, .int kd (kd.wrap (a + b))) :: l) w) :
    OpW P N ⟨some d, .binOp .add T x y T', U, pos, aft, g⟩ K Q l w :=
  op_bin hx hy (fun w => by simp [eqGuard]) (fun w => by simp [binOp, Op.intArith]) hN k
theorem op_subw (hx : evo l x = some (.int kd a)) (hy : evo l y = some (.int kd b)) (hN : Nat.blt d N.n = true) (k : K ((d, .int kd (kd.wrap (a - b))) :: l) w) :
    OpW P N ⟨some d, .binOp .sub T x y T', U, pos, aft, g⟩ K Q l w :=
  op_bin hx hy (fun w => by simp [eqGuard]) (fun w => by simp [binOp, Op.intArith]) hN k
theorem op_mulw (hx : evo l x = some (.int kd a)) (hy : evo l y = some (.int kd b)) (hN : Nat.blt d N.n = true) (k : K ((d, .int kd (kd.wrap (a * b))) :: l) w) :
    OpW P N ⟨some d, .binOp .mul T x y T', U, pos, aft, g⟩ K Q l w :=
  op_bin hx hy (fun w => by simp [eqGuard]) (fun w => by simp [binOp, Op.intArith]) hN k

/-- int's own sums, within its bounds. -/
theorem wrap_i64 {n : Int} (h : -9223372036854775808 ≤ n ∧ n ≤ 9223372036854775807) : IntKind.i64.wrap n = n := wrap_in h
theorem op_add {r : Int} (hx : evo l x = some (.int .i64 a)) (hy : evo l y = some (.int .i64 b)) (hr : a + b = r) (hb : -9223372036854775808 ≤ r ∧ r ≤ 9223372036854775807) (hN : Nat.blt d N.n = true) (k : K ((d, .int .i64 r) :: l) w) :
    OpW P N ⟨some d, .binOp .add T x y T', U, pos, aft, g⟩ K Q l w := by
  subst hr; exact op_addw hx hy hN (by rw [wrap_i64 hb]; exact k)
theorem op_sub {r : Int} (hx : evo l x = some (.int .i64 a)) (hy : evo l y = some (.int .i64 b)) (hr : a - b = r) (hb : -9223372036854775808 ≤ r ∧ r ≤ 9223372036854775807) (hN : Nat.blt d N.n = true) (k : K ((d, .int .i64 r) :: l) w) :
    OpW P N ⟨some d, .binOp .sub T x y T', U, pos, aft, g⟩ K Q l w := by
  subst hr; exact op_subw hx hy hN (by rw [wrap_i64 hb]; exact k)
theorem op_mul {r : Int} (hx : evo l x = some (.int .i64 a)) (hy : evo l y = some (.int .i64 b)) (hr : a * b = r) (hb : -9223372036854775808 ≤ r ∧ r ≤ 9223372036854775807) (hN : Nat.blt d N.n = true) (k : K ((d, .int .i64 r) :: l) w) :
    OpW P N ⟨some d, .binOp .mul T x y T', U, pos, aft, g⟩ K Q l w := by
  subst hr; exact op_mulw hx hy hN (by rw [wrap_i64 hb]; exact k)

theorem op_lss (hx : evo l x = some (.int kd a)) (hy : evo l y = some (.int kd b)) (hN : Nat.blt d N.n = true) (k : K ((d, .bool (decide (a < b))) :: l) w) :
    OpW P N ⟨some d, .binOp .lss T x y T', U, pos, aft, g⟩ K Q l w :=
  op_bin hx hy (fun w => by simp [eqGuard]) (fun w => by simp [binOp, Op.intCmp]) hN k
theorem op_leq (hx : evo l x = some (.int kd a)) (hy : evo l y = some (.int kd b)) (hN : Nat.blt d N.n = true) (k : K ((d, .bool (decide (a ≤ b))) :: l) w) :
    OpW P N ⟨some d, .binOp .leq T x y T', U, pos, aft, g⟩ K Q l w :=
  op_bin hx hy (fun w => by simp [eqGuard]) (fun w => by simp [binOp, Op.intCmp]) hN k
theorem op_gtr (hx : evo l x = some (.int kd a)) (hy : evo l y = some (.int kd b)) (hN : Nat.blt d N.n = true) (k : K ((d, .bool (decide (b < a))) :: l) w) :
    OpW P N ⟨some d, .binOp .gtr T x y T', U, pos, aft, g⟩ K Q l w :=
  op_bin hx hy (fun w => by simp [eqGuard]) (fun w => by simp [binOp, Op.intCmp]) hN k
theorem op_geq (hx : evo l x = some (.int kd a)) (hy : evo l y = some (.int kd b)) (hN : Nat.blt d N.n = true) (k : K ((d, .bool (decide (b ≤ a))) :: l) w) :
    OpW P N ⟨some d, .binOp .geq T x y T', U, pos, aft, g⟩ K Q l w :=
  op_bin hx hy (fun w => by simp [eqGuard]) (fun w => by simp [binOp, Op.intCmp]) hN k
theorem op_eql (hx : evo l x = some (.int kd a)) (hy : evo l y = some (.int kd b)) (hN : Nat.blt d N.n = true) (k : K ((d, .bool (decide (a = b))) :: l) w) :
    OpW P N ⟨some d, .binOp .eql T x y T', U, pos, aft, g⟩ K Q l w :=
  op_bin hx hy (fun w => by simp [eqGuard]) (fun w => by simp [binOp, Op.intCmp]; rfl) hN k
theorem op_neq (hx : evo l x = some (.int kd a)) (hy : evo l y = some (.int kd b)) (hN : Nat.blt d N.n = true) (k : K ((d, .bool (!decide (a = b))) :: l) w) :
    OpW P N ⟨some d, .binOp .neq T x y T', U, pos, aft, g⟩ K Q l w :=
  op_bin hx hy (fun w => by simp [eqGuard]) (fun w => by simp [binOp, Op.intCmp]; rfl) hN k

theorem bytes_beq (s t : ByteArray) : (s.toList == t.toList) = decide (s = t) := by
  have h : s.toList = t.toList ↔ s = t := by
    constructor
    · intro h
      rw [ByteArray.toList_eq, ByteArray.toList_eq] at h
      cases s; cases t; simp at h; subst h; rfl
    · rintro rfl; rfl
  by_cases e : s = t
  · subst e; simp
  · simp [e, h]
theorem op_eqls {s t : ByteArray} (hx : evo l x = some (.string s)) (hy : evo l y = some (.string t)) (hN : Nat.blt d N.n = true) (k : K ((d, .bool (decide (s = t))) :: l) w) :
    OpW P N ⟨some d, .binOp .eql T x y T', U, pos, aft, g⟩ K Q l w :=
  op_bin hx hy (fun w => by simp [eqGuard]) (fun w => by simp [binOp, Op.stringOp, bytes_beq]) hN k
theorem op_neqs {s t : ByteArray} (hx : evo l x = some (.string s)) (hy : evo l y = some (.string t)) (hN : Nat.blt d N.n = true) (k : K ((d, .bool (!decide (s = t))) :: l) w) :
    OpW P N ⟨some d, .binOp .neq T x y T', U, pos, aft, g⟩ K Q l w :=
  op_bin hx hy (fun w => by simp [eqGuard]) (fun w => by simp [binOp, Op.stringOp, bytes_beq]) hN k

theorem op_not {c : Bool} (hx : evo l x = some (.bool c)) (hN : Nat.blt d N.n = true) (k : K ((d, .bool (!c)) :: l) w) :
    OpW P N ⟨some d, .unOp .not T x, U, pos, aft, g⟩ K Q l w :=
  op_val rfl hN (fun s hs => by simp [execOp, hs.eval hx, Op.unary]) k

/-! lengths -/
theorem op_len_slice {A : Option Addr} {n c e : Nat} {ts : Array TypeId} {cl : Array Operand} (hc : cl = #[x]) (ht : ts = #[T]) (hU : Und P T (.slice e)) (hx : evo l x = some (.slice A n c)) (hN : Nat.blt d N.n = true) (k : K ((d, .int .i64 n) :: l) w) :
    OpW P N ⟨some d, .call ⟨.builtin .len, cl, ts⟩, U, pos, aft, g⟩ K Q l w := by
  subst hc ht
  refine op_val rfl hN (fun s hs => ?_) k
  simp [execOp, resolve, invoke, builtin, Builtin.len_, hs.eval hx, run_underlying hU, goInt]

theorem op_len_str {s : ByteArray} {ts : Array TypeId} {cl : Array Operand} (hc : cl = #[x]) (ht : ts = #[T]) (hU : Und P T .string) (hx : evo l x = some (.string s)) (hN : Nat.blt d N.n = true) (k : K ((d, .int .i64 s.size) :: l) w) :
    OpW P N ⟨some d, .call ⟨.builtin .len, cl, ts⟩, U, pos, aft, g⟩ K Q l w := by
  subst hc ht
  refine op_val rfl hN (fun a ha => ?_) k
  simp [execOp, resolve, invoke, builtin, Builtin.len_, ha.eval hx, run_underlying hU, goInt]

theorem op_min {ts : Array TypeId} {cl : Array Operand} (hc : cl = #[x, y]) (hx : evo l x = some (.int kd a)) (hy : evo l y = some (.int kd b)) (hN : Nat.blt d N.n = true) (k : K ((d, .int kd (if b < a then b else a)) :: l) w) :
    OpW P N ⟨some d, .call ⟨.builtin .min, cl, ts⟩, U, pos, aft, g⟩ K Q l w := by
  subst hc
  refine op_val rfl hN (fun s hs => ?_) k
  simp [execOp, resolve, invoke, builtin, Builtin.min_, Builtin.min2, hs.eval hx, hs.eval hy]
theorem op_max {ts : Array TypeId} {cl : Array Operand} (hc : cl = #[x, y]) (hx : evo l x = some (.int kd a)) (hy : evo l y = some (.int kd b)) (hN : Nat.blt d N.n = true) (k : K ((d, .int kd (if b > a then b else a)) :: l) w) :
    OpW P N ⟨some d, .call ⟨.builtin .max, cl, ts⟩, U, pos, aft, g⟩ K Q l w := by
  subst hc
  refine op_val rfl hN (fun s hs => ?_) k
  simp [execOp, resolve, invoke, builtin, Builtin.max_, Builtin.max2, hs.eval hx, hs.eval hy]

/-! memory -/
theorem op_load1 {b o : Nat} {v : Value} (hx : evo l x = some (.pointer (some ⟨b, o, none⟩))) (hA : AggT P T false) (hc : w.cell? ⟨b, o, none⟩ = some v) (hN : Nat.blt d N.n = true) (k : K ((d, v) :: l) w) :
    OpW P N ⟨some d, .load T x, U, pos, aft, g⟩ K Q l w :=
  op_val rfl hN (fun s hs => by simp [execOp, hs.eval hx, Instr.loadAt, Instr.sureAddr, run_loadVar_one hA hc]) k

theorem op_loadN {b o n : Nat} {vs : List Value} (hx : evo l x = some (.pointer (some ⟨b, o, none⟩))) (hA : AggT P T true) (hS : Sz P T n) (hl : vs.length = n) (hc : Cells w b o vs) (hN : Nat.blt d N.n = true) (k : K ((d, .agg vs.toArray) :: l) w) :
    OpW P N ⟨some d, .load T x, U, pos, aft, g⟩ K Q l w :=
  op_val rfl hN (fun s hs => by simp [execOp, hs.eval hx, Instr.loadAt, Instr.sureAddr, run_loadVar_agg hA hS hl hc]) k

def FieldAt (P : Program) (T f off : Nat) : Prop := ∀ b o w, (Instr.fieldAt T (.pointer (some ⟨b, o, none⟩)) f).run P w = .ok (.pointer (some ⟨b, o + off, none⟩)) w
theorem op_fieldAddr {b o f off : Nat} (hx : evo l x = some (.pointer (some ⟨b, o, none⟩))) (hf : FieldAt P T f off) (hN : Nat.blt d N.n = true) (k : K ((d, .pointer (some ⟨b, o + off, none⟩)) :: l) w) :
    OpW P N ⟨some d, .fieldAddr T x f, U, pos, aft, g⟩ K Q l w :=
  op_val rfl hN (fun s hs => by simp [execOp, hs.eval hx, hf b o w]) k

theorem op_indexAddr {A : Option Addr} {b o n c e sz j : Nat} {i : Int} (hx : evo l x = some (.slice A n c)) (hy : evo l y = some (.int kd i)) (hU : Und P T (.slice e)) (hS : Sz P e sz) (hA : A = some ⟨b, o, none⟩) (hj : i = (j : Int)) (hlt : j < n)
    (hN : Nat.blt d N.n = true) (k : K ((d, .pointer (some ⟨b, o + j * sz, none⟩)) :: l) w) :
    OpW P N ⟨some d, .indexAddr T x y, U, pos, aft, g⟩ K Q l w := by
  subst hA hj
  refine op_val rfl hN (fun s hs => ?_) k
  have h1 : (0 : Int) ≤ (j : Int) ∧ (j : Int) < (n : Int) := by omega
  simp [execOp, hs.eval hx, hs.eval hy, Instr.indexAt, asIntOf, run_underlying hU, hS w, add_lit, hlt]

theorem op_box {v : Value} (hx : evo l x = some v) (hN : Nat.blt d N.n = true) (k : ∀ w' b, New w w' b (.cells v.cells T) → K ((d, .pointer (some ⟨b, 0, none⟩)) :: l) w') :
    OpW P N ⟨some d, .box T x, U, pos, aft, g⟩ K Q l w :=
  op_val rfl hN (fun s hs => by simp [execOp, hs.eval hx, Instr.box, newVar, run_newRow]) (k _ _ (new_push w _)) (dk_new (new_push w _))

theorem op_alloc {v : Value} (hZ : Zero P T v) (hN : Nat.blt d N.n = true) (k : ∀ w' b, New w w' b (.cells v.cells T) → K ((d, .pointer (some ⟨b, 0, none⟩)) :: l) w') :
    OpW P N ⟨some d, .alloc T, U, pos, aft, g⟩ K Q l w :=
  op_val rfl hN (fun s hs => by simp [execOp, Instr.alloc, newVar, hZ w, run_newRow]) (k _ _ (new_push w _)) (dk_new (new_push w _))

theorem op_store {b o : Nat} {cs : Array Value} {v : Value} {T' : TypeId} (hx : evo l x = some (.pointer (some ⟨b, o, none⟩))) (hy : evo l y = some v) (hS : Sz P T v.cells.size) (hb : w.heap[b]? = some (.cells cs T' (0, 0))) (h1 : (v.cells.toList.all (·.oneCell')) = true) (hl : Nat.ble (o + v.cells.size) cs.size = true)
    (k : ∀ w', Put w w' b → w'.heap[b]? = some (.cells (splice cs o v.cells.toList) T' (0, 0)) → K l w') :
    OpW P N ⟨none, .store T x y, U, pos, aft, g⟩ K Q l w := by
  obtain ⟨w', hr, hp, hb'⟩ := run_storeVar (P := P) (o := o) hS hb (by simpa only [List.all_eq_true] using h1) (by simpa using hl)
  refine op_skip rfl (fun s hs => ?_) (k w' hp hb') (dk_put hp hb rfl)
  simp [execOp, hs.eval hx, hs.eval hy, Instr.storeAt, Instr.sureAddr, hr]

def evos (l : Fr) : List (Nat × Operand) → Option (List (Nat × Value))
  | [] => some []
  | (i, x) :: r => match evo l x, evos l r with
    | some v, some vs => some ((i, v) :: vs)
    | _, _ => none
theorem evos_eval {s : Act} (hs : Holds N l s) {ps : List (Nat × Operand)} : ∀ {vs : List (Nat × Value)}, evos l ps = some vs → ps.map (fun p => (p.1, s.eval p.2)) = vs := by
  induction ps with
  | nil => intro vs h; simp [evos] at h; simp [h]
  | cons p r ih =>
    intro vs h
    obtain ⟨i, x⟩ := p
    simp only [evos] at h
    split at h
    · rename_i v us h1 h2
      cases h
      simp [hs.eval h1, ih h2]
    · cases h

theorem op_build {ps : List (Nat × Operand)} {vs : List (Nat × Value)} {v : Value} (hx : evos l ps = some vs) (hr : ∀ w, (Instr.build T vs.toArray).run P w = .ok v w) (hN : Nat.blt d N.n = true) (k : K ((d, v) :: l) w) :
    OpW P N ⟨some d, .build T ps.toArray, U, pos, aft, g⟩ K Q l w := by
  refine op_val rfl hN (fun s hs => ?_) k
  have e := evos_eval hs hx
  simp only [execOp, List.map_toArray, Sem.run_bind]
  rw [show (List.map (fun (x : Nat × Operand) => match x with | (i, x) => (i, s.eval x)) ps) = vs from e, hr w]
  rfl

theorem op_buildSlice {n e : Nat} {ps : List (Nat × Operand)} {vs : List (Nat × Value)} {cs : Array Value} (hx : evos l ps = some vs)
    (hr : ∀ w, (Instr.buildSlice T n vs.toArray).run P w = .ok (.slice (some ⟨w.heap.size, 0, none⟩) n n) { w with heap := w.heap.push (.cells cs e) }) (hN : Nat.blt d N.n = true)
    (k : ∀ w' b, New w w' b (.cells cs e) → K ((d, .slice (some ⟨b, 0, none⟩) n n) :: l) w') :
    OpW P N ⟨some d, .buildSlice T n ps.toArray, U, pos, aft, g⟩ K Q l w := by
  refine op_val rfl hN (fun s hs => ?_) (k _ _ (new_push w _)) (dk_new (new_push w _))
  have e := evos_eval hs hx
  simp only [execOp, List.map_toArray, Sem.run_bind]
  rw [show (List.map (fun (x : Nat × Operand) => match x with | (i, x) => (i, s.eval x)) ps) = vs from e, hr w]
  rfl

theorem op_nilCheck_p {a : Addr} (hx : evo l x = some (.pointer (some a))) (hN : Nat.blt d N.n = true) (k : K ((d, .pointer (some a)) :: l) w) :
    OpW P N ⟨some d, .nilCheck x, U, pos, aft, g⟩ K Q l w :=
  op_val rfl hN (fun s hs => by simp [execOp, hs.eval hx]) k

theorem op_convert {src dst : TypeId} {vx v : Value} (hx : evo l x = some vx) (hr : ∀ w, (convert src dst vx).run P w = .ok v w) (hN : Nat.blt d N.n = true) (k : K ((d, v) :: l) w) :
    OpW P N ⟨some d, .convert src dst x, U, pos, aft, g⟩ K Q l w :=
  op_val rfl hN (fun s hs => by simp [execOp, hs.eval hx, hr w]) k

theorem op_index {vx vi v : Value} (hx : evo l x = some vx) (hy : evo l y = some vi) (hr : ∀ w, (Instr.index T vx vi).run P w = .ok v w) (hN : Nat.blt d N.n = true) (k : K ((d, v) :: l) w) :
    OpW P N ⟨some d, .index T x y, U, pos, aft, g⟩ K Q l w :=
  op_val rfl hN (fun s hs => by simp [execOp, hs.eval hx, hs.eval hy, hr w]) k

theorem op_field {vx v : Value} {f : Nat} (hx : evo l x = some vx) (hr : ∀ w, (Instr.field T vx f).run P w = .ok v w) (hN : Nat.blt d N.n = true) (k : K ((d, v) :: l) w) :
    OpW P N ⟨some d, .field T x f, U, pos, aft, g⟩ K Q l w :=
  op_val rfl hN (fun s hs => by simp [execOp, hs.eval hx, hr w]) k

/-! calls -/
def evl (l : Fr) : List Operand → Option (List Value)
  | [] => some []
  | x :: r => match evo l x, evl l r with
    | some v, some vs => some (v :: vs)
    | _, _ => none
theorem evl_eval {s : Act} (hs : Holds N l s) {ps : List Operand} : ∀ {vs : List Value}, evl l ps = some vs → ps.map s.eval = vs := by
  induction ps with
  | nil => intro vs h; simp [evl] at h; simp [h]
  | cons x r ih =>
    intro vs h
    simp only [evl] at h
    split at h
    · rename_i v us h1 h2
      cases h
      simp [hs.eval h1, ih h2]
    · cases h

theorem calls_FW {ro : Option Nat} {n : Nat} {f : FuncId} {args : Array Value} {R : Ending → World → Prop} (h : Calls P f args w R) : CallsIn (FW ro) n P f args w R := by
  have h' : CallsIn Fence.wide n P f args w R := callsIn_wide.2 h
  cases ro with
  | none => exact h'
  | some l => exact h'.inRound l

theorem op_enter {o : Oper} {f : FuncId} {args : Array Value} {R : Value → World → Prop} (hd : o.dst = some d) (hN : Nat.blt d N.n = true)
    (hrun : ∀ a, Holds N l a → (execOp a.eval o).run P w = .ok (.enter f args) w) (hc : Ret P f args w R) (k : ∀ v w', R v w' → K ((d, v) :: l) w') (hf : nodef o = true := by rfl) : OpW P N o K Q l w := by
  intro a ha hg
  refine ⟨fun _ _ => trivial, ?_⟩
  show o.uponIn (FW N.ro) 0 P a _ _ ((o.semAt N.ro a.eval).run P w)
  rw [semAt_nodef hf, hrun a ha, Oper.uponIn_enter]
  refine ⟨(fun h => by simp [FW] at h), CallsIn.mono (calls_FW hc) ?_⟩
  rintro e w' ⟨v, rfl, hdk, hR⟩
  rw [hd]
  exact ⟨_, ha.put (by simpa [Nat.blt_eq] using hN) v, hg.step rfl hdk.1.some hdk.2, k v w' hR⟩

theorem op_call {f : FuncId} {xs : List Operand} {vs : List Value} {ts : Array TypeId} {R : Value → World → Prop} (hf : Enters P f) (hx : evl l xs = some vs) (hc : Ret P f vs.toArray w R) (hN : Nat.blt d N.n = true)
    (k : ∀ v w', R v w' → K ((d, v) :: l) w') : OpW P N ⟨some d, .call ⟨.value (.func f), xs.toArray, ts⟩, U, pos, aft, g⟩ K Q l w := by
  refine op_enter rfl hN (fun s hs => ?_) hc k
  have e := evl_eval hs hx
  simp [execOp, resolve, Deferred.ofValue, Act.eval, invoke, e, hf _ w]

theorem op_callv {f : FuncId} {fx : Operand} {first caps : Array Value} {xs : List Operand} {vs : List Value} {ts : Array TypeId} {args : Array Value} {R : Value → World → Prop} (hfx : evo l fx = some (.func (.func f) first caps)) (hf : Enters P f) (hx : evl l xs = some vs) (ha : first ++ vs.toArray ++ caps = args) (hc : Ret P f args w R) (hN : Nat.blt d N.n = true)
    (k : ∀ v w', R v w' → K ((d, v) :: l) w') : OpW P N ⟨some d, .call ⟨.value fx, xs.toArray, ts⟩, U, pos, aft, g⟩ K Q l w := by
  subst ha
  refine op_enter rfl hN (fun s hs => ?_) hc k
  have e := evl_eval hs hx
  simp [execOp, resolve, Deferred.ofValue, hs.eval hfx, invoke, e, hf _ w]

theorem op_makeFunc {fn : Fn} {fs cs : List Operand} {us vs : List Value} (h1 : evl l fs = some us) (h2 : evl l cs = some vs) (hN : Nat.blt d N.n = true) (k : K ((d, .func fn us.toArray vs.toArray) :: l) w) :
    OpW P N ⟨some d, .makeFunc fn fs.toArray cs.toArray, U, pos, aft, g⟩ K Q l w := by
  refine op_val rfl hN (fun s hs => ?_) k
  simp [execOp, Instr.makeFunc, evl_eval hs h1, evl_eval hs h2]

end
end Go.Eng

set_option linter.unusedVariables false
set_option linter.unusedSimpArgs false
namespace Go.Eng
open Go.RowKit Go.Shelf Go.Proofs

/-! a region that draws its order: each operation's value is told by a predicate that new blocks leave as it is -/
abbrev VP := Value → World → Prop
/-- What a region's operations may do to the world. -/
structure SR (S : World → World → Prop) : Prop where
  refl : ∀ w, S w w
  trans : ∀ a b c, S a b → S b c → S a c
  drawn : ∀ w k W, S { w with drawn := k } W → S w W
def Mono (S : World → World → Prop) (φ : VP) : Prop := ∀ v W W', S W W' → φ v W → φ v W'

def dstOf (o : Oper) : Nat := o.dst.getD 0

def Gather : List (Option Nat × VP) → Fr → World → (Fr → Prop) → Prop
  | [], l, _, K => K l
  | (some d, φ) :: r, l, W, K => ∀ v, φ v W → Gather r ((d, v) :: l) W K
  | (none, φ) :: r, l, W, K => φ undef W → Gather r l W K

/-- What an operation leaves is told. -/
def toldL (o : Oper) (φ : VP) (l : Fr) (W : World) : Prop := match o.dst with
  | some d => ∃ v, l.look d = some v ∧ φ v W
  | none => φ undef W
def toldA (o : Oper) (φ : VP) (a : Act) (W : World) : Prop := match o.dst with
  | some d => ∃ v, a.tmps[d]? = some v ∧ φ v W
  | none => φ undef W
theorem told {o : Oper} {φ : VP} {l : Fr} {W : World} {d : Nat} {v : Value} (hd : o.dst = some d) (h1 : l.look d = some v) (h2 : φ v W) : toldL o φ l W := by unfold toldL; rw [hd]; exact ⟨v, h1, h2⟩
theorem told_n {o : Oper} {φ : VP} {l : Fr} {W : World} (hd : o.dst = none) (h2 : φ undef W) : toldL o φ l W := by unfold toldL; rw [hd]; exact h2

/-- One operation, its guard among it. -/
def OpG (P : Program) (N : Ev) (S : World → World → Prop) (ops : List Oper) (o : Oper) (φ : VP) (Q : Post) (l : Fr) (W : World) : Prop :=
  match o.guard with
  | none => OpW P N o (fun l' W' => toldL o φ l' W' ∧ S W W') Q l W
  | some (j, b) => ∃ vj, ((ops[j]?).bind fun o' => o'.dst.bind l.look) = some vj ∧
      (vj = .bool b → OpW P N o (fun l' W' => toldL o φ l' W' ∧ S W W') Q l W) ∧ (vj ≠ .bool b → φ undef W)

def depAt (ops : List Oper) (Φ : List VP) (js : List Nat) : List (Option Nat × VP) := js.map fun j => ((ops[j]?).bind (·.dst), (Φ[j]?).getD fun _ _ => True)

def Obs (P : Program) (N : Ev) (S : World → World → Prop) (ops : List Oper) (Φ : List VP) (Q : Post) (lb : Fr) (w : World) : List Oper → List VP → List (List Nat) → Prop
  | o :: os, φ :: φs, js :: jss => (∀ W, S w W → Gather (depAt ops Φ js) lb W fun l => OpG P N S ops o φ Q l W) ∧ Obs P N S ops Φ Q lb w os φs jss
  | _, _, _ => True

def Monos (S : World → World → Prop) : List VP → Prop
  | [] => True
  | φ :: r => Mono S φ ∧ Monos S r

def memB (a : Nat) : List Nat → Bool
  | [] => false
  | b :: l => Nat.beq a b || memB a l
def nodupB : List Nat → Bool
  | [] => true
  | a :: l => !memB a l && nodupB l
theorem memB_iff {a : Nat} {l : List Nat} : memB a l = true ↔ a ∈ l := by
  induction l with
  | nil => simp [memB]
  | cons b l ih => simp [memB, ih]
theorem nodup_of {l : List Nat} (h : nodupB l = true) : l.Nodup := by
  induction l with
  | nil => simp
  | cons a l ih =>
    simp only [nodupB, Bool.and_eq_true, Bool.not_eq_true'] at h
    refine List.nodup_cons.2 ⟨fun hm => ?_, ih h.2⟩
    rw [memB_iff.2 hm] at h
    exact absurd h.1 (by simp)

/-- Each operation has a slot of its own, which the frame does not name; what an operation asks about stands among the edges that it waits for; a guard's operation is one that is asked about. -/
def drawOk (N : Nat) (ops : List Oper) (dep : List (List Nat)) (lb : Fr) : Bool :=
  (ops.all fun o => o.dst.isNone || (Nat.blt (dstOf o) N && (lb.look (dstOf o)).isNone)) &&
  ((ops.zipIdx).all fun (o, i) => (ops.zipIdx).all fun (o', i') => Nat.beq i i' || (o.dst.isNone || (o'.dst.isNone || !Nat.beq (dstOf o) (dstOf o')))) && Nat.beq dep.length ops.length &&
  ((ops.zip dep).all fun (o, js) => js.all fun j => o.after.toList.any fun e => Region.binds .any e && Nat.beq e.on j) &&
  ((ops.zipIdx).all fun (o, i) => o.after.toList.all fun e => !Region.binds .any e || Nat.blt e.on i)

theorem gather_nil {l : Fr} {W : World} {K : Fr → Prop} (h : K l) : Gather [] l W K := h

theorem Gather.imp {ds : List (Option Nat × VP)} : ∀ {l : Fr} {W : World} {K K' : Fr → Prop}, (∀ l, K l → K' l) → Gather ds l W K → Gather ds l W K' := by
  induction ds with
  | nil => intro l W K K' h g; exact h _ g
  | cons p r ih =>
    intro l W K K' h g
    obtain ⟨d, φ⟩ := p
    cases d with
    | some d => exact fun v hv => ih h (g v hv)
    | none => exact fun hv => ih h (g hv)

section
variable {P : Program} {N : Ev} {Q : Post} {l : Fr} {w : World}

theorem Oper.wpIn_frame {F : Fence} {n : Nat} {o : Oper} {a : Act} {w : World} {K : Act → World → Prop} {Q' : Exit → Act → World → Prop} (h : o.wpIn F n P a w K Q') :
    o.wpIn F n P a w (fun a' w' => K a' w' ∧ ∃ v, a'.tmps = (a.put o.dst v).tmps) Q' := by
  unfold Oper.wpIn at *
  refine ⟨h.1, ?_⟩
  have h := h.2
  generalize (o.semAt F.round a.eval).run P w = r at *
  cases r with
  | ok n w' =>
    cases n <;> simp only [Oper.uponIn] at h ⊢ <;>
      first
        | exact ⟨h, _, rfl⟩
        | exact ⟨h.1, CallsIn.mono h.2 (fun e w'' he => by cases e <;> first | exact ⟨he, _, rfl⟩ | exact he)⟩
        | exact ⟨h.1, RowsIn.mono h.2 (fun _ _ he => ⟨he, _, rfl⟩)⟩
        | exact ⟨h.1, RoundIn.mono h.2 (fun e w'' he => by cases e <;> first | exact ⟨he, _, rfl⟩ | exact he)⟩
        | (refine ⟨h, undef, ?_⟩; cases o.dst <;> rfl)
  | halt x w' => cases x <;> simp only [Oper.uponIn] at h ⊢ <;> exact h

def toldP (p : Option Nat × VP) (a : Act) (W : World) : Prop := match p.1 with
  | some d => ∃ v, a.tmps[d]? = some v ∧ p.2 v W
  | none => p.2 undef W
theorem Gather.use {ds : List (Option Nat × VP)} : ∀ {l : Fr} {W : World} {K : Fr → Prop} {a : Act}, Gather ds l W K → Holds N l a → (∀ p ∈ ds, toldP p a W) → ∃ l', Holds N l' a ∧ K l' := by
  induction ds with
  | nil => intro l W K a g ha _; exact ⟨l, ha, g⟩
  | cons p r ih =>
    intro l W K a g ha hd
    obtain ⟨d, φ⟩ := p
    cases d with
    | none => exact ih (g (hd (none, φ) (by simp))) ha (fun p hp => hd p (by simp [hp]))
    | some d =>
    obtain ⟨v, hv, hφ⟩ := hd (some d, φ) (by simp)
    refine ih (g v hφ) ⟨ha.size, ?_⟩ (fun p hp => hd p (by simp [hp]))
    intro t u ht
    rw [Fr.look_cons] at ht
    split at ht
    · rename_i e; subst e; cases ht; exact hv
    · exact ha.slot t u ht

theorem gather_up {a : Act} {W : World} {Q : Fr → World → Prop} (hg : Good N a W) (h : ∃ l', Holds N l' a ∧ Q l' W) : ∃ l', Holds N l' a ∧ Good N a W ∧ Q l' W := let ⟨l', h1, h2⟩ := h; ⟨l', h1, hg, h2⟩

theorem told_dep {ops : List Oper} {Φ : List VP} {j : Nat} {o : Oper} {φ : VP} {a : Act} {W : World} (ho : ops[j]? = some o) (hφ : Φ[j]? = some φ) (h : toldA o φ a W) : toldP ((ops[j]?).bind (·.dst), (Φ[j]?).getD fun _ _ => True) a W := by
  rw [ho, hφ]
  unfold toldA at h
  unfold toldP
  cases hd : o.dst with
  | none => rw [hd] at h; simpa [hd] using h
  | some d => rw [hd] at h; simpa [hd] using h
theorem told_hold {o : Oper} {φ : VP} {l : Fr} {a : Act} {W : World} (h : toldL o φ l W) (hl : Holds N l a) : toldA o φ a W := by
  unfold toldL at h
  unfold toldA
  cases hd : o.dst with
  | none => rw [hd] at h; exact h
  | some d => rw [hd] at h; obtain ⟨v, h1, h2⟩ := h; exact ⟨v, hl.slot _ _ h1, h2⟩

/-- What is known between two operations. -/
structure Mid (N : Ev) (S : World → World → Prop) (ops : List Oper) (Φ : List VP) (lb : Fr) (w : World) (listed : Array Bool) (a : Act) (W : World) : Prop where
  below : S w W
  base : Holds N lb a
  good : Good N a W
  done : ∀ (i : Nat) (o : Oper) (φ : VP), ops[i]? = some o → Φ[i]? = some φ → listed[i]? = some true → toldA o φ a W

theorem Obs.at {S : World → World → Prop} {ops : List Oper} {Φ : List VP} {lb : Fr} {os : List Oper} : ∀ {φs : List VP} {jss : List (List Nat)}, Obs P N S ops Φ Q lb w os φs jss → ∀ {i : Nat} {o : Oper} {φ : VP} {js : List Nat}, os[i]? = some o → φs[i]? = some φ → jss[i]? = some js →
    ∀ W, S w W → Gather (depAt ops Φ js) lb W fun l => OpG P N S ops o φ Q l W := by
  induction os with
  | nil => intro φs jss _ i o φ js h; simp at h
  | cons o' os ih =>
    intro φs jss h i o φ js h1 h2 h3
    cases φs with
    | nil => simp at h2
    | cons φ' φs =>
      cases jss with
      | nil => simp at h3
      | cons js' jss =>
        cases i with
        | zero => simp at h1 h2 h3; subst h1 h2 h3; exact h.1
        | succ i => simp at h1 h2 h3; exact ih h.2 h1 h2 h3

theorem Monos.at {S : World → World → Prop} {Φ : List VP} (h : Monos S Φ) : ∀ {i : Nat} {φ : VP}, Φ[i]? = some φ → Mono S φ := by
  induction Φ with
  | nil => intro i φ h; simp at h
  | cons φ' Φ ih =>
    intro i φ hi
    cases i with
    | zero => simp at hi; subst hi; exact h.1
    | succ i => simp at hi; exact ih h.2 hi

theorem edges_of {N : Nat} {ops : List Oper} {dep : List (List Nat)} {lb : Fr} (hok : drawOk N ops dep lb = true) {i : Nat} {o : Oper} (ho : ops[i]? = some o) : ∀ e ∈ o.after, Region.binds .any e = true → e.on < i := by
  simp only [drawOk, Bool.and_eq_true, List.all_eq_true] at hok
  obtain ⟨⟨⟨⟨h1, h2'⟩, h3⟩, h4⟩, h5⟩ := hok
  intro e he hb
  have := h5 (o, i) (by rw [List.mem_zipIdx_iff_getElem?]; simpa using ho)
  simp only [List.all_eq_true] at this
  have hx := this e (Array.mem_toList_iff.2 he)
  simpa [hb] using hx

theorem mid_step {S : World → World → Prop} (hS : SR S) {ops : List Oper} {Φ : List VP} {dep : List (List Nat)} {lb : Fr} (hok : drawOk N.n ops dep lb = true) (hΦ : Φ.length = ops.length) (hmono : Monos S Φ) (hob : Obs P N S ops Φ Q lb w ops Φ dep)
    {listed : Array Bool} {a : Act} {W : World} (hmid : Mid N S ops Φ lb w listed a W) {i : Nat} {o : Oper} (ho : ops[i]? = some o)
    (hrd : ∀ e ∈ o.after, Region.binds .any e = true → listed[e.on]? = some true) {Kn : Act → World → Prop} (hK : ∀ a' W', Mid N S ops Φ lb w (listed.setIfInBounds i true) a' W' → Kn a' W')
    {full : Array Oper} (hfull : ∀ (k : Nat) (o : Oper), ops[k]? = some o → full[k]? = some o) : wpOpIn (FW N.ro) 0 P full (up N Q) i Kn a W := by
  have hok0 := hok
  simp only [drawOk, Bool.and_eq_true, List.all_eq_true] at hok
  obtain ⟨⟨⟨⟨h1, h2'⟩, h3⟩, h4⟩, h5⟩ := hok
  have hlt : i < ops.length := (List.getElem?_eq_some_iff.1 ho).1
  have ho' : full[i]? = some o := hfull i o ho
  have hφl : i < Φ.length := by omega
  have hφ : Φ[i]? = some (Φ[i]'hφl) := List.getElem?_eq_getElem hφl
  generalize hφφ : Φ[i]'hφl = φ at *
  have hdl : i < dep.length := by have := Nat.eq_of_beq_eq_true h3; omega
  have hj : dep[i]? = some (dep[i]'hdl) := List.getElem?_eq_getElem hdl
  generalize hjj : dep[i]'hdl = js at *
  have hdst := h1 o (List.mem_of_getElem? ho)
  have hdN : ∀ d, o.dst = some d → d < N.n ∧ lb.look d = none := by
    intro d hd
    simp [hd, dstOf] at hdst
    exact hdst
  have huniq : ∀ (k : Nat) (ok : Oper) (d : Nat), ops[k]? = some ok → o.dst = some d → ok.dst = some d → i = k := by
    intro k ok d hk hd hdk
    have hz := h2' (o, i) (by rw [List.mem_zipIdx_iff_getElem?]; simpa using ho)
    have hz2 := hz (ok, k) (by rw [List.mem_zipIdx_iff_getElem?]; simpa using hk)
    simpa [hd, hdk, dstOf] using hz2
  -- what the operation asks about is done
  have hdeps : ∀ p ∈ depAt ops Φ js, toldP p a W := by
    intro p hp
    simp only [depAt, List.mem_map] at hp
    obtain ⟨j, hjm, rfl⟩ := hp
    have hz := h4 (o, js) (by
      refine List.mem_of_getElem? (i := i) ?_
      rw [List.getElem?_zip_eq_some]; exact ⟨ho, hj⟩)
    have hz' := hz j hjm
    rw [List.any_eq_true] at hz'
    obtain ⟨e, he, hb⟩ := hz'
    have he := Array.mem_toList_iff.1 he
    rw [Bool.and_eq_true] at hb
    have hej : e.on = j := Nat.eq_of_beq_eq_true hb.2
    have hL' : listed[j]? = some true := by rw [← hej]; exact hrd e he hb.1
    have hjlt : j < ops.length := by
      have := edges_of hok0 ho e he hb.1; omega
    have hoj : ops[j]? = some (ops[j]'hjlt) := List.getElem?_eq_getElem hjlt
    have hφj : Φ[j]? = some (Φ[j]'(by omega)) := List.getElem?_eq_getElem (by omega)
    have := hmid.done j _ _ hoj hφj hL'
    exact told_dep hoj hφj this
  obtain ⟨l', hl', hG⟩ := Gather.use (hob.at ho hφ hj W hmid.below) hmid.base hdeps
  -- what holds behind the operation
  have hstep : ∀ (a' : Act) (W' : World) (v : Value), a'.tmps = (a.put o.dst v).tmps → Good N a' W' → toldA o φ a' W' → S W W' → Mid N S ops Φ lb w (listed.setIfInBounds i true) a' W' := by
    intro a' W' v ht hdf hφv hBW
    have hget : ∀ t, o.dst ≠ some t → a'.tmps[t]? = a.tmps[t]? := by
      intro t hne
      rw [ht]
      cases hd : o.dst with
      | none => rfl
      | some d =>
        rw [hd] at hne
        simp only [Act.put, Array.getElem?_setIfInBounds_ne (fun e : d = t => hne (by rw [e]))]
    refine ⟨hS.trans _ _ _ hmid.below hBW, ⟨?_, ?_⟩, hdf, ?_⟩
    · rw [ht]; cases o.dst <;> simp [Act.put, hmid.base.size]
    · intro t u htu
      rw [hget t (fun hd => by have := (hdN t hd).2; rw [htu] at this; cases this)]
      exact hmid.base.slot t u htu
    · intro k ok φk hok hφk hlk
      by_cases hik : i = k
      · subst hik
        rw [ho] at hok; cases hok
        rw [hφ] at hφk; cases hφk
        exact hφv
      · have hlk' : listed[k]? = some true := by
          rwa [Array.getElem?_setIfInBounds_ne hik] at hlk
        have hdn := hmid.done k ok φk hok hφk hlk'
        unfold toldA at hdn ⊢
        cases hdk : ok.dst with
        | none => rw [hdk] at hdn; exact hmono.at hφk undef W W' hBW hdn
        | some dk =>
          rw [hdk] at hdn
          obtain ⟨u, hu, hφu⟩ := hdn
          refine ⟨u, ?_, hmono.at hφk u W W' hBW hφu⟩
          rw [hget dk (fun hd => hik (huniq k ok dk hok hd hdk))]
          exact hu
  -- the operation itself
  have hrun : ∀ (hop : OpW P N o (fun l' W' => toldL o φ l' W' ∧ S W W') Q l' W), o.wpIn (FW N.ro) 0 P a W Kn (up N Q) := by
    intro hop
    refine Oper.wpIn_mono ?_ (Oper.wpIn_frame (hop a hl' hmid.good))
    rintro a' W' ⟨⟨l₁, hl₁, hgd, htd, hBW⟩, u, hu⟩
    exact hK a' W' (hstep a' W' u hu hgd (told_hold htd hl₁) hBW)
  unfold wpOpIn
  rw [ho']
  simp only []
  unfold OpG at hG
  cases hg : o.guard with
  | none =>
    rw [hg] at hG
    rw [if_pos (by simp [Region.wanted, hg])]
    exact hrun hG
  | some jb =>
    obtain ⟨j, b⟩ := jb
    rw [hg] at hG
    obtain ⟨vj, hc, hy, hn⟩ := hG
    rw [Option.bind_eq_some_iff] at hc
    obtain ⟨oj, hoj, hc⟩ := hc
    rw [Option.bind_eq_some_iff] at hc
    obtain ⟨dj, hdj, hc⟩ := hc
    have hyl : (yielded full a.tmps j == some b) = true ↔ vj = .bool b := by
      have hojf := hfull j oj hoj
      have hs := hl'.slot _ _ hc
      cases vj <;> simp [yielded, hojf, hdj, hs]
    by_cases hcb : vj = .bool b
    · rw [if_pos (by simp only [Region.wanted, hg]; exact hyl.2 hcb)]
      exact hrun (hy hcb)
    · rw [if_neg (by simp only [Region.wanted, hg]; exact fun h => hcb (hyl.1 h))]
      refine ⟨fun _ _ => trivial, hK _ W (hstep _ W undef rfl (hmid.good.step (by cases hx : o.dst <;> rfl) DK.refl (Nat.le_refl _)) ?_ (hS.refl _))⟩
      unfold toldA
      cases hd : o.dst with
      | none => exact hn hcb
      | some d =>
        have hdlt : d < a.tmps.size := by rw [hmid.base.size]; exact (hdN d hd).1
        exact ⟨undef, by simp [Act.put, hdlt], hn hcb⟩

theorem draw_any {S : World → World → Prop} (hS : SR S) {ops : List Oper} {Φ : List VP} {dep : List (List Nat)} {lb : Fr} (hok : drawOk N.n ops dep lb = true) (hΦ : Φ.length = ops.length) (hmono : Monos S Φ) (hob : Obs P N S ops Φ Q lb w ops Φ dep)
    (hfin : ∀ a W listed, Mid N S ops Φ lb w listed a W → (∀ i, i < ops.length → listed[i]? = some true) → up N Q .normal a W) :
    ∀ (fuel : Nat) (listed : Array Bool) (a : Act) (W : World), Mid N S ops Φ lb w listed a W → listed.size = ops.length → (listed.toList.filter (! ·)).length ≤ fuel →
      wpAnyIn (FW N.ro) 0 P .any ops.toArray (up N Q) fuel listed a W := by
  -- where nothing is ready all is done
  have hall : ∀ listed : Array Bool, listed.size = ops.length → Region.ready .any ops.toArray listed = [] → ∀ i, i < ops.length → listed[i]? = some true := by
    intro listed hs hr i
    induction i using Nat.strongRecOn with
    | _ i ih =>
      intro hi
      rcases hl : listed[i]? with _ | b
      · simp at hl; omega
      · cases b with
        | true => rfl
        | false =>
          exfalso
          have : i ∈ Region.ready .any ops.toArray listed := by
            simp only [Region.ready, List.mem_filter, List.mem_range, List.size_toArray]
            refine ⟨hi, ?_⟩
            simp only [Array.getD_eq_getD_getElem?, hl, Option.getD_some, Bool.not_false, Bool.true_and]
            have ho0 : ops[i]? = some (ops[i]'hi) := List.getElem?_eq_getElem hi
            have ho : ops.toArray[i]? = some (ops[i]'hi) := by simp
            simp only [ho, Option.map_some, Option.getD_some, Array.all_eq_true']
            intro e he
            by_cases hb : Region.binds .any e = true
            · have hlt := edges_of hok ho0 e he hb
              simp only [hb, Bool.not_true, Bool.false_or]
              rw [ih e.on hlt (by omega)]; rfl
            · simp [hb]
          rw [hr] at this
          cases this
  intro fuel
  induction fuel with
  | zero =>
    intro listed a W hmid hs hf
    have hnil : ∀ i, i < ops.length → listed[i]? = some true := by
      intro i hi
      have hfl : listed.toList.filter (! ·) = [] := List.eq_nil_of_length_eq_zero (by omega)
      rw [List.filter_eq_nil_iff] at hfl
      have hlt : i < listed.size := by omega
      have hm := hfl listed[i] (by simp)
      rw [Array.getElem?_eq_getElem hlt]
      simpa using hm
    refine ⟨?_, hfin a W listed hmid hnil⟩
    simp only [Region.ready, List.filter_eq_nil_iff, List.mem_range, List.size_toArray]
    intro i hi
    simp [Array.getD_eq_getD_getElem?, hnil i hi]
  | succ fuel ih =>
    intro listed a W hmid hs hf
    refine ⟨fun hr => hfin a W listed hmid (hall listed hs hr), ?_⟩
    intro i hi
    simp only [Region.ready, List.mem_filter, List.mem_range, List.size_toArray] at hi
    obtain ⟨hlt, hi⟩ := hi
    rw [Bool.and_eq_true] at hi
    obtain ⟨hun, hrd⟩ := hi
    have ho : ops[i]? = some (ops[i]'hlt) := List.getElem?_eq_getElem hlt
    have ho' : ops.toArray[i]? = some (ops[i]'hlt) := by simp
    have hun' : listed[i]? = some false := by
      have hlt' : i < listed.size := by omega
      rw [Array.getElem?_eq_getElem hlt']
      simp only [Array.getD_eq_getD_getElem?, Array.getElem?_eq_getElem hlt', Option.getD_some] at hun
      simpa using hun
    have hcount : ((listed.setIfInBounds i true).toList.filter (! ·)).length ≤ fuel := by
      have hlt' : i < listed.toList.length := by simp; omega
      have e1 : (listed.setIfInBounds i true).toList = listed.toList.set i true := by simp
      rw [e1]
      have e2 : listed.toList = listed.toList.take i ++ false :: listed.toList.drop (i + 1) := by
        have hg : listed.toList[i] = false := by
          have := hun'
          rw [Array.getElem?_eq_getElem (by simpa using hlt')] at this
          simpa using this
        rw [← hg, ← List.drop_eq_getElem_cons hlt']; simp
      have e3 : listed.toList.set i true = listed.toList.take i ++ true :: listed.toList.drop (i + 1) := by
        rw [List.set_eq_take_append_cons_drop, if_pos hlt']
      rw [e3]
      rw [e2] at hf
      simp only [List.filter_append, List.length_append, List.filter_cons, Bool.not_false, Bool.not_true, if_true, List.length_cons] at hf ⊢
      simp at hf ⊢
      omega
    refine mid_step hS hok hΦ hmono hob hmid ho ?_ (fun a' W' hm => ih _ a' W' hm (by simp [hs]) hcount) (fun k o h => by simpa using h)
    intro e he hb
    rw [ho'] at hrd
    simp only [Option.map_some, Option.getD_some, Array.all_eq_true'] at hrd
    have := hrd e he
    simp only [hb, Bool.not_true, Bool.false_or] at this
    rcases hlj : listed[e.on]? with _ | b
    · simp [Array.getD_eq_getD_getElem?, hlj] at this
    · simp [Array.getD_eq_getD_getElem?, hlj] at this; rw [this]

/-- The same in the order of the text. -/
theorem text_any {S : World → World → Prop} (hS : SR S) {ops : List Oper} {Φ : List VP} {dep : List (List Nat)} {lb : Fr} (hok : drawOk N.n ops dep lb = true) (hΦ : Φ.length = ops.length) (hmono : Monos S Φ) (hob : Obs P N S ops Φ Q lb w ops Φ dep)
    (hfin : ∀ a W listed, Mid N S ops Φ lb w listed a W → (∀ i, i < ops.length → listed[i]? = some true) → up N Q .normal a W) :
    ∀ (m k : Nat) (listed : Array Bool) (a : Act) (W : World), k + m = ops.length → Mid N S ops Φ lb w listed a W → listed.size = ops.length → (∀ j, j < k → listed[j]? = some true) →
      wpOpsIn (FW N.ro) 0 P ops.toArray (up N Q) (List.range' k m) a W := by
  intro m
  induction m with
  | zero =>
    intro k listed a W hk hmid hs hl
    exact hfin a W listed hmid (fun i hi => hl i (by omega))
  | succ m ih =>
    intro k listed a W hk hmid hs hl
    rw [List.range'_succ, wpOpsIn_cons]
    have ho : ops[k]? = some (ops[k]'(by omega)) := List.getElem?_eq_getElem (by omega)
    refine mid_step hS hok hΦ hmono hob hmid ho (fun e he hb => hl _ (edges_of hok ho e he hb)) (fun a' W' hm => ih (k + 1) _ a' W' (by omega) hm (by simp [hs]) ?_) (fun k o h => by simpa using h)
    intro j hj
    by_cases e : k = j
    · subst e
      rw [Array.getElem?_setIfInBounds_self_of_lt (by omega)]
    · rw [Array.getElem?_setIfInBounds_ne e]
      exact hl j (by omega)

/-- Behind the first m operations the others stand in one line. -/
def chainOk (m : Nat) (ops : List Oper) : Bool :=
  (ops.zipIdx).all fun (o, i) => Nat.blt i m || (List.range i).all fun j => (Nat.ble m j && Nat.blt (j + 1) i) || o.after.toList.any fun e => Region.binds .any e && Nat.beq e.on j

theorem chain_of {m : Nat} {ops : List Oper} (h : chainOk m ops = true) {i j : Nat} {o : Oper} (ho : ops[i]? = some o) (hm : m ≤ i) (hj : j < i) (hjm : j < m ∨ j + 1 = i) : ∃ e ∈ o.after, Region.binds .any e = true ∧ e.on = j := by
  simp only [chainOk, List.all_eq_true] at h
  have := h (o, i) (by rw [List.mem_zipIdx_iff_getElem?]; simpa using ho)
  simp only [Bool.or_eq_true, Nat.blt_eq, List.all_eq_true, List.mem_range, List.any_eq_true, Bool.and_eq_true] at this
  rcases this with h1 | h1
  · omega
  · rcases h1 j hj with h2 | h2
    · have := Nat.le_of_ble_eq_true h2.1
      omega
    · obtain ⟨e, he, hb, hon⟩ := h2
      exact ⟨e, Array.mem_toList_iff.1 he, hb, Nat.eq_of_beq_eq_true hon⟩

theorem ready_tail {ops : List Oper} {m : Nat} (hch : chainOk m ops = true) (hback : ∀ (i : Nat) (o : Oper), ops[i]? = some o → ∀ e ∈ o.after, Region.binds .any e = true → e.on < i) {listed : Array Bool} (hs : listed.size = ops.length) {k : Nat} (hk : m ≤ k)
    (hl : ∀ j, j < ops.length → listed[j]? = some (decide (j < k))) : Region.ready .any ops.toArray listed = if k < ops.length then [k] else [] := by
  have hmem : ∀ i, i ∈ Region.ready .any ops.toArray listed ↔ i < ops.length ∧ i = k := by
    intro i
    simp only [Region.ready, List.mem_filter, List.mem_range, List.size_toArray]
    constructor
    · rintro ⟨hi, h⟩
      refine ⟨hi, ?_⟩
      rw [Bool.and_eq_true] at h
      obtain ⟨h1, h2⟩ := h
      have ho0 : ops[i]? = some (ops[i]'hi) := List.getElem?_eq_getElem hi
      have ho : ops.toArray[i]? = some (ops[i]'hi) := by simp
      have hik : ¬ i < k := by
        intro hik
        simp [Array.getD_eq_getD_getElem?, hl i hi, hik] at h1
      rcases Nat.lt_or_ge k i with h3 | h3
      · exfalso
        obtain ⟨e, he, hb, hon⟩ := chain_of hch ho0 (by omega) (show i - 1 < i by omega) (.inr (by omega))
        simp only [ho, Option.map_some, Option.getD_some, Array.all_eq_true'] at h2
        have := h2 e he
        have hkl : i - 1 < ops.length := by omega
        have hnk : ¬ i - 1 < k := by omega
        simp [hb, hon, Array.getD_eq_getD_getElem?, hl (i - 1) hkl] at this
        omega
      · omega
    · rintro ⟨hi, rfl⟩
      refine ⟨hi, ?_⟩
      have ho0 : ops[i]? = some (ops[i]'hi) := List.getElem?_eq_getElem hi
      have ho : ops.toArray[i]? = some (ops[i]'hi) := by simp
      rw [Bool.and_eq_true]
      refine ⟨by simp [Array.getD_eq_getD_getElem?, hl i hi], ?_⟩
      simp only [ho, Option.map_some, Option.getD_some, Array.all_eq_true']
      intro e he
      by_cases hb : Region.binds .any e = true
      · have hlt := hback i _ ho0 e he hb
        simp [hb, Array.getD_eq_getD_getElem?, hl e.on (by omega), hlt]
      · simp [hb]
  have hnd : (Region.ready .any ops.toArray listed).Nodup := by
    unfold Region.ready
    exact List.Pairwise.filter _ List.nodup_range
  generalize Region.ready .any ops.toArray listed = r at hmem hnd
  match r, hmem, hnd with
  | [], hmem, _ =>
    by_cases h : k < ops.length
    · have := (hmem k).2 ⟨h, rfl⟩; cases this
    · rw [if_neg h]
  | [x], hmem, _ =>
    have := (hmem x).1 (by simp)
    obtain ⟨h1, rfl⟩ := this
    rw [if_pos h1]
  | x :: y :: r, hmem, hnd =>
    have h1 := (hmem x).1 (by simp)
    have h2 := (hmem y).1 (by simp)
    have hxy : x = y := by omega
    subst hxy
    simp at hnd

theorem tail_any {ops : List Oper} {m : Nat} (hch : chainOk m ops = true) (hback : ∀ (i : Nat) (o : Oper), ops[i]? = some o → ∀ e ∈ o.after, Region.binds .any e = true → e.on < i) :
    ∀ (fuel k : Nat) (listed : Array Bool) (a : Act) (W : World), m ≤ k → k + fuel ≥ ops.length → k ≤ ops.length → listed.size = ops.length → (∀ j, j < ops.length → listed[j]? = some (decide (j < k))) →
      wpListIn (FW N.ro) 0 P ops.toArray (up N Q) (ops.drop k) a W → wpAnyIn (FW N.ro) 0 P .any ops.toArray (up N Q) fuel listed a W := by
  intro fuel
  induction fuel with
  | zero =>
    intro k listed a W hmk hkf hkl hs hl h
    have hk : k = ops.length := by omega
    subst hk
    rw [List.drop_length] at h
    refine ⟨?_, h⟩
    rw [ready_tail hch hback hs hmk hl, if_neg (by omega)]
  | succ fuel ih =>
    intro k listed a W hmk hkf hkl hs hl h
    by_cases hk : k < ops.length
    · refine ⟨fun hr => ?_, ?_⟩
      · rw [ready_tail hch hback hs hmk hl, if_pos hk] at hr; cases hr
      · intro i hi
        rw [ready_tail hch hback hs hmk hl, if_pos hk] at hi
        simp only [List.mem_singleton] at hi
        subst hi
        rw [List.drop_eq_getElem_cons hk] at h
        have ho : ops.toArray[i]? = some (ops[i]'hk) := by simp [List.getElem?_eq_getElem hk]
        have hl' : ∀ j, j < ops.length → (listed.setIfInBounds i true)[j]? = some (decide (j < i + 1)) := by
          intro j hj
          by_cases e : i = j
          · subst e
            rw [Array.getElem?_setIfInBounds_self_of_lt (by omega)]; simp
          · rw [Array.getElem?_setIfInBounds_ne e, hl j hj]
            congr 1
            by_cases h1 : j < i
            · simp [h1]; omega
            · simp [h1]; omega
        have hnext : ∀ a' W', wpListIn (FW N.ro) 0 P ops.toArray (up N Q) (ops.drop (i + 1)) a' W' → wpAnyIn (FW N.ro) 0 P .any ops.toArray (up N Q) fuel (listed.setIfInBounds i true) a' W' :=
          fun a' W' h' => ih (i + 1) _ a' W' (by omega) (by omega) (by omega) (by simp [hs]) hl' h'
        unfold wpOpIn
        rw [ho]
        simp only []
        unfold wpListIn at h
        split
        · rename_i hw
          rw [if_pos hw] at h
          exact Oper.wpIn_mono hnext h
        · rename_i hw
          rw [if_neg hw] at h
          exact ⟨h.1, hnext _ _ h.2⟩
    · have hk' : k = ops.length := by omega
      subst hk'
      rw [List.drop_length] at h
      refine ⟨fun _ => h, ?_⟩
      intro i hi
      rw [ready_tail hch hback hs hmk hl, if_neg hk] at hi
      cases hi

theorem draw_tail {S : World → World → Prop} (hS : SR S) {ops : List Oper} {m : Nat} (hm : m ≤ ops.length) {Φ : List VP} {dep : List (List Nat)} {lb : Fr} (hok : drawOk N.n (ops.take m) dep lb = true) (hch : chainOk m ops = true) (hback : ∀ (i : Nat) (o : Oper), ops[i]? = some o → ∀ e ∈ o.after, Region.binds .any e = true → e.on < i)
    (hΦ : Φ.length = m) (hmono : Monos S Φ) (hob : Obs P N S (ops.take m) Φ Q lb w (ops.take m) Φ dep)
    (hfin : ∀ a W listed, Mid N S (ops.take m) Φ lb w listed a W → (∀ i, i < m → listed[i]? = some true) → wpListIn (FW N.ro) 0 P ops.toArray (up N Q) (ops.drop m) a W) :
    ∀ (fuel : Nat) (listed : Array Bool) (a : Act) (W : World), Mid N S (ops.take m) Φ lb w listed a W → listed.size = ops.length → (∀ j, m ≤ j → j < ops.length → listed[j]? = some false) → (listed.toList.filter (! ·)).length ≤ fuel →
      wpAnyIn (FW N.ro) 0 P .any ops.toArray (up N Q) fuel listed a W := by
  have hlen : (ops.take m).length = m := by simp; omega
  have htk : ∀ (k : Nat) (o : Oper), (ops.take m)[k]? = some o → ops.toArray[k]? = some o := by
    intro k o h
    rw [List.getElem?_take] at h
    split at h
    · simpa using h
    · cases h
  intro fuel
  induction fuel with
  | zero =>
    intro listed a W hmid hs hB hf
    have hnil : ∀ i, i < ops.length → listed[i]? = some true := by
      intro i hi
      have hfl : listed.toList.filter (! ·) = [] := List.eq_nil_of_length_eq_zero (by omega)
      rw [List.filter_eq_nil_iff] at hfl
      have hlt : i < listed.size := by omega
      have hm := hfl listed[i] (by simp)
      rw [Array.getElem?_eq_getElem hlt]
      simpa using hm
    have hmn : m = ops.length := by
      rcases Nat.lt_or_ge m ops.length with h | h
      · have h1 := hnil m h
        rw [hB m (Nat.le_refl _) h] at h1; cases h1
      · omega
    refine tail_any hch hback 0 ops.length listed a W (by omega) (by omega) (by omega) hs (fun j hj => by rw [hnil j hj]; simp [hj]) ?_
    have := hfin a W listed hmid (fun i hi => hnil i (by omega))
    rwa [hmn] at this
  | succ fuel ih =>
    intro listed a W hmid hs hB hf
    by_cases hall : ∀ i, i < m → listed[i]? = some true
    · -- the line begins
      have hl : ∀ j, j < ops.length → listed[j]? = some (decide (j < m)) := by
        intro j hj
        by_cases h : j < m
        · rw [hall j h]; simp [h]
        · rw [hB j (by omega) hj]; simp [h]
      have hcnt : ops.length - m ≤ (listed.toList.filter (! ·)).length := by
        have e : listed.toList = listed.toList.take m ++ listed.toList.drop m := (List.take_append_drop m _).symm
        rw [e, List.filter_append, List.length_append]
        have e2 : (listed.toList.drop m).filter (! ·) = listed.toList.drop m := by
          rw [List.filter_eq_self]
          intro x hx
          obtain ⟨j, hj, rfl⟩ := List.getElem_of_mem hx
          simp only [List.length_drop, Array.length_toList] at hj
          have := hB (m + j) (by omega) (by omega)
          rw [Array.getElem?_eq_getElem (by omega)] at this
          simp only [Option.some.injEq] at this
          simp [this]
        rw [e2]; simp; omega
      exact tail_any hch hback (fuel + 1) m listed a W (Nat.le_refl _) (by omega) hm hs hl (hfin a W listed hmid hall)
    · refine ⟨fun hr => ?_, ?_⟩
      · -- something of the first part is ready
        exfalso
        apply hall
        intro i
        induction i using Nat.strongRecOn with
        | _ i ihi =>
          intro him
          rcases hli : listed[i]? with _ | b
          · simp at hli; omega
          · cases b with
            | true => rfl
            | false =>
              exfalso
              have hi : i < ops.length := by omega
              have : i ∈ Region.ready .any ops.toArray listed := by
                simp only [Region.ready, List.mem_filter, List.mem_range, List.size_toArray]
                refine ⟨hi, ?_⟩
                simp only [Array.getD_eq_getD_getElem?, hli, Option.getD_some, Bool.not_false, Bool.true_and]
                have ho0 : ops[i]? = some (ops[i]'hi) := List.getElem?_eq_getElem hi
                have ho : ops.toArray[i]? = some (ops[i]'hi) := by simp
                simp only [ho, Option.map_some, Option.getD_some, Array.all_eq_true']
                intro e he
                by_cases hb : Region.binds .any e = true
                · have hlt := hback i _ ho0 e he hb
                  simp only [hb, Bool.not_true, Bool.false_or]
                  rw [ihi e.on hlt (by omega)]; rfl
                · simp [hb]
              rw [hr] at this
              cases this
      · intro i hi
        simp only [Region.ready, List.mem_filter, List.mem_range, List.size_toArray] at hi
        obtain ⟨hlt, hi⟩ := hi
        rw [Bool.and_eq_true] at hi
        obtain ⟨hun, hrd⟩ := hi
        have ho : ops[i]? = some (ops[i]'hlt) := List.getElem?_eq_getElem hlt
        have ho' : ops.toArray[i]? = some (ops[i]'hlt) := by simp
        have hrd' : ∀ e ∈ (ops[i]'hlt).after, Region.binds .any e = true → listed[e.on]? = some true := by
          intro e he hb
          rw [ho'] at hrd
          simp only [Option.map_some, Option.getD_some, Array.all_eq_true'] at hrd
          have := hrd e he
          simp only [hb, Bool.not_true, Bool.false_or] at this
          rcases hlj : listed[e.on]? with _ | b
          · simp [Array.getD_eq_getD_getElem?, hlj] at this
          · simp [Array.getD_eq_getD_getElem?, hlj] at this; rw [this]
        have him : i < m := by
          rcases Nat.lt_or_ge i m with h | h
          · exact h
          · exfalso
            apply hall
            intro j hj
            obtain ⟨e, he, hb, hon⟩ := chain_of hch ho h (show j < i by omega) (.inl hj)
            rw [← hon]; exact hrd' e he hb
        have hun' : listed[i]? = some false := by
          have hlt' : i < listed.size := by omega
          rw [Array.getElem?_eq_getElem hlt']
          simp only [Array.getD_eq_getD_getElem?, Array.getElem?_eq_getElem hlt', Option.getD_some] at hun
          simpa using hun
        have hcount : ((listed.setIfInBounds i true).toList.filter (! ·)).length ≤ fuel := by
          have hlt' : i < listed.toList.length := by simp; omega
          have e1 : (listed.setIfInBounds i true).toList = listed.toList.set i true := by simp
          rw [e1]
          have e2 : listed.toList = listed.toList.take i ++ false :: listed.toList.drop (i + 1) := by
            have hg : listed.toList[i] = false := by
              have := hun'
              rw [Array.getElem?_eq_getElem (by simpa using hlt')] at this
              simpa using this
            rw [← hg, ← List.drop_eq_getElem_cons hlt']; simp
          have e3 : listed.toList.set i true = listed.toList.take i ++ true :: listed.toList.drop (i + 1) := by
            rw [List.set_eq_take_append_cons_drop, if_pos hlt']
          rw [e3]
          rw [e2] at hf
          simp only [List.filter_append, List.length_append, List.filter_cons, Bool.not_false, Bool.not_true, if_true, List.length_cons] at hf ⊢
          simp at hf ⊢
          omega
        have hot : (ops.take m)[i]? = some (ops[i]'hlt) := by rw [List.getElem?_take, if_pos him]; exact ho
        refine mid_step hS hok (by rw [hlen]; exact hΦ) hmono hob hmid hot hrd' (fun a' W' hm' => ih _ a' W' hm' (by simp [hs]) ?_ hcount) htk
        intro j hj hjl
        rw [Array.getElem?_setIfInBounds_ne (by omega)]
        exact hB j hj hjl

theorem below_of_drawn {B k : Nat} {W : World} (h : Below B { w with drawn := k } W) : Below B w W := ⟨h.os, h.tape, h.output, h.size, h.block⟩
theorem sr_below : SR (fun w W => Below w.heap.size w W) := ⟨fun w => Below.refl _ w, fun a b c h k => h.trans (k.mono h.size), fun w k W h => below_of_drawn h⟩

theorem Obs.drawn {S : World → World → Prop} (hS : SR S) {ops : List Oper} {Φ : List VP} {lb : Fr} {k : Nat} {os : List Oper} : ∀ {φs : List VP} {jss : List (List Nat)}, Obs P N S ops Φ Q lb w os φs jss → Obs P N S ops Φ Q lb { w with drawn := k } os φs jss := by
  induction os with
  | nil => intro φs jss _; trivial
  | cons o os ih =>
    intro φs jss h
    cases φs with
    | nil => trivial
    | cons φ φs =>
      cases jss with
      | nil => trivial
      | cons js jss => exact ⟨fun W hW => h.1 W (hS.drawn _ _ _ hW), ih h.2⟩

theorem live_told {S : World → World → Prop} {ops : List Oper} {Φ : List VP} {lb : Fr} {listed : Array Bool} {a' : Act} {W : World} {m : Nat} {live : List Nat} (hmid : Mid N S ops Φ lb w listed a' W) (hml : m ≤ ops.length) (hΦ : m ≤ Φ.length) (hlive : (live.all fun i => Nat.blt i m) = true) (hall : ∀ i, i < m → listed[i]? = some true) :
    ∀ p ∈ depAt ops Φ live, toldP p a' W := by
  intro p hp
  simp only [depAt, List.mem_map] at hp
  obtain ⟨j, hjm, rfl⟩ := hp
  have hjlt : j < m := by
    rw [List.all_eq_true] at hlive
    simpa using hlive j hjm
  have hoj : ops[j]? = some (ops[j]'(by omega)) := List.getElem?_eq_getElem (by omega)
  have hφj : Φ[j]? = some (Φ[j]'(by omega)) := List.getElem?_eq_getElem (by omega)
  exact told_dep hoj hφj (hmid.done j _ _ hoj hφj (hall j hjlt))

/-- A region that draws its order. 'live': the operations whose values are asked about behind it. -/
theorem wc_drawS {S : World → World → Prop} (hS : SR S) {id : Nat} {ops : List Oper} (hm : P.follows .mixedOrders = true) (lb : Fr) (hlb : Sub lb l) (Φ : List VP) (dep : List (List Nat)) (live : List Nat)
    (hok : drawOk N.n ops dep lb = true) (hΦ : Nat.beq Φ.length ops.length = true) (hlive : (live.all fun i => Nat.blt i ops.length) = true) (hmono : Monos S Φ) (hob : Obs P N S ops Φ Q lb w ops Φ dep)
    (hfin : ∀ W, S w W → Gather (depAt ops Φ live) lb W fun l' => Q .normal l' W) : WC P N (.region id ops.toArray true) Q l w := by
  intro a ha hg
  refine wpIn_region_any hm ?_
  have hΦ' := Nat.eq_of_beq_eq_true hΦ
  refine draw_any hS (w := { w with drawn := w.drawn + 1 }) hok hΦ' hmono (hob.drawn hS) ?_ _ _ _ _ ?_ (by simp) ?_
  · intro a' W listed hmid hall
    exact gather_up hmid.good (Gather.use (hfin W (hS.drawn _ _ _ hmid.below)) hmid.base (live_told hmid (Nat.le_refl _) (by omega) hlive hall))
  · refine ⟨hS.refl _, ha.sub hlb, hg.step rfl (fun _ _ h _ _ => h) (Nat.le_refl _), ?_⟩
    intro i o φ _ _ hi
    simp [Array.getElem?_replicate] at hi
  · simp
theorem wc_draw {id : Nat} {ops : List Oper} (hm : P.follows .mixedOrders = true) (lb : Fr) (hlb : Sub lb l) (Φ : List VP) (dep : List (List Nat)) (live : List Nat)
    (hok : drawOk N.n ops dep lb = true) (hΦ : Nat.beq Φ.length ops.length = true) (hlive : (live.all fun i => Nat.blt i ops.length) = true) (hmono : Monos (fun w W => Below w.heap.size w W) Φ) (hob : Obs P N (fun w W => Below w.heap.size w W) ops Φ Q lb w ops Φ dep)
    (hfin : ∀ W, Below w.heap.size w W → Gather (depAt ops Φ live) lb W fun l' => Q .normal l' W) : WC P N (.region id ops.toArray true) Q l w :=
  wc_drawS sr_below hm lb hlb Φ dep live hok hΦ hlive hmono hob hfin

/-- A region in the order of the text, told in the same way: where operations are guarded. -/
theorem wc_textS {S : World → World → Prop} (hS : SR S) {id : Nat} {ops : List Oper} (lb : Fr) (hlb : Sub lb l) (Φ : List VP) (dep : List (List Nat)) (live : List Nat)
    (hok : drawOk N.n ops dep lb = true) (hΦ : Nat.beq Φ.length ops.length = true) (hlive : (live.all fun i => Nat.blt i ops.length) = true) (hmono : Monos S Φ) (hob : Obs P N S ops Φ Q lb w ops Φ dep)
    (hfin : ∀ W, S w W → Gather (depAt ops Φ live) lb W fun l' => Q .normal l' W) : WC P N (.region id ops.toArray false) Q l w := by
  intro a ha hg
  refine wpIn_region ?_
  have hΦ' := Nat.eq_of_beq_eq_true hΦ
  rw [List.range_eq_range', List.size_toArray]
  refine text_any hS hok hΦ' hmono hob ?_ ops.length 0 (Array.replicate ops.length false) a w (by simp) ⟨hS.refl _, ha.sub hlb, hg, ?_⟩ (by simp) (fun j hj => absurd hj (by omega))
  · intro a' W listed hmid hall
    exact gather_up hmid.good (Gather.use (hfin W hmid.below) hmid.base (live_told hmid (Nat.le_refl _) (by omega) hlive hall))
  · intro i o φ _ _ hi
    simp [Array.getElem?_replicate] at hi
theorem wc_text {id : Nat} {ops : List Oper} (lb : Fr) (hlb : Sub lb l) (Φ : List VP) (dep : List (List Nat)) (live : List Nat)
    (hok : drawOk N.n ops dep lb = true) (hΦ : Nat.beq Φ.length ops.length = true) (hlive : (live.all fun i => Nat.blt i ops.length) = true) (hmono : Monos (fun w W => Below w.heap.size w W) Φ) (hob : Obs P N (fun w W => Below w.heap.size w W) ops Φ Q lb w ops Φ dep)
    (hfin : ∀ W, Below w.heap.size w W → Gather (depAt ops Φ live) lb W fun l' => Q .normal l' W) : WC P N (.region id ops.toArray false) Q l w :=
  wc_textS sr_below lb hlb Φ dep live hok hΦ hlive hmono hob hfin

def backOk (ops : List Oper) : Bool := (ops.zipIdx).all fun (o, i) => o.after.toList.all fun e => !Region.binds .any e || Nat.blt e.on i
theorem back_of {ops : List Oper} (h : backOk ops = true) (i : Nat) (o : Oper) (ho : ops[i]? = some o) : ∀ e ∈ o.after, Region.binds .any e = true → e.on < i := by
  simp only [backOk, List.all_eq_true] at h
  intro e he hb
  have := h (o, i) (by rw [List.mem_zipIdx_iff_getElem?]; simpa using ho) e (Array.mem_toList_iff.2 he)
  simpa [hb] using this

/-- A region that draws its order, the operations from m on in one line behind all others. -/
theorem wc_draw_tailS {S : World → World → Prop} (hS : SR S) {id : Nat} {ops : List Oper} (m : Nat) (hm : P.follows .mixedOrders = true) (lb : Fr) (hlb : Sub lb l) (Φ : List VP) (dep : List (List Nat)) (live : List Nat)
    (hml : Nat.ble m ops.length = true) (hok : drawOk N.n (ops.take m) dep lb = true) (hch : chainOk m ops = true) (hback : backOk ops = true) (hΦ : Nat.beq Φ.length m = true) (hlive : (live.all fun i => Nat.blt i m) = true) (hmono : Monos S Φ) (hob : Obs P N S (ops.take m) Φ Q lb w (ops.take m) Φ dep)
    (hfin : ∀ W, S w W → Gather (depAt (ops.take m) Φ live) lb W fun l' => WL P N ops.toArray Q (ops.drop m) l' W) : WC P N (.region id ops.toArray true) Q l w := by
  intro a ha hg
  refine wpIn_region_any hm ?_
  have hΦ' := Nat.eq_of_beq_eq_true hΦ
  have hml' := Nat.le_of_ble_eq_true hml
  refine draw_tail hS (w := { w with drawn := w.drawn + 1 }) hml' hok hch (back_of hback) hΦ' hmono (hob.drawn hS) ?_ _ _ _ _ ?_ (by simp) ?_ ?_
  · intro a' W listed hmid hall
    obtain ⟨l', hl', h⟩ := Gather.use (hfin W (hS.drawn _ _ _ hmid.below)) hmid.base (live_told hmid (m := m) (by simp; omega) (by omega) hlive hall)
    exact h a' hl' hmid.good
  · refine ⟨hS.refl _, ha.sub hlb, hg.step rfl (fun _ _ h _ _ => h) (Nat.le_refl _), ?_⟩
    intro i o φ _ _ hi
    simp [Array.getElem?_replicate] at hi
  · intro j hj hjl
    simp [Array.getElem?_replicate, hjl]
  · simp
theorem wc_draw_tail {id : Nat} {ops : List Oper} (m : Nat) (hm : P.follows .mixedOrders = true) (lb : Fr) (hlb : Sub lb l) (Φ : List VP) (dep : List (List Nat)) (live : List Nat)
    (hml : Nat.ble m ops.length = true) (hok : drawOk N.n (ops.take m) dep lb = true) (hch : chainOk m ops = true) (hback : backOk ops = true) (hΦ : Nat.beq Φ.length m = true) (hlive : (live.all fun i => Nat.blt i m) = true) (hmono : Monos (fun w W => Below w.heap.size w W) Φ) (hob : Obs P N (fun w W => Below w.heap.size w W) (ops.take m) Φ Q lb w (ops.take m) Φ dep)
    (hfin : ∀ W, Below w.heap.size w W → Gather (depAt (ops.take m) Φ live) lb W fun l' => WL P N ops.toArray Q (ops.drop m) l' W) : WC P N (.region id ops.toArray true) Q l w :=
  wc_draw_tailS sr_below m hm lb hlb Φ dep live hml hok hch hback hΦ hlive hmono hob hfin

theorem opg_none {S : World → World → Prop} {ops : List Oper} {o : Oper} {φ : VP} (hg : o.guard = none) (h : OpW P N o (fun l' W' => toldL o φ l' W' ∧ S w W') Q l w) : OpG P N S ops o φ Q l w := by
  unfold OpG; rw [hg]; exact h
theorem and_l {a b : Bool} (h : (a && b) = true) : a = true := (Bool.and_eq_true_iff.1 h).1
theorem and_r {a b : Bool} (h : (a && b) = true) : b = true := (Bool.and_eq_true_iff.1 h).2
theorem and_i {a b : Bool} (h : a = true) (k : b = true) : (a && b) = true := by rw [h, k]; rfl
theorem not_i {a : Bool} (h : a = false) : (!a) = true := by rw [h]; rfl
theorem undef_ne {b : Bool} : (undef : Value) ≠ .bool b := by intro h; cases h

/-- Guarded by 'c', which is known. -/
theorem opg_t1 {S : World → World → Prop} {ops : List Oper} {o : Oper} {φ : VP} {j : Nat} {c : Bool} (hg : o.guard = some (j, true)) (hc : ((ops[j]?).bind fun o' => o'.dst.bind l.look) = some (.bool c))
    (h : c = true → OpW P N o (fun l' W' => toldL o φ l' W' ∧ S w W') Q l w) (hn : c = false → φ undef w) : OpG P N S ops o φ Q l w := by
  unfold OpG; rw [hg]
  refine ⟨_, hc, fun e => h (by injection e), fun e => hn ?_⟩
  cases c with
  | true => exact absurd rfl e
  | false => rfl
theorem opg_f1 {S : World → World → Prop} {ops : List Oper} {o : Oper} {φ : VP} {j : Nat} {c : Bool} (hg : o.guard = some (j, false)) (hc : ((ops[j]?).bind fun o' => o'.dst.bind l.look) = some (.bool c))
    (h : (!c) = true → OpW P N o (fun l' W' => toldL o φ l' W' ∧ S w W') Q l w) (hn : (!c) = false → φ undef w) : OpG P N S ops o φ Q l w := by
  unfold OpG; rw [hg]
  refine ⟨_, hc, fun e => h (by injection e with e; rw [e]; rfl), fun e => hn ?_⟩
  cases c with
  | true => rfl
  | false => exact absurd rfl e
/-- Guarded by 'c', which is told where 'a' holds. -/
theorem opg_t {S : World → World → Prop} {ops : List Oper} {o : Oper} {φ : VP} {j : Nat} {a c : Bool} {vj : Value} (hg : o.guard = some (j, true)) (hc : ((ops[j]?).bind fun o' => o'.dst.bind l.look) = some vj) (hv : vj = bif a then .bool c else undef)
    (h : (a && c) = true → OpW P N o (fun l' W' => toldL o φ l' W' ∧ S w W') Q l w) (hn : (a && c) = false → φ undef w) : OpG P N S ops o φ Q l w := by
  unfold OpG; rw [hg]
  subst hv
  refine ⟨_, hc, fun e => h ?_, fun e => hn ?_⟩
  · cases a with
    | true =>
      have e' : c = true := by injection e
      rw [e']; rfl
    | false => exact absurd e undef_ne
  · cases a with
    | true => cases c with
      | true => exact absurd rfl e
      | false => rfl
    | false => rfl
theorem opg_f {S : World → World → Prop} {ops : List Oper} {o : Oper} {φ : VP} {j : Nat} {a c : Bool} {vj : Value} (hg : o.guard = some (j, false)) (hc : ((ops[j]?).bind fun o' => o'.dst.bind l.look) = some vj) (hv : vj = bif a then .bool c else undef)
    (h : (a && !c) = true → OpW P N o (fun l' W' => toldL o φ l' W' ∧ S w W') Q l w) (hn : (a && !c) = false → φ undef w) : OpG P N S ops o φ Q l w := by
  unfold OpG; rw [hg]
  subst hv
  refine ⟨_, hc, fun e => h ?_, fun e => hn ?_⟩
  · cases a with
    | true =>
      have e' : c = false := by injection e
      rw [e']; rfl
    | false => exact absurd e undef_ne
  · cases a with
    | true => cases c with
      | true => rfl
      | false => exact absurd rfl e
    | false => rfl
end
end Go.Eng

set_option linter.unusedVariables false
set_option linter.unusedSimpArgs false
namespace Go.Eng
open Go.RowKit Go.Shelf Go.Proofs

/-! a slice that is read; 'R w cs x': the cells cs hold x -/
structure Rd {α : Type} (R : World → List Value → α → Prop) (sz : Nat) (w : World) (A : Option Addr) (n : Nat) (xs : List α) : Prop where
  len : xs.length = n
  bd : n ≤ 140737488355328
  rows : ∃ b off, (0 < n → A = some ⟨b, off, none⟩) ∧ ∀ i x, xs[i]? = some x → ∃ cs, cs.length = sz ∧ R w cs x ∧ Cells w b (off + i * sz) cs

def Flat {α : Type} (enc : α → List Value) : World → List Value → α → Prop := fun _ cs x => cs = enc x

def Lifts {α : Type} (R : World → List Value → α → Prop) : Prop := ∀ w w' cs x, Below w.heap.size w w' → R w cs x → R w' cs x
theorem flat_lifts {α : Type} (enc : α → List Value) : Lifts (Flat enc) := fun _ _ _ _ _ h => h

theorem Rd.ext {α : Type} {R : World → List Value → α → Prop} {sz : Nat} {w w' : World} {A : Option Addr} {n : Nat} {xs : List α} (hR : Lifts R) (h : Rd R sz w A n xs) (hb : Below w.heap.size w w') : Rd R sz w' A n xs := by
  obtain ⟨b, off, hA, hc⟩ := h.rows
  exact ⟨h.len, h.bd, b, off, hA, fun i x hx => let ⟨cs, h1, h2, h3⟩ := hc i x hx; ⟨cs, h1, hR _ _ _ _ hb h2, h3.ext hb⟩⟩

/-- A flat slice laid open: where its cells stand. -/
theorem Rd.flat {α : Type} {enc : α → List Value} {sz : Nat} {w : World} {A : Option Addr} {n : Nat} {xs : List α} (h : Rd (Flat enc) sz w A n xs) :
    ∃ b off, (0 < n → A = some ⟨b, off, none⟩) ∧ ∀ i x, xs[i]? = some x → Cells w b (off + i * sz) (enc x) := by
  obtain ⟨b, off, hA, hc⟩ := h.rows
  exact ⟨b, off, hA, fun i x hx => by obtain ⟨cs, _, rfl, h3⟩ := hc i x hx; exact h3⟩

/-- Rows of the call's own are read as any. -/
theorem rd_of_own {α : Type} {enc : α → List Value} {sz base : Nat} {e : TypeId} {w : World} {v : Value} {n : Nat} {xs : List α} (henc : ∀ x, (enc x).length = sz) (hn : xs.length = n) (hbd : n ≤ 140737488355328) (h : w.ownsRow base e sz v n (xs.flatMap enc)) :
    ∃ A c, v = .slice A n c ∧ Rd (Flat enc) sz w A n xs := by
  have hfl : ∀ (xs : List α) i x j u, xs[i]? = some x → (enc x)[j]? = some u → (xs.flatMap enc)[i * sz + j]? = some u := by
    intro xs
    induction xs with
    | nil => intro i x j u h; simp at h
    | cons y ys ih =>
      intro i x j u h1 h2
      rw [List.flatMap_cons]
      cases i with
      | zero =>
        simp at h1; subst h1
        have hj := (List.getElem?_eq_some_iff.1 h2).1
        rw [Nat.zero_mul, Nat.zero_add, List.getElem?_append_left hj]; exact h2
      | succ i =>
        simp at h1
        rw [List.getElem?_append_right (by rw [henc, Nat.add_mul]; omega), henc]
        rw [show (i + 1) * sz + j - sz = i * sz + j by rw [Nat.add_mul]; omega]
        exact ih i x j u h1 h2
  rcases h.2 with ⟨rfl, h0⟩ | ⟨g, cap, cur, rfl, hb, hg, hnc, hcm, hcs, ht⟩
  · subst h0
    exact ⟨none, 0, rfl, hn, hbd, 0, 0, fun h => absurd h (by omega), fun i x hx => by
      have := List.eq_nil_of_length_eq_zero hn; subst this; simp at hx⟩
  · refine ⟨_, cap, rfl, hn, hbd, g, 0, fun _ => rfl, fun i x hx => ⟨enc x, henc x, rfl, ?_⟩⟩
    intro j u hj
    have h1 := hfl xs i x j u hx hj
    rw [← ht, List.getElem?_take] at h1
    split at h1
    · refine cell_blk hg ?_
      simpa [Nat.add_assoc] using h1
    · cases h1

/-! append -/
def AppT (P : Program) (T e size bytes : Nat) : Prop :=
  P.underlying T = some (.slice e) ∧ 0 < size ∧ ∃ i z, P.info? e = some i ∧ i.zero = some z ∧ i.size = size ∧ i.bytes = bytes ∧ z.cells.size = size
theorem appT_of {P : Program} {T e size bytes : Nat} {z : Value} (h1 : P.underlying T = some (.slice e)) (h2 : (P.info? e).map (fun i => (i.zero, i.size, i.bytes)) = some (some z, size, bytes)) (h3 : Nat.beq z.cells.size size = true) (h4 : Nat.blt 0 size = true) : AppT P T e size bytes := by
  cases hi : P.info? e with
  | none => rw [hi] at h2; cases h2
  | some i =>
    rw [hi] at h2
    simp at h2
    exact ⟨h1, by simpa using h4, i, z, hi, h2.1, h2.2.1, h2.2.2, Nat.eq_of_beq_eq_true h3⟩

section
variable {P : Program} {N : Ev} {K : Fr → World → Prop} {Q : Post} {l : Fr} {w : World}
variable {d : Nat} {T U : TypeId} {pos : String} {aft : Array Edge} {g : Option (Nat × Bool)}

theorem dk_grown {ex : Option Nat} {w w' : World} {base e size n : Nat} {v : Value} {xs : List Value} (hown : w.ownsRow base e size v n xs) (h : w.grownBy w' v.ownBlock) : DK ex w w' ∧ w.heap.size ≤ w'.heap.size := by
  refine ⟨fun k o hk hc _ => ?_, h.size⟩
  by_cases e : some k = v.ownBlock
  · exfalso
    rcases hown.2 with ⟨rfl, _⟩ | ⟨g, cap, cur, rfl, _, hg, _⟩
    · cases e
    · cases e
      rw [hg] at hk; cases hk; cases hc
  · exact (h.block k (Array.getElem?_eq_some_iff.1 hk).1 e).trans hk
theorem op_append {s x : Operand} {base e size bytes b m c n : Nat} {v : Value} {xs news : List Value} {cl : Array Operand} {ts : Array TypeId} (hcl : cl = #[s, x]) (hts : ts = #[T, T]) (hT : AppT P T e size bytes) (hs : evo l s = some v) (hx : evo l x = some (.slice (some ⟨b, 0, none⟩) m c))
    (hown : w.ownsRow base e size v n xs) (hnews : Cells w b 0 news) (hl : news.length = m * size) (h1 : (news.all (·.oneCell')) = true) (hb : (n + m) * bytes ≤ 140737488355328) (hm : n + m ≤ 9223372036854775807) (hbase : base ≤ w.heap.size) (hN : Nat.blt d N.n = true)
    (k : ∀ v' w', w'.ownsRow base e size v' (n + m) (xs ++ news) → w.grownBy w' v.ownBlock → (v' = .slice none 0 0 ↔ v = .slice none 0 0 ∧ m = 0) → (v'.ownBlock = v.ownBlock ∨ v'.ownBlock = some w.heap.size) → K ((d, v') :: l) w') :
    OpW P N ⟨some d, .call ⟨.builtin .append, cl, ts⟩, U, pos, aft, g⟩ K Q l w := by
  subst hcl hts
  obtain ⟨hU, hsz, i, z, hi, hz, hsize, hby, hzs⟩ := hT
  obtain ⟨v', w', hr, h2, h3, h4, h5⟩ := run_append_own_at (P := P) (w := w) base T U e i z size bytes hU hi hz hsize hby hzs hsz v n xs hown ⟨b, 0, none⟩ m c news hl (fun j u hj => by rw [add_lit]; exact hnews j u hj) (by simpa only [List.all_eq_true] using h1) (by simpa [maxLen] using hm) hb hbase
  refine op_val rfl hN (fun a ha => ?_) (k v' w' h2 h3 h4 h5) (dk_grown hown h3)
  simp [execOp, resolve, invoke, builtin, ha.eval hs, ha.eval hx, hr]

theorem op_pick {c x y : Operand} {cb : Bool} {v : Value} (hc : evo l c = some (.bool cb)) (ht : cb = true → evo l x = some v) (hf : cb = false → evo l y = some v) (hN : Nat.blt d N.n = true) (k : K ((d, v) :: l) w) :
    OpW P N ⟨some d, .pick c x y, T, pos, aft, g⟩ K Q l w := by
  cases cb with
  | true => exact op_pick_t hc (ht rfl) hN k
  | false => exact op_pick_f hc (hf rfl) hN k
/-- 'a && b' -/
theorem op_and {c x y : Operand} {cb e : Bool} {v : Value} (hc : evo l c = some (.bool cb)) (hx : evo l x = some v) (hy : evo l y = some (.bool false)) (hv : cb = true → v = .bool e) (hN : Nat.blt d N.n = true) (k : K ((d, .bool (cb && e)) :: l) w) :
    OpW P N ⟨some d, .pick c x y, T, pos, aft, g⟩ K Q l w :=
  op_pick hc (fun h => by rw [hx, hv h, h]; rfl) (fun h => by rw [hy, h]; rfl) hN k
/-- 'a || b' -/
theorem op_or {c x y : Operand} {cb e : Bool} {v : Value} (hc : evo l c = some (.bool cb)) (hx : evo l x = some (.bool true)) (hy : evo l y = some v) (hv : cb = false → v = .bool e) (hN : Nat.blt d N.n = true) (k : K ((d, .bool (cb || e)) :: l) w) :
    OpW P N ⟨some d, .pick c x y, T, pos, aft, g⟩ K Q l w :=
  op_pick hc (fun h => by rw [hx, h]; rfl) (fun h => by rw [hy, hv h, h]; rfl) hN k

theorem splice_size (vs : List Value) : ∀ (cs : Array Value) (o : Nat), (splice cs o vs).size = cs.size := by
  induction vs with
  | nil => intro cs o; rfl
  | cons v vs ih => intro cs o; simp [splice, ih]

theorem splice_get (vs : List Value) : ∀ (cs : Array Value) (o i : Nat), o + vs.length ≤ cs.size → (splice cs o vs)[i]? = if o ≤ i ∧ i < o + vs.length then vs[i - o]? else cs[i]? := by
  induction vs with
  | nil => intro cs o i h; simp [splice]; intro h1 h2; omega
  | cons v vs ih =>
    intro cs o i h
    simp only [List.length_cons] at h
    rw [splice, ih _ _ _ (by simp; omega)]
    by_cases h1 : o + 1 ≤ i ∧ i < o + 1 + vs.length
    · rw [if_pos h1, if_pos (by simp; omega)]
      rw [show i - o = (i - (o + 1)) + 1 by omega]; simp
    · rw [if_neg h1]
      by_cases h2 : i = o
      · subst h2
        rw [if_pos (by simp), Array.getElem?_setIfInBounds_self_of_lt (by omega)]; simp
      · rw [if_neg (by simp; omega), Array.getElem?_setIfInBounds_ne (by omega)]

theorem splice_whole (cs vs : Array Value) (h : vs.size = cs.size) : splice cs 0 vs.toList = vs := by
  apply Array.ext_getElem?
  intro i
  rw [splice_get _ _ _ _ (by simp; omega)]
  by_cases hi : i < vs.size
  · rw [if_pos (by simp; omega)]; simp
  · rw [if_neg (by simp; omega), Array.getElem?_eq_none (by omega), Array.getElem?_eq_none (by omega)]

/-- A store that fills the whole block. -/
theorem op_storeW {x y : Operand} {b : Nat} {cs : Array Value} {v : Value} {T' : TypeId} (hx : evo l x = some (.pointer (some ⟨b, 0, none⟩))) (hy : evo l y = some v) (hS : Sz P T v.cells.size) (hb : w.heap[b]? = some (.cells cs T' (0, 0))) (h1 : (v.cells.toList.all (·.oneCell')) = true) (hl : Nat.beq v.cells.size cs.size = true)
    (k : ∀ w', Put w w' b → w'.heap[b]? = some (.cells v.cells T' (0, 0)) → K l w') :
    OpW P N ⟨none, .store T x y, U, pos, aft, g⟩ K Q l w := by
  have hl' := Nat.eq_of_beq_eq_true hl
  refine op_store hx hy hS hb h1 (by rw [Nat.zero_add, hl']; simp) fun w' hp hb' => k w' hp ?_
  rw [splice_whole cs v.cells hl'] at hb'
  exact hb'

theorem wc_at {c : Code} (l' : Fr) (w' : World) (hs : Sub l' l) (hw : w = w') (h : WC P N c Q l' w') : WC P N c Q l w := by
  subst hw; exact WC.sub l' hs h

/-- Ways that meet again. -/
theorem wc_join {c e : Code} (M : Fr → World → Prop) (h1 : WC P N c (thenK M Q) l w) (h2 : ∀ l' w', M l' w' → WC P N e Q l' w') : WC P N (.seq c e) Q l w :=
  wc_seq (WC.mono (fun ex l' w' q => by cases ex <;> first | exact h2 l' w' q | exact q) h1)

/-! a post is peeled -/
theorem then_norm {K : Fr → World → Prop} (h : K l w) : thenK K Q .normal l w := h
theorem then_exit {K : Fr → World → Prop} {i : Nat} (h : Q (.exit i) l w) : thenK K Q (.exit i) l w := h
theorem then_ret {K : Fr → World → Prop} (h : Q .ret l w) : thenK K Q .ret l w := h
theorem block_norm {id : Nat} (h : Q .normal l w) : blockQ id Q .normal l w := h
theorem block_ret {id : Nat} (h : Q .ret l w) : blockQ id Q .ret l w := h
theorem block_here {id : Nat} (h : Q .normal l w) : blockQ id Q (.exit id) l w := by simp [blockQ]; exact h
theorem block_far {id i : Nat} (hne : Nat.beq i id = false) (h : Q (.exit i) l w) : blockQ id Q (.exit i) l w := by simp only [blockQ, hne]; exact h
theorem wl_done {ops : Array Oper} (h : Q .normal l w) : WL P N ops Q [] l w := fun a ha hg => wpListIn_nil ⟨l, ha, hg, h⟩
end

theorem not_t {a : Bool} (h : (!a) = true) : a = false := by simpa using h
theorem not_f {a : Bool} (h : (!a) = false) : a = true := by simpa using h
theorem all_succ {p : Nat → Prop} {k : Nat} (h : ∀ i, i < k → p i) (hk : p k) : ∀ i, i < k + 1 → p i := fun i hi => by
  rcases Nat.lt_or_ge i k with h1 | h1
  · exact h i h1
  · have : i = k := by omega
    subst this; exact hk
theorem below_then {B : Nat} {a b c : World} (h : Below B a b) (hB : B ≤ b.heap.size) (k : Below b.heap.size b c) : Below B a c := h.trans (k.mono hB)
/-- From an elder world on, over a step that turns nothing. -/
theorem below_step {a b c : World} (h : Below a.heap.size a b) (k : Below b.heap.size b c) : Below a.heap.size a c := below_then h h.size k
theorem below_new {a b c : World} {x : Nat} {o : Obj} (h : Below a.heap.size a b) (k : New b c x o) : Below a.heap.size a c := below_step h k.ext
theorem blk_ext {b c : World} {x : Nat} {o : Obj} (h : b.heap[x]? = some o) (k : Below b.heap.size b c) : c.heap[x]? = some o := (k.block x (Array.getElem?_eq_some_iff.1 h).1).trans h
theorem ne_new {b c : World} {x y : Nat} {o o' : Obj} (h : b.heap[x]? = some o) (k : New b c y o') : x ≠ y := by
  have := (Array.getElem?_eq_some_iff.1 h).1
  rw [k.eq]; omega
theorem le_new {a b c : World} {y : Nat} {o : Obj} (h : Below a.heap.size a b) (k : New b c y o) : a.heap.size ≤ y := by rw [k.eq]; exact h.size
theorem Cells.at {w : World} {b o i : Nat} {vs : List Value} {v : Value} (h : Cells w b o vs) (hv : vs[i]? = some v) : w.cell? ⟨b, o + i, none⟩ = some v := h i v hv
theorem Cells.head {w : World} {b o : Nat} {v : Value} {vs : List Value} (h : Cells w b o (v :: vs)) : w.cell? ⟨b, o, none⟩ = some v := h 0 v rfl

/-! rows that the call itself collects -/
def Own {α : Type} (enc : α → List Value) (base e sz : Nat) (w : World) (v : Value) (xs : List α) : Prop := w.ownsRow base e sz v xs.length (xs.flatMap enc)

theorem own_nil {α : Type} (enc : α → List Value) (base e sz : Nat) (w : World) : Own enc base e sz w (.slice none 0 0) [] := World.ownsRow_nil w base e sz

theorem grownBy_of_below {w w1 : World} (h : Below w.heap.size w w1) (row : Option Nat) : w.grownBy w1 row := ⟨h.os, h.tape, h.output, h.size, fun i hi _ => h.block i hi⟩
theorem grownBy_of_put {w w1 : World} {b : Nat} (h : Put w w1 b) : w.grownBy w1 (some b) := ⟨h.os, h.tape, h.output, by rw [h.size]; exact Nat.le_refl _, fun i _ hne => h.other i (fun e => hne (by rw [e]))⟩
theorem below_of_put {w w1 : World} {b B : Nat} (h : Put w w1 b) (hB : B ≤ b) : Below B w w1 := h.below (Below.refl _ _) hB

theorem own_slice {α : Type} {enc : α → List Value} {base e sz : Nat} {w : World} {v : Value} {xs : List α} (h : Own enc base e sz w v xs) : ∃ A n c, v = .slice A n c := by
  rcases h.2 with ⟨h1, _⟩ | ⟨g, cap, cur, h1, _⟩
  · exact ⟨_, _, _, h1⟩
  · exact ⟨_, _, _, h1⟩
theorem Own.ext {α : Type} {enc : α → List Value} {base e sz : Nat} {w w' : World} {v : Value} {xs : List α} (h : Own enc base e sz w v xs) (hb : Below w.heap.size w w') : Own enc base e sz w' v xs :=
  h.kept (grownBy_of_below hb none) (by cases v.ownBlock <;> simp)
theorem Own.grown {α : Type} {enc : α → List Value} {base e sz : Nat} {w w' : World} {v : Value} {xs : List α} {row : Option Nat} (h : Own enc base e sz w v xs) (hg : w.grownBy w' row) (hne : v.ownBlock = none ∨ v.ownBlock ≠ row) : Own enc base e sz w' v xs :=
  h.kept hg hne
theorem own_put {α : Type} {enc : α → List Value} {base e sz : Nat} {w w' : World} {v : Value} {xs : List α} {b : Nat} (h : Own enc base e sz w v xs) (hP : Put w w' b) (hne : some b ≠ v.ownBlock) : Own enc base e sz w' v xs :=
  h.grown (grownBy_of_put hP) (.inr (fun e => hne e.symm))
theorem own_ne_step {v v' : Value} {w : World} {x : Nat} (h : some x ≠ v.ownBlock) (ho : v'.ownBlock = v.ownBlock ∨ v'.ownBlock = some w.heap.size) (hx : x < w.heap.size) : some x ≠ v'.ownBlock := by
  rcases ho with ho | ho
  · rw [ho]; exact h
  · rw [ho]; intro e; cases e; omega
theorem own_ne_nil {x : Nat} : some x ≠ (Value.slice none 0 0).ownBlock := by intro h; cases h
/-- A block that is younger than a row is not the row's. -/
theorem own_ne_new {α : Type} {enc : α → List Value} {base e sz : Nat} {w w' : World} {v : Value} {xs : List α} {b : Nat} {o : Obj} (h : Own enc base e sz w v xs) (hN : New w w' b o) : some b ≠ v.ownBlock := by
  intro hb
  have := (World.ownsRow.lt h b hb.symm).2
  have := hN.eq; omega
theorem below_grown {w0 w w' : World} {α : Type} {enc : α → List Value} {base e sz : Nat} {v : Value} {xs : List α} (hB : Below w0.heap.size w0 w) (h : Own enc base e sz w v xs) (hg : w.grownBy w' v.ownBlock) (hb : w0.heap.size ≤ base) : Below w0.heap.size w0 w' :=
  hB.grown hg hB.size (fun k hk => Nat.le_trans hb (World.ownsRow.lt h k hk).1)
theorem blk_grown {w w' : World} {v : Value} {b : Nat} {o : Obj} (h : w.heap[b]? = some o) (hg : w.grownBy w' v.ownBlock) (hne : some b ≠ v.ownBlock) : w'.heap[b]? = some o :=
  (hg.block b (Array.getElem?_eq_some_iff.1 h).1 hne).trans h

theorem rd_of_Own {α : Type} {enc : α → List Value} {sz base e : Nat} {w : World} {v : Value} {xs : List α} (h : Own enc base e sz w v xs) (henc : ∀ x, (enc x).length = sz) (hbd : xs.length ≤ 140737488355328) :
    ∃ A n c, v = .slice A n c ∧ Rd (Flat enc) sz w A n xs ∧ n = xs.length := by
  obtain ⟨A, c, hv, hr⟩ := rd_of_own henc rfl hbd h
  exact ⟨A, _, c, hv, hr, rfl⟩

theorem rd_of_OwnC {α : Type} {enc : α → List Value} {sz base e : Nat} {w : World} {v : Value} {xs : List α} (h : Own enc base e sz w v xs) (henc : ∀ x, (enc x).length = sz) (hbd : xs.length ≤ 140737488355328) :
    ∃ A n c, v = .slice A n c ∧ Rd (Flat enc) sz w A n xs ∧ n = xs.length ∧ n ≤ c := by
  obtain ⟨A, c, hv, hr⟩ := rd_of_own henc rfl hbd h
  refine ⟨A, _, c, hv, hr, rfl, ?_⟩
  rcases h.2 with ⟨h1, h2⟩ | ⟨g, cap, cur, h1, _, _, hnc, _⟩
  · rw [h1] at hv; simp at hv; omega
  · rw [h1] at hv; cases hv; exact hnc
/-- What is left of a slice behind its first j rows. -/
theorem rd_drop {α : Type} {R : World → List Value → α → Prop} {sz : Nat} {w : World} {A : Option Addr} {n c j : Nat} {xs : List α} (h : Rd R sz w A n xs) (hc : n ≤ c) (hj : j ≤ n) : Rd R sz w (if c = j then A else A.map (·.add (j * sz))) (n - j) (xs.drop j) := by
  obtain ⟨b, off, hA, hr⟩ := h.rows
  refine ⟨by rw [List.length_drop, h.len], by have := h.bd; omega, b, off + j * sz, fun h0 => ?_, fun i x hx => ?_⟩
  · rw [if_neg (by omega), hA (by omega)]
    simp [add_lit]
  · rw [List.getElem?_drop] at hx
    obtain ⟨cs, h1, h2, h3⟩ := hr (j + i) x hx
    exact ⟨cs, h1, h2, by rw [show off + j * sz + i * sz = off + (j + i) * sz by rw [Nat.add_mul]; omega]; exact h3⟩
theorem rd_nil {α : Type} (R : World → List Value → α → Prop) (sz : Nat) (w : World) : Rd R sz w none 0 [] := ⟨rfl, by omega, 0, 0, fun h => absurd h (by omega), fun i x hx => by simp at hx⟩

/-- A literal slice is read. -/
theorem rd_of_blk {α : Type} {enc : α → List Value} {sz b n : Nat} {w : World} {cs : Array Value} {T : TypeId} {fr : Nat × Nat} (xs : List α) (hb : w.heap[b]? = some (.cells cs T fr)) (henc : ∀ x, (enc x).length = sz) (hn : xs.length = n) (hbd : Nat.ble n 140737488355328 = true) (hc : cs.toList = xs.flatMap enc) :
    Rd (Flat enc) sz w (some ⟨b, 0, none⟩) n xs := by
  refine ⟨hn, by simpa using hbd, b, 0, fun _ => rfl, fun i x hx => ⟨enc x, henc x, rfl, ?_⟩⟩
  have hfl : ∀ (xs : List α) i x j u, xs[i]? = some x → (enc x)[j]? = some u → (xs.flatMap enc)[i * sz + j]? = some u := by
    intro xs
    induction xs with
    | nil => intro i x j u h; simp at h
    | cons y ys ih =>
      intro i x j u h1 h2
      rw [List.flatMap_cons]
      cases i with
      | zero =>
        simp at h1; subst h1
        have hj := (List.getElem?_eq_some_iff.1 h2).1
        rw [Nat.zero_mul, Nat.zero_add, List.getElem?_append_left hj]; exact h2
      | succ i =>
        simp at h1
        rw [List.getElem?_append_right (by rw [henc, Nat.add_mul]; omega), henc]
        rw [show (i + 1) * sz + j - sz = i * sz + j by rw [Nat.add_mul]; omega]
        exact ih i x j u h1 h2
  intro j u hj
  have h1 := hfl xs i x j u hx hj
  rw [← hc] at h1
  refine cell_blk hb ?_
  simpa using h1

/-- Rows that are told one by one. -/
def RowsAt {α : Type} (R : World → List Value → α → Prop) (sz : Nat) (w : World) (b : Nat) : Nat → List α → Prop
  | _, [] => True
  | off, x :: xs => (∃ cs, cs.length = sz ∧ R w cs x ∧ Cells w b off cs) ∧ RowsAt R sz w b (off + sz) xs
theorem RowsAt.get {α : Type} {R : World → List Value → α → Prop} {sz : Nat} {w : World} {b : Nat} {xs : List α} : ∀ {off : Nat}, RowsAt R sz w b off xs → ∀ i x, xs[i]? = some x → ∃ cs, cs.length = sz ∧ R w cs x ∧ Cells w b (off + i * sz) cs := by
  induction xs with
  | nil => intro off _ i x hx; simp at hx
  | cons y ys ih =>
    intro off h i x hx
    cases i with
    | zero => simp at hx; subst hx; simpa using h.1
    | succ i =>
      simp at hx
      have := ih h.2 i x hx
      rwa [show off + sz + i * sz = off + (i + 1) * sz by rw [Nat.add_mul]; omega] at this
theorem rd_of_rows {α : Type} {R : World → List Value → α → Prop} {sz b n : Nat} {w : World} {xs : List α} (h : RowsAt R sz w b 0 xs) (hn : xs.length = n) (hbd : Nat.ble n 140737488355328 = true) : Rd R sz w (some ⟨b, 0, none⟩) n xs :=
  ⟨hn, by simpa using hbd, b, 0, fun _ => rfl, h.get⟩

section
variable {P : Program} {N : Ev} {K : Fr → World → Prop} {Q : Post} {l : Fr} {w : World}
variable {d : Nat} {T U : TypeId} {pos : String} {aft : Array Edge} {g : Option (Nat × Bool)}

/-- 'append(s, x)' onto rows of the call's own. -/
theorem op_appendO {α : Type} {enc : α → List Value} {s x : Operand} {base e size bytes b : Nat} {v : Value} {xs : List α} (y : α) {cl : Array Operand} {ts : Array TypeId} (hcl : cl = #[s, x]) (hts : ts = #[T, T]) (hT : AppT P T e size bytes) (hs : evo l s = some v) (hx : evo l x = some (.slice (some ⟨b, 0, none⟩) 1 1))
    (hown : Own enc base e size w v xs) (hnews : Cells w b 0 (enc y)) (hl : (enc y).length = size) (h1 : ((enc y).all (·.oneCell')) = true) (hb : (xs.length + 1) * bytes ≤ 140737488355328) (hm : xs.length + 1 ≤ 9223372036854775807) (hbase : base ≤ w.heap.size) (hN : Nat.blt d N.n = true)
    (k : ∀ v' w', Own enc base e size w' v' (xs ++ [y]) → w.grownBy w' v.ownBlock → K ((d, v') :: l) w') :
    OpW P N ⟨some d, .call ⟨.builtin .append, cl, ts⟩, U, pos, aft, g⟩ K Q l w := by
  refine op_append hcl hts hT hs hx hown hnews (by rw [hl, Nat.one_mul]) h1 hb hm hbase hN ?_
  intro v' w' h2 h3 _ _
  refine k v' w' ?_ h3
  unfold Own
  simpa using h2

theorem op_appendP {α : Type} {enc : α → List Value} {s x : Operand} {base e size bytes b : Nat} {v : Value} {xs : List α} (y : α) {cl : Array Operand} {ts : Array TypeId} (hcl : cl = #[s, x]) (hts : ts = #[T, T]) (hT : AppT P T e size bytes) (hs : evo l s = some v) (hx : evo l x = some (.slice (some ⟨b, 0, none⟩) 1 1))
    (hown : Own enc base e size w v xs) (hnews : Cells w b 0 (enc y)) (hl : (enc y).length = size) (h1 : ((enc y).all (·.oneCell')) = true) (hb : (xs.length + 1) * bytes ≤ 140737488355328) (hm : xs.length + 1 ≤ 9223372036854775807) (hbase : base ≤ w.heap.size) (hN : Nat.blt d N.n = true)
    (k : ∀ v' w', Own enc base e size w' v' (xs ++ [y]) → w.grownBy w' v.ownBlock → (v'.ownBlock = v.ownBlock ∨ v'.ownBlock = some w.heap.size) → K ((d, v') :: l) w') :
    OpW P N ⟨some d, .call ⟨.builtin .append, cl, ts⟩, U, pos, aft, g⟩ K Q l w := by
  refine op_append hcl hts hT hs hx hown hnews (by rw [hl, Nat.one_mul]) h1 hb hm hbase hN ?_
  intro v' w' h2 h3 _ h5
  refine k v' w' ?_ h3 h5
  unfold Own
  simpa using h2
/-- A slice's rows put behind rows of the call's own. -/
theorem flat_get {α : Type} {enc : α → List Value} {sz : Nat} (henc : ∀ x, (enc x).length = sz) : ∀ (xs : List α) (j : Nat) (u : Value), (xs.flatMap enc)[j]? = some u → ∃ i k x, j = i * sz + k ∧ xs[i]? = some x ∧ (enc x)[k]? = some u := by
  intro xs
  induction xs with
  | nil => intro j u h; simp at h
  | cons y ys ih =>
    intro j u h
    rw [List.flatMap_cons] at h
    rcases Nat.lt_or_ge j sz with hj | hj
    · rw [List.getElem?_append_left (by rw [henc]; exact hj)] at h
      exact ⟨0, j, y, by omega, rfl, h⟩
    · rw [List.getElem?_append_right (by rw [henc]; exact hj), henc] at h
      obtain ⟨i, k, x, h1, h2, h3⟩ := ih _ _ h
      exact ⟨i + 1, k, x, by rw [Nat.add_mul]; omega, by simpa using h2, h3⟩
theorem flat_len {α : Type} {enc : α → List Value} {sz : Nat} (henc : ∀ x, (enc x).length = sz) : ∀ (xs : List α), (xs.flatMap enc).length = xs.length * sz := by
  intro xs
  induction xs with
  | nil => simp
  | cons y ys ih => rw [List.flatMap_cons, List.length_append, ih, henc, List.length_cons, Nat.add_mul]; omega
theorem op_appendS {α : Type} {enc : α → List Value} {s x : Operand} {base e size bytes m c : Nat} {A : Option Addr} {v : Value} {xs ys : List α} {cl : Array Operand} {ts : Array TypeId} (hcl : cl = #[s, x]) (hts : ts = #[T, T]) (hT : AppT P T e size bytes) (hs : evo l s = some v) (hx : evo l x = some (.slice A m c))
    (hown : Own enc base e size w v xs) (hrd : Rd (Flat enc) size w A m ys) (hl : ∀ y, (enc y).length = size) (h1 : ∀ y, ((enc y).all (·.oneCell')) = true) (hb : (xs.length + m) * bytes ≤ 140737488355328) (hm : xs.length + m ≤ 9223372036854775807) (hbase : base ≤ w.heap.size) (hN : Nat.blt d N.n = true)
    (k : ∀ v' w', Own enc base e size w' v' (xs ++ ys) → w.grownBy w' v.ownBlock → (v'.ownBlock = v.ownBlock ∨ v'.ownBlock = some w.heap.size) → K ((d, v') :: l) w') :
    OpW P N ⟨some d, .call ⟨.builtin .append, cl, ts⟩, U, pos, aft, g⟩ K Q l w := by
  subst hcl hts
  obtain ⟨hU, hsz, i, z, hi, hz, hsize, hby, hzs⟩ := hT
  obtain ⟨b, off, hA, hc⟩ := hrd.flat
  have hlen : (ys.flatMap enc).length = m * size := by
    rw [← hrd.len]
    exact flat_len hl ys
  have fin : ∀ v' w', w'.ownsRow base e size v' (xs.length + m) (xs.flatMap enc ++ ys.flatMap enc) → Own enc base e size w' v' (xs ++ ys) := by
    intro v' w' h; unfold Own; rw [List.length_append, List.flatMap_append, hrd.len]; exact h
  cases A with
  | some a =>
    have hnews : ∀ j u, (ys.flatMap enc)[j]? = some u → w.cell? (a.add j) = some u := by
      intro j u hj
      obtain ⟨i', k', y, e1, e2, e3⟩ := flat_get hl ys j u hj
      have hi' := (List.getElem?_eq_some_iff.1 e2).1
      have hA' := hA (by have := hrd.len; omega)
      cases hA'
      have := hc i' y e2 k' u e3
      rw [add_lit, e1, ← Nat.add_assoc]; exact this
    obtain ⟨v', w', hr, h2, h3, h4, h5⟩ := run_append_own_at (P := P) (w := w) base T U e i z size bytes hU hi hz hsize hby hzs hsz v xs.length _ hown a m c _ hlen hnews
      (by intro u hu; obtain ⟨y, _, hy⟩ := List.mem_flatMap.1 hu; exact List.all_eq_true.1 (h1 y) u hy) (by simpa [maxLen] using hm) hb hbase
    refine op_val rfl hN (fun a ha => ?_) (k v' w' (fin _ _ h2) h3 h5) (dk_grown hown h3)
    simp [execOp, resolve, invoke, builtin, ha.eval hs, ha.eval hx, hr]
  | none =>
    have hm0 : m = 0 := by
      rcases Nat.eq_zero_or_pos m with h | h
      · exact h
      · cases hA h
    subst hm0
    have hy : ys = [] := List.eq_nil_of_length_eq_zero hrd.len
    subst hy
    have hr : (Builtin.append_ #[T, T] U #[v, .slice none 0 c]).run P w = .ok v w := by
      rcases hown.2 with ⟨rfl, _⟩ | ⟨gg, cap, cur, rfl, _, _, hnc, _⟩
      · simp [Builtin.append_, run_underlying hU, sizeOf, typeInfo, hi, Builtin.lenOf, Builtin.firstCells]
      · simp [Builtin.append_, run_underlying hU, sizeOf, typeInfo, hi, Builtin.lenOf, Builtin.firstCells, hnc, storeCells]
    refine op_val rfl hN (fun a ha => ?_) (k v w (by simpa using hown) ⟨rfl, rfl, rfl, Nat.le_refl _, fun _ _ _ => rfl⟩ (.inl rfl))
    simp [execOp, resolve, invoke, builtin, ha.eval hs, ha.eval hx, hr]

theorem op_indexArr {x y : Operand} {kd : IntKind} {b o n e sz j : Nat} {i : Int} (hx : evo l x = some (.pointer (some ⟨b, o, none⟩))) (hy : evo l y = some (.int kd i)) (hU : Und P T (.array n e)) (hS : Sz P e sz) (hj : i = (j : Int)) (hlt : j < n)
    (hN : Nat.blt d N.n = true) (k : K ((d, .pointer (some ⟨b, o + j * sz, none⟩)) :: l) w) :
    OpW P N ⟨some d, .indexAddr T x y, U, pos, aft, g⟩ K Q l w := by
  subst hj
  refine op_val rfl hN (fun s hs => ?_) k
  simp [execOp, hs.eval hx, hs.eval hy, Instr.indexAt, Instr.sureAddr, asIntOf, run_underlying hU, hS w, add_lit, hlt]

/-! whole numbers: other kinds -/
theorem op_conv_int {src dst : TypeId} {x : Operand} {ka kd : IntKind} {a r : Int} (hx : evo l x = some (.int ka a)) (hU : Und P dst (.int kd)) (hr : kd.wrap a = r) (hS : ∃ ds, Und P src ds) (hN : Nat.blt d N.n = true) (k : K ((d, .int kd r) :: l) w) :
    OpW P N ⟨some d, .convert src dst x, U, pos, aft, g⟩ K Q l w := by
  obtain ⟨ds, hds⟩ := hS
  refine op_convert hx (fun w => ?_) hN k
  subst hr
  simp only [convert, Sem.run_bind, run_underlying hds, run_underlying hU, Result.andThen_ok]
  cases ds <;> rfl
theorem op_shr {x y : Operand} {kd ky : IntKind} {a b r : Int} {T' : TypeId} (hx : evo l x = some (.int kd a)) (hy : evo l y = some (.int ky b)) (h0 : 0 ≤ b) (hr : a.fdiv (2 ^ min b.toNat kd.bits) = r) (hN : Nat.blt d N.n = true) (k : K ((d, .int kd r) :: l) w) :
    OpW P N ⟨some d, .binOp .shr T x y T', U, pos, aft, g⟩ K Q l w := by
  refine op_bin hx hy (fun w => by simp [eqGuard]) (fun w => ?_) hN k
  subst hr
  have : ¬ b < 0 := by omega
  simp [binOp, Op.shift, this]
theorem op_shrN {x y : Operand} {kd ky : IntKind} {n s : Nat} {T' : TypeId} (hx : evo l x = some (.int kd ((n : Nat) : Int))) (hy : evo l y = some (.int ky ((s : Nat) : Int))) (hs : Nat.ble s kd.bits = true) (hN : Nat.blt d N.n = true) (k : K ((d, .int kd ((n / 2 ^ s : Nat) : Int)) :: l) w) :
    OpW P N ⟨some d, .binOp .shr T x y T', U, pos, aft, g⟩ K Q l w := by
  refine op_shr hx hy (by omega) ?_ hN k
  have h1 : min ((s : Nat) : Int).toNat kd.bits = s := by
    have := Nat.le_of_ble_eq_true hs
    simp; omega
  rw [h1, Int.fdiv_eq_ediv_of_nonneg _ (by exact Int.pow_nonneg (by omega))]
  norm_cast
/-- s[j:] -/
theorem op_sliceLo {x y : Operand} {kd : IntKind} {A : Option Addr} {n c e sz j : Nat} {i : Int} (hx : evo l x = some (.slice A n c)) (hy : evo l y = some (.int kd i)) (hU : Und P T (.slice e)) (hS : Sz P e sz) (hj : i = (j : Int)) (hle : j ≤ n) (hN : Nat.blt d N.n = true)
    (k : K ((d, .slice (if c = j then A else A.map (·.add (j * sz))) (n - j) (c - j)) :: l) w) : OpW P N ⟨some d, .slice T x (some y) none none, U, pos, aft, g⟩ K Q l w := by
  subst hj
  refine op_val rfl hN (fun s hs => ?_) k
  have h1 : (0 : Int) ≤ (j : Int) ∧ (j : Int) ≤ (n : Int) := by omega
  simp [execOp, hs.eval hx, hs.eval hy, Instr.sliceAt, Instr.slice, Instr.sliceBounds, Instr.sliceBound, asIntOf, run_underlying hU, hS w, hle]
theorem u64_in {n : Int} (h : 0 ≤ n ∧ n ≤ 18446744073709551615) : IntKind.u64.wrap n = n := wrap_in h
end
end Go.Eng

set_option linter.unusedVariables false
set_option linter.unusedSimpArgs false
namespace Go.Eng
open Go.RowKit Go.Shelf Go.Proofs

/-! '==' of flat structs and arrays -/
def cellEq : Value → Value → Bool
  | .int _ a, .int _ b => decide (a = b)
  | .string a, .string b => decide (a = b)
  | .bool a, .bool b => decide (a = b)
  | _, _ => false
def andAll : List Bool → Bool
  | [] => true
  | [b] => b
  | b :: l => b && andAll l
def basicB (P : Program) (T : TypeId) : Bool := match P.underlying T with
  | some (.int _) | some .string | some .bool => true
  | _ => false
/-- two cells that may be compared -/
def pairB (P : Program) (T : TypeId) (x y : Value) : Bool := match P.underlying T, x, y with
  | some (.int _), .int k _, .int k' _ => decide (k = k')
  | some .string, .string _, .string _ => true
  | some .bool, .bool _, .bool _ => true
  | _, _, _ => false

section
variable {P : Program} {w : World}
theorem run_pair {d : Nat} {T : TypeId} {x y : Value} (h : pairB P T x y = true) : (Op.equalIn (d + 1) T x y).run P w = .ok (cellEq x y) w := by
  unfold pairB at h
  split at h
  · rename_i k0 k a k' b hu
    have hk : k = k' := by simpa using h
    subst hk
    rw [run_equalIn_int w d T k k0 a b hu]; rfl
  · rename_i a b hu
    rw [run_equalIn_string w d T a b hu, bytes_beq]; rfl
  · rename_i a b hu
    rw [run_equalIn_bool' w d T a b hu]
    cases a <;> cases b <;> rfl
  · cases h
theorem run_part {T : TypeId} {xs : Array Value} {o : Nat} {v : Value} (hb : basicB P T = true) (hv : xs[o]? = some v) : (part T xs o).run P w = .ok v w := by
  have hA : (isAgg T).run P w = .ok false w := by
    unfold basicB at hb
    split at hb
    · rename_i k hu; simp [isAgg, Sem.run_bind, run_underlying hu]
    · rename_i hu; simp [isAgg, Sem.run_bind, run_underlying hu]
    · rename_i hu; simp [isAgg, Sem.run_bind, run_underlying hu]
    · cases hb
  simp only [part, Sem.run_bind, hA, Result.andThen_ok, Bool.false_eq_true, if_false, hv, Sem.run_pure]

/-- the fields of a flat struct, from a place on -/
def flatFs (P : Program) : Nat → List Field → Bool
  | _, [] => true
  | i, f :: fs => (f.name != "_") && Nat.beq f.offset i && basicB P f.type && flatFs P (i + 1) fs
def pairsFs (P : Program) : List Field → List Value → List Value → Bool
  | f :: fs, x :: xs, y :: ys => pairB P f.type x y && pairsFs P fs xs ys
  | [], [], [] => true
  | _, _, _ => false
def eqCells : List Value → List Value → List Bool
  | x :: xs, y :: ys => cellEq x y :: eqCells xs ys
  | _, _ => []

theorem run_eqFields {d : Nat} {X Y : Array Value} {fs : List Field} : ∀ {i : Nat} {xs ys : List Value}, flatFs P i fs = true → pairsFs P fs xs ys = true → X.toList.drop i = xs → Y.toList.drop i = ys →
    (Op.eqFields (d + 1) X Y fs).run P w = .ok (andAll (eqCells xs ys)) w := by
  induction fs with
  | nil =>
    intro i xs ys h1 h2 _ _
    match xs, ys, h2 with
    | [], [], _ => simp [Op.eqFields, eqCells, andAll]
  | cons f fs ih =>
    intro i xs ys h1 h2 hX hY
    match xs, ys, h2 with
    | x :: xs, y :: ys, h2 =>
      simp only [flatFs, Bool.and_eq_true] at h1
      obtain ⟨⟨⟨hn, ho⟩, hb⟩, hr⟩ := h1
      have ho' : f.offset = i := Nat.eq_of_beq_eq_true ho
      have hn' : f.name ≠ "_" := by simpa using hn
      simp only [pairsFs, Bool.and_eq_true] at h2
      have hx : X[i]? = some x := by
        have := congrArg (fun l => l[0]?) hX
        simpa using this
      have hy : Y[i]? = some y := by
        have := congrArg (fun l => l[0]?) hY
        simpa using this
      have hX' : X.toList.drop (i + 1) = xs := by
        have := congrArg List.tail hX
        simpa using this
      have hY' : Y.toList.drop (i + 1) = ys := by
        have := congrArg List.tail hY
        simpa using this
      have hrest := ih hr h2.2 hX' hY'
      rw [Op.eqFields, if_pos hn']
      simp only [Sem.run_bind, ho', run_part hb hx, run_part hb hy, run_pair h2.1, Result.andThen_ok]
      cases hc : cellEq x y with
      | false =>
        simp only [Bool.not_false, if_true, Sem.run_pure]
        cases hrr : eqCells xs ys with
        | nil => simp [eqCells, hc, hrr, andAll]
        | cons b l => simp [eqCells, hc, hrr, andAll]
      | true =>
        simp only [Bool.not_true, Bool.false_eq_true, if_false, hrest]
        cases hrr : eqCells xs ys with
        | nil => simp [eqCells, hc, hrr, andAll]
        | cons b l => simp [eqCells, hc, hrr, andAll]

theorem run_eqFlat {d : Nat} {t : TypeId} {fs : List Field} {X Y : List Value} (hu : P.underlying t = some (.struct fs.toArray)) (hp : P.stoodInHeld t = false) (hf : flatFs P 0 fs = true) (hx : pairsFs P fs X Y = true) :
    (Op.equalIn (d + 2) t (.agg X.toArray) (.agg Y.toArray)).run P w = .ok (andAll (eqCells X Y)) w := by
  have hfo : P.fieldsOf t = fs.toArray := by simp [Program.fieldsOf, hu]
  rw [run_equalIn_struct w (d + 1) t _ _ (by rw [hfo]; exact hu) hp, hfo]
  exact run_eqFields hf hx (by simp) (by simp)

def pairsA (P : Program) (e : TypeId) : List Value → List Value → Bool
  | x :: xs, y :: ys => pairB P e x y && pairsA P e xs ys
  | [], [] => true
  | _, _ => false
theorem run_eqItems {d : Nat} {e : TypeId} {X Y : Array Value} (hb : basicB P e = true) : ∀ {n i : Nat} {xs ys : List Value}, xs.length = n → pairsA P e xs ys = true → X.toList.drop i = xs → Y.toList.drop i = ys →
    (Op.eqItems (d + 1) e 1 X Y (List.range' i n)).run P w = .ok (andAll (eqCells xs ys)) w := by
  intro n
  induction n with
  | zero =>
    intro i xs ys hn h2 _ _
    match xs, ys, hn, h2 with
    | [], [], _, _ => simp [Op.eqItems, eqCells, andAll]
  | succ n ih =>
    intro i xs ys hn h2 hX hY
    match xs, ys, hn, h2 with
    | x :: xs, y :: ys, hn, h2 =>
      simp only [pairsA, Bool.and_eq_true] at h2
      have hx : X[i]? = some x := by
        have := congrArg (fun l => l[0]?) hX
        simpa using this
      have hy : Y[i]? = some y := by
        have := congrArg (fun l => l[0]?) hY
        simpa using this
      have hX' : X.toList.drop (i + 1) = xs := by
        have := congrArg List.tail hX
        simpa using this
      have hY' : Y.toList.drop (i + 1) = ys := by
        have := congrArg List.tail hY
        simpa using this
      have hrest := ih (by simpa using hn) h2.2 hX' hY'
      rw [List.range'_succ, Op.eqItems]
      simp only [Sem.run_bind, Nat.mul_one, run_part hb hx, run_part hb hy, run_pair h2.1, Result.andThen_ok]
      cases hc : cellEq x y with
      | false =>
        simp only [Bool.not_false, if_true, Sem.run_pure]
        cases hrr : eqCells xs ys with
        | nil => simp [eqCells, hc, hrr, andAll]
        | cons b l => simp [eqCells, hc, hrr, andAll]
      | true =>
        simp only [Bool.not_true, Bool.false_eq_true, if_false, hrest]
        cases hrr : eqCells xs ys with
        | nil => simp [eqCells, hc, hrr, andAll]
        | cons b l => simp [eqCells, hc, hrr, andAll]
theorem run_eqArr {d : Nat} {t e : TypeId} {n : Nat} {X Y : List Value} (hu : P.underlying t = some (.array n e)) (hb : basicB P e = true) (hc : P.cellsOf e = 1) (hi : (P.info? e).isSome = true) (hn : Nat.beq X.length n = true) (hx : pairsA P e X Y = true) :
    (Op.equalIn (d + 2) t (.agg X.toArray) (.agg Y.toArray)).run P w = .ok (andAll (eqCells X Y)) w := by
  obtain ⟨i, hi⟩ := Option.isSome_iff_exists.1 hi
  rw [run_equalIn_array w (d + 1) _ _ hu hi, hc, List.range_eq_range']
  exact run_eqItems hb (Nat.eq_of_beq_eq_true hn) hx (by simp) (by simp)

/-- Two aggregates of type t are compared cell by cell. -/
def EqT (P : Program) (t : TypeId) (X Y : List Value) : Prop := P.eqGuardType P.depth t = false ∧ ∀ w, (Op.equalIn 10000 t (.agg X.toArray) (.agg Y.toArray)).run P w = .ok (andAll (eqCells X Y)) w
end
section
variable {P : Program} {N : Ev} {K : Fr → World → Prop} {Q : Post} {l : Fr} {w : World}
variable {d : Nat} {T U : TypeId} {pos : String} {aft : Array Edge} {g : Option (Nat × Bool)}
theorem op_eqlA {x y : Operand} {X Y : List Value} {T' : TypeId} {b : Bool} (hx : evo l x = some (.agg X.toArray)) (hy : evo l y = some (.agg Y.toArray)) (h : EqT P T X Y) (hb : andAll (eqCells X Y) = b) (hN : Nat.blt d N.n = true) (k : K ((d, .bool b) :: l) w) :
    OpW P N ⟨some d, .binOp .eql T x y T', U, pos, aft, g⟩ K Q l w :=
  op_bin hx hy (fun w => run_eqGuard_agg w .eql T x y _ _ h.1) (fun w => by rw [run_eql_struct, h.2 w, hb]; rfl) hN k
theorem op_neqA {x y : Operand} {X Y : List Value} {T' : TypeId} {b : Bool} (hx : evo l x = some (.agg X.toArray)) (hy : evo l y = some (.agg Y.toArray)) (h : EqT P T X Y) (hb : andAll (eqCells X Y) = b) (hN : Nat.blt d N.n = true) (k : K ((d, .bool (!b)) :: l) w) :
    OpW P N ⟨some d, .binOp .neq T x y T', U, pos, aft, g⟩ K Q l w :=
  op_bin hx hy (fun w => run_eqGuard_agg w .neq T x y _ _ h.1) (fun w => by rw [run_neq_struct, h.2 w, hb]; rfl) hN k
theorem op_eqlb {x y : Operand} {a b : Bool} {T' : TypeId} (hU : Und P T .bool) (hx : evo l x = some (.bool a)) (hy : evo l y = some (.bool b)) (hN : Nat.blt d N.n = true) (k : K ((d, .bool (decide (a = b))) :: l) w) :
    OpW P N ⟨some d, .binOp .eql T x y T', U, pos, aft, g⟩ K Q l w :=
  op_bin hx hy (fun w => by simp [eqGuard]) (fun w => by
    simp only [binOp, Op.equal, Sem.run_bind]
    rw [show Op.maxDepth = 9999 + 1 from rfl, run_equalIn_bool' w 9999 T a b hU]
    cases a <;> cases b <;> rfl) hN k
theorem op_neqb {x y : Operand} {a b : Bool} {T' : TypeId} (hU : Und P T .bool) (hx : evo l x = some (.bool a)) (hy : evo l y = some (.bool b)) (hN : Nat.blt d N.n = true) (k : K ((d, .bool (!decide (a = b))) :: l) w) :
    OpW P N ⟨some d, .binOp .neq T x y T', U, pos, aft, g⟩ K Q l w :=
  op_bin hx hy (fun w => by simp [eqGuard]) (fun w => by
    simp only [binOp, Op.equal, Sem.run_bind]
    rw [show Op.maxDepth = 9999 + 1 from rfl, run_equalIn_bool' w 9999 T a b hU]
    cases a <;> cases b <;> rfl) hN k
end
end Go.Eng

set_option linter.unusedVariables false
set_option linter.unusedSimpArgs false
namespace Go.Eng
open Go.RowKit Go.Shelf Go.Proofs Go.ChangeShapes Go.WideShapes

/-! arguments as they are handed in -/
def BK : Type := Option (Option IntKind)
def BK.i (k : IntKind) : BK := some (some k)
def BK.s : BK := some none
def BK.b : BK := none
def BK.is (k : BK) (v : Value) : Prop := match k with
  | some (some k) => ∃ z, v = .int k z ∧ (Lit.int k z).wf = true
  | some none => ∃ z : ByteArray, v = .string z ∧ z.size ≤ maxLen
  | none => ∃ z, v = .bool z
def bkOf (P : Program) (t : TypeId) : Option BK := match P.underlying t with
  | some (.int k) => some (.i k)
  | some .string => some .s
  | some .bool => some .b
  | _ => none
def Cs : List BK → List Value → Prop
  | [], [] => True
  | k :: ks, v :: vs => k.is v ∧ Cs ks vs
  | _, _ => False
theorem cs_len {ks : List BK} : ∀ {cs : List Value}, Cs ks cs → cs.length = ks.length := by
  induction ks with
  | nil => intro cs h; cases cs with
    | nil => rfl
    | cons => exact h.elim
  | cons k ks ih => intro cs h; cases cs with
    | nil => exact h.elim
    | cons v vs => simp [ih h.2]
theorem cs_of {ks : List BK} : ∀ {cs : List Value}, cs.length = ks.length → (∀ (i : Nat) (k : BK), ks[i]? = some k → ∃ v, cs[i]? = some v ∧ k.is v) → Cs ks cs := by
  induction ks with
  | nil => intro cs hl h; cases cs with
    | nil => trivial
    | cons => simp at hl
  | cons k ks ih => intro cs hl h; cases cs with
    | nil => simp at hl
    | cons v vs =>
      obtain ⟨u, hu, hk⟩ := h 0 k (by simp)
      simp at hu; subst hu
      exact ⟨hk, ih (by simpa using hl) fun i k hi => by
        obtain ⟨u, hu, hk⟩ := h (i + 1) k (by simpa using hi)
        exact ⟨u, by simpa using hu, hk⟩⟩

theorem cs_cons {k : BK} {ks : List BK} {cs : List Value} (h : Cs (k :: ks) cs) : ∃ v vs, cs = v :: vs ∧ k.is v ∧ Cs ks vs := by
  cases cs with
  | nil => exact h.elim
  | cons v vs => exact ⟨v, vs, rfl, h.1, h.2⟩
theorem cs_nil {cs : List Value} (h : Cs [] cs) : cs = [] := by
  cases cs with
  | nil => rfl
  | cons => exact h.elim
theorem bk_i {k : IntKind} {v : Value} (h : (BK.i k).is v) : ∃ z, v = .int k z ∧ (Lit.int k z).wf = true := h
theorem bk_s {v : Value} (h : BK.s.is v) : ∃ z : ByteArray, v = .string z ∧ z.size ≤ maxLen := h
theorem bk_b {v : Value} (h : BK.b.is v) : ∃ z, v = .bool z := h

section
variable {H : Type} {enc : TypeId × Value → H} {P : Program} {w : World} {base : Nat} {sp : Nat → Bool} {held : Bool} {n : Nat}
theorem dec_one {t : TypeId} {k : BK} {cs : List Value} {y : DataW H × List MemPlace} (hk : bkOf P t = some k) (h : DataW.trod enc P w base sp held n t cs = some y) : Cs [k] cs := by
  unfold bkOf at hk
  split at hk
  · rename_i u; cases hk
    obtain ⟨z, rfl, _, hw⟩ := DataW.trod_int u h
    exact ⟨⟨z, rfl, hw⟩, trivial⟩
  · rename_i u; cases hk
    obtain ⟨z, rfl, _, hw⟩ := DataW.trod_string u h
    exact ⟨⟨z, rfl, hw⟩, trivial⟩
  · rename_i u; cases hk
    obtain ⟨z, rfl, _⟩ := DataW.trod_bool u h
    exact ⟨⟨z, rfl⟩, trivial⟩
  · cases hk
theorem dec_struct {e : TypeId} {fs : Array Field} {ks : List BK} {cs : List Value} {y : DataW H × List MemPlace} (hs : P.underlying e = some (.struct fs)) (ho : Deep.oneCellFields P fs = true) (hk : fs.toList.map (fun f => bkOf P f.type) = ks.map some)
    (hc : P.cellsOf e = ks.length) (h : DataW.trod enc P w base sp held n e cs = some y) : Cs ks cs := by
  obtain ⟨xs, m, _, _, hl, hxl, hf⟩ := DataW.trod_struct hs h
  have hlen : fs.size = ks.length := by have := congrArg List.length hk; simpa using this
  refine cs_of (by omega) fun i k hi => ?_
  have hlt := (List.getElem?_eq_some_iff.1 hi).1
  have hfi : fs[i]? = some (fs[i]'(by omega)) := Array.getElem?_eq_getElem (by omega)
  obtain ⟨h1, h2⟩ := Deep.hone_of ho i _ hfi
  have h3 := hf i _ hfi
  rw [h1, h2] at h3
  have h4 := congrArg (fun l => l[i]?) hk
  simp only [List.getElem?_map, hi, Option.map_some, Array.getElem?_toList, hfi] at h4
  have h5 : cs[i]? = some (cs[i]'(by omega)) := List.getElem?_eq_getElem (by omega)
  rw [Deep.take1_drop cs i undef (by omega), List.getElem?_eq_getElem (by omega)] at h3
  have h6 := dec_one (Option.some.inj h4) h3
  refine ⟨_, h5, ?_⟩
  have : cs.getD i undef = cs[i]'(by omega) := by simp [List.getElem?_eq_getElem (show i < cs.length by omega)]
  rw [this] at h6
  exact h6.1

theorem rd_arg {α : Type} [Inhabited α] {R : World → List Value → α → Prop} {t e : TypeId} {sz B j : Nat} {a : Option Addr} {len cap : Nat} {d : DataW H} {ps : List MemPlace} {ts : List TypeId} {ds : List (DataW H)}
    (hsz : (DataW.weightsEach P ts ds).all (· ≤ reachBytes) = true) (ht : ts[j]? = some t) (hd : ds[j]? = some d) (hu : P.underlying t = some (.slice e)) (hc : P.cellsOf e = sz) (hB : P.bytesOf e = B) (hB1 : Nat.ble 1 B = true) (hs1 : Nat.blt 0 sz = true)
    (hdec : ∀ (n : Nat) (cs : List Value) (y : DataW H × List MemPlace), DataW.trod enc P w 0 (fun _ => true) held n e cs = some y → ∃ x, cs.length = sz ∧ R w cs x)
    (h : DataW.Trod enc P w 0 (fun _ => true) held t (.slice a len cap) d ps) : ∃ xs : List α, Rd R sz w a len xs ∧ len ≤ cap := by
  have hB1' : 1 ≤ B := by simpa using hB1
  have hs1' : 0 < sz := by simpa using hs1
  obtain ⟨fuel, hf⟩ := h
  have hcs0 : (Value.slice a len cap).cells.toList = [.slice a len cap] := rfl
  rw [hcs0] at hf
  rcases Deep.open_slice hu hf with ⟨hcs, hx⟩ | ⟨a', len', cap', m, n, D, Pl, hcs, _, hl, hm, hmm, hx, hall⟩
  · cases hcs
    exact ⟨[], ⟨rfl, by decide, 0, 0, fun h => absurd h (by omega), fun i x hx => by simp at hx⟩, Nat.le_refl _⟩
  · cases hcs
    rw [if_pos rfl] at hmm
    subst hmm
    have hbd : len ≤ 140737488355328 := by
      obtain ⟨hx, _⟩ := Prod.mk.inj hx
      subst hx
      have z := sized_slice hsz ht hd hu
      rw [hB] at z
      simp only [List.length_map, List.length_range] at z
      have z1 := reachBytes_lt
      have z2 := Nat.le_trans (Nat.le_mul_of_pos_right _ hB1') z
      omega
    rw [hc] at hall
    have hrow : ∀ i, i < len → ∃ x : α, ∃ cs, cs.length = sz ∧ R w cs x ∧ (a'.spot = none) ∧ Cells w a'.block (a'.off + i * sz) cs := by
      intro i hi
      obtain ⟨cs, h1, h2⟩ := hall i (by omega)
      obtain ⟨x, h3, h4⟩ := hdec _ _ _ h2
      obtain ⟨_, h5, h6⟩ := World.cells?_some h1
      have hspot : a'.spot = none := by
        obtain ⟨cs0, g1, g2⟩ := hall 0 (by omega)
        obtain ⟨_, g5, g6⟩ := World.cells?_some g1
        have g7 := g6 0 hs1'
        rw [List.getElem?_eq_getElem (by omega)] at g7
        simpa [Addr.add] using World.cell?_spot g7
      refine ⟨x, cs, h3, h4, hspot, fun j u hj => ?_⟩
      have hjl := (List.getElem?_eq_some_iff.1 hj).1
      have h7 := h6 j (by omega)
      rw [hj] at h7
      obtain ⟨b0, o0, s0⟩ := a'
      simp only at hspot
      subst hspot
      rw [add_lit, add_lit] at h7
      exact h7
    obtain ⟨X, hX⟩ := Deep.choose_lt hrow
    refine ⟨(List.range len).map X, ⟨by simp, hbd, a'.block, a'.off, fun h0 => ?_, fun i x hi => ?_⟩, hl⟩
    · obtain ⟨_, _, _, hspot, _⟩ := hX 0 h0
      obtain ⟨b0, o0, s0⟩ := a'
      simp only at hspot
      subst hspot; rfl
    · have hil : i < len := by have := (List.getElem?_eq_some_iff.1 hi).1; simpa using this
      obtain ⟨cs, h1, h2, _, h3⟩ := hX i hil
      have : x = X i := by
        rw [List.getElem?_map, List.getElem?_range hil] at hi
        exact (Option.some.inj hi).symm
      subst this
      exact ⟨cs, h1, h2, h3⟩
end
end Go.Eng

set_option linter.unusedVariables false
set_option linter.unusedSimpArgs false
namespace Go.Eng
open Go.RowKit Go.Shelf Go.Proofs

/-! loops over functions -/

/-- Nothing turns but the blocks of FT, and loops' records from b on. -/
structure But (FT : List Nat) (b : Nat) (w w' : World) : Prop where
  os : w'.os = w.os
  tape : w'.tape = w.tape
  output : w'.output = w.output
  size : w.heap.size ≤ w'.heap.size
  same : ∀ (k : Nat) (o : Obj), w.heap[k]? = some o → k ∉ FT → (ctl o = false ∨ k < b) → w'.heap[k]? = some o

theorem But.refl {FT : List Nat} {b : Nat} {w : World} : But FT b w w := ⟨rfl, rfl, rfl, Nat.le_refl _, fun _ _ h _ _ => h⟩
theorem But.trans {FT : List Nat} {b : Nat} {u v w : World} (h : But FT b u v) (k : But FT b v w) : But FT b u w :=
  ⟨k.os.trans h.os, k.tape.trans h.tape, k.output.trans h.output, Nat.le_trans h.size k.size, fun i o hi hf hc => k.same i o (h.same i o hi hf hc) hf hc⟩
theorem But.mono {FT FT' : List Nat} {b b' : Nat} {w w' : World} (h : But FT b w w') (hF : ∀ k ∈ FT, k ∈ FT') (hb : b' ≤ b) : But FT' b' w w' :=
  ⟨h.os, h.tape, h.output, h.size, fun k o hk hf hc => h.same k o hk (fun hm => hf (hF k hm)) (hc.imp id (fun hl => Nat.lt_of_lt_of_le hl hb))⟩
theorem But.of_below {FT : List Nat} {b : Nat} {w w' : World} (h : Below w.heap.size w w') : But FT b w w' :=
  ⟨h.os, h.tape, h.output, h.size, fun k o hk _ _ => (h.block k (Array.getElem?_eq_some_iff.1 hk).1).trans hk⟩
theorem But.of_put {FT : List Nat} {b x : Nat} {w w' : World} (h : Put w w' x) (hx : x ∈ FT) : But FT b w w' :=
  ⟨h.os, h.tape, h.output, by rw [h.size]; exact Nat.le_refl _, fun k o hk hf _ => (h.other k (fun e => hf (e ▸ hx))).trans hk⟩
theorem But.of_grown {FT : List Nat} {b : Nat} {w w' : World} {r : Option Nat} (h : w.grownBy w' r) (hx : ∀ k, r = some k → k ∈ FT) : But FT b w w' :=
  ⟨h.os, h.tape, h.output, h.size, fun k o hk hf _ => (h.block k (Array.getElem?_eq_some_iff.1 hk).1 (fun e => hf (hx k e.symm))).trans hk⟩
/-- What turns lies at or beyond B. -/
theorem But.below {FT : List Nat} {b B : Nat} {w w' : World} (h : But FT b w w') (hF : ∀ k ∈ FT, B ≤ k) (hb : B ≤ b) (hB : B ≤ w.heap.size) : Below B w w' :=
  ⟨h.os, h.tape, h.output, h.size, fun k hk => by
    have hlt : k < w.heap.size := Nat.lt_of_lt_of_le hk hB
    have e : w.heap[k]? = some (w.heap[k]'hlt) := Array.getElem?_eq_getElem hlt
    rw [e]
    exact h.same k _ e (fun hm => by have := hF k hm; omega) (.inr (by omega))⟩
theorem but_blk {FT : List Nat} {b x : Nat} {w w' : World} {cs : Array Value} {T : TypeId} {fr : Nat × Nat} (h : w.heap[x]? = some (.cells cs T fr)) (k : But FT b w w') (hx : x ∉ FT) : w'.heap[x]? = some (.cells cs T fr) := k.same x _ h hx (.inl rfl)
theorem but_own {α : Type} {enc : α → List Value} {FT : List Nat} {b base e sz : Nat} {w w' : World} {v : Value} {xs : List α} (h : Own enc base e sz w v xs) (k : But FT b w w') (hF : ∀ x ∈ FT, x < base) : Own enc base e sz w' v xs := by
  refine ⟨h.1, ?_⟩
  rcases h.2 with h2 | ⟨g, cap, cur, hv, hb, hg, hr⟩
  · exact .inl h2
  · refine .inr ⟨g, cap, cur, hv, hb, k.same g _ hg (fun hm => ?_) (.inl rfl), hr⟩
    have := hF g hm
    omega

/-- A frame with the loop's variables. -/
def zipFr : Fr → List Nat → List Value → Fr
  | l, p :: ps, v :: vs => zipFr ((p, v) :: l) ps vs
  | l, _, _ => l
theorem zip_hold {N : Ev} {ps : List Nat} : ∀ {vs : List Value} {l : Fr} {tm : Array Value} {ds : List Deferred}, (ps.all fun p => Nat.blt p N.n) = true → Holds N l { tmps := tm, defers := ds } →
    Holds N (zipFr l ps vs) { tmps := (ps.zip vs).foldl (fun t (p, v) => t.setIfInBounds p v) tm, defers := ds } := by
  induction ps with
  | nil => intro vs l tm ds _ h; simpa [zipFr] using h
  | cons p ps ih =>
    intro vs l tm ds hp h
    cases vs with
    | nil => simpa [zipFr] using h
    | cons v vs =>
      simp only [List.all_cons, Bool.and_eq_true] at hp
      simp only [zipFr, List.zip_cons_cons, List.foldl_cons]
      refine ih hp.2 ?_
      have := h.put (d := p) (by simpa using hp.1) v
      simpa [Act.put] using this

section
variable {P : Program}

/-- What a call of the loop's own function gives. -/
def YieldC (P : Program) (l : Nat) (args : List Value) (W : World) (R : Bool → World → Prop) : Prop :=
  YieldAt (FW none) 0 P l args.toArray W fun e W' => ∃ b, e = .returned (.bool b) ∧ DK (some l) W W' ∧ W.heap.size ≤ W'.heap.size ∧ R b W'

/-- The iterator gf, with what it has captured: it tells S, and turns nothing but the blocks of FT, as long as the rounds leave what lies below n0. -/
def SeqC {α : Type} (P : Program) (gf : Nat) (lb : List Value) (encs : α → List Value) (FT : List Nat) (S : List α) (n0 : Nat) (w : World) : Prop :=
  ∀ (l : Nat) (J Jx : List α → World → Prop) (W : World), Below w.heap.size w W → w.heap.size ≤ l ∧ l < W.heap.size →
    (∀ pre W1 W2, J pre W1 → But FT W1.heap.size W1 W2 → J pre W2) → (∀ pre W1 W2, Jx pre W1 → But FT W1.heap.size W1 W2 → Jx pre W2) →
    (∀ pre x rest W1, S = pre ++ x :: rest → J pre W1 → YieldC P l (encs x) W1 fun b W' => Below n0 W1 W' ∧ if b then J (pre ++ [x]) W' else Jx (pre ++ [x]) W') →
    J [] W →
    Calls P gf (.func (.yield l) #[] #[] :: lb).toArray W fun e W' => ∃ v, e = .returned v ∧ DK (some l) W W' ∧ W.heap.size ≤ W'.heap.size ∧ (J S W' ∨ ∃ pre x rest, S = pre ++ x :: rest ∧ Jx (pre ++ [x]) W')

def jumpOf : Exit → Option Code
  | .ret => some .ret
  | .exit id => some (.exit id)
  | _ => none

/-- How a round's body is left. -/
def roundQ {α : Type} (n0 : Nat) (I : List α → World → Prop) (Ix : Exit → World → Prop) (pre : List α) (W : World) : Post
  | .normal, _, W' => Below n0 W W' ∧ I pre W'
  | .ret, _, W' => Below n0 W W' ∧ Ix .ret W'
  | .exit id, _, W' => Below n0 W W' ∧ Ix (.exit id) W'
  | _, _, _ => False
def nopost : Post := fun _ _ _ => False

theorem below_put {n0 l : Nat} {W : World} {o : Obj} (h : n0 ≤ l) : Below n0 W (W.putObj l o) :=
  ⟨rfl, rfl, rfl, by simp, fun k hk => World.putObj_heap_other (by omega)⟩
theorem dk_putObj {l : Nat} {W : World} {o : Obj} : DK (some l) W (W.putObj l o) := fun k o' hk _ he => (World.putObj_heap_other (fun e => he (by rw [e]))).trans hk
theorem but_putObj {FT : List Nat} {b l : Nat} {W : World} {o o' : Obj} (hb : b ≤ l) (hl : W.heap[l]? = some o) (ho : ctl o = true) : But FT b W (W.putObj l o') := by
  refine ⟨rfl, rfl, rfl, by simp, fun k o2 hk hf hc => ?_⟩
  by_cases e : k = l
  · subst e
    rw [hl] at hk; cases hk
    rcases hc with hc | hc
    · rw [ho] at hc; cases hc
    · omega
  · exact (World.putObj_heap_other e).trans hk

theorem wc_range {α : Type} {N : Ev} {Q : Post} {l : Fr} {w : World} {g : Operand} {ps : List Nat} {assign body : Code} {gf : Nat} {lb : List Value} {encs : α → List Value} {FT : List Nat} {S : List α} {n0 : Nat}
    (hro : N.ro = none) (hmr : N.mr = true) (hg : evo l g = some (.func (.func gf) #[] lb.toArray)) (hE : Enters P gf) (hseq : SeqC P gf lb encs FT S n0 w) (hps : ∀ x, Nat.beq (encs x).length ps.length = true) (hpn : (ps.all fun p => Nat.blt p N.n) = true)
    (hn0 : n0 ≤ w.heap.size) (hFT : ∀ k ∈ FT, k < w.heap.size) (I : List α → World → Prop) (Ix : Exit → World → Prop)
    (hI : ∀ pre W1 W2, I pre W1 → But FT w.heap.size W1 W2 → I pre W2) (hIx : ∀ e W1 W2, Ix e W1 → But FT w.heap.size W1 W2 → Ix e W2) (h0 : I [] w)
    (hbody : ∀ l0 pre x rest W, S = pre ++ x :: rest → I pre W → w.heap.size ≤ W.heap.size → WC P ⟨N.n, some l0, W, none, false⟩ assign (thenK (fun l' W1 => Below n0 W W1 ∧ ∀ W2, But [] w.heap.size W1 W2 → W1.heap.size = W2.heap.size →
      WC P ⟨N.n, some l0, W2, none, false⟩ body (roundQ n0 I Ix (pre ++ [x]) W2) l' W2) nopost) (zipFr l ps (encs x)) W)
    (hdone : ∀ W, I S W → w.heap.size ≤ W.heap.size → Q .normal l W) (hstop : ∀ e W, Ix e W → w.heap.size ≤ W.heap.size → (jumpOf e).isSome = true → Q e l W) :
    WC P N (.rangeFunc g ps.toArray assign body) Q l w := by
  intro a ha hgd
  rw [hro]
  refine wpIn_rangeFunc ?_
  intro fn hfn
  obtain ⟨rec, hrec⟩ : ∃ rec : LoopState → Option Code → Loop, rec = fun st pe => { state := st, pending := pe, fn, tmps := a.tmps, params := ps.toArray, assign, body, defers := w.heap.size } := ⟨_, rfl⟩
  obtain ⟨W1, hW1⟩ : ∃ W1, (w.alloc (.deferred (some []))).alloc (.loop (rec .ready none)) = W1 := ⟨_, rfl⟩
  obtain ⟨L, hL⟩ : ∃ L, L = w.heap.size + 1 := ⟨_, rfl⟩
  have hL1 : W1.heap[L]? = some (.loop (rec .ready none)) := by
    rw [← hW1, hL]; have := World.alloc_heap_new (w.alloc (.deferred (some []))) (.loop (rec .ready none)); rwa [World.size_alloc] at this
  have hK1 : W1.heap[w.heap.size]? = some (.deferred (some [])) := by
    rw [← hW1]; exact (Below.heap_alloc _ _ _ (by simp)).trans (World.alloc_heap_new w _)
  have hb1 : Below w.heap.size w W1 := by
    rw [← hW1]; exact (((Below.refl _ w).alloc (Nat.le_refl _) _).alloc (by simp) _)
  have hs1 : W1.heap.size = w.heap.size + 2 := by rw [← hW1]; simp
  have hwL : w.heap.size ≤ L := by omega
  refine ⟨L, [mark w.heap.size], W1, { target := .fn (.func gf) lb.toArray, args := #[.func (.yield L) #[] #[]] }, W1, gf, (.func (.yield L) #[] #[] :: lb).toArray, W1, ?_, ?_, ?_, ?_, (fun h => by simp [FW] at h), ?_⟩
  · rw [← hW1, hrec, hL]; exact run_enterLoop_outer _ _ _ _ _
  · simp only [resolve, ha.eval hg]
    simp [go_sem]
  · intro f' hf'; trivial
  · have he := hE (#[.func (.yield L) #[] #[]] ++ lb.toArray) W1
    simp only [invoke]
    have e2 : (#[Value.func (.yield L) #[] #[]] ++ lb.toArray : Array Value) = (.func (.yield L) #[] #[] :: lb).toArray := by simp
    rw [e2] at he
    simpa [go_sem, e2] using he
  · have hfin : ∀ (J : Prop) (W : World) (c : Option Code), W.heap[L]? = some (.loop (rec (if c.isNone then .ready else .done) c)) → DK (some L) W1 W → W1.heap.size ≤ W.heap.size →
        (Instr.endLoop L).run P W = .ok c (W.putObj L (.loop { rec (if c.isNone then .ready else .done) c with state := .exhausted })) ∧
        Good N { a with defers := [mark w.heap.size] ++ a.defers } (W.putObj L (.loop { rec (if c.isNone then .ready else .done) c with state := .exhausted })) := by
      intro _ W c hl hdk hsz
      have h1 := run_endLoop (P := P) hl (by rw [hrec]; cases c <;> simp)
      refine ⟨by rw [h1]; rw [hrec], ?_⟩
      have hstep : DK N.ex w (W.putObj L (.loop { rec (if c.isNone then .ready else .done) c with state := .exhausted })) := by
        intro k o hk hc hx
        have hlt : k < w.heap.size := (Array.getElem?_eq_some_iff.1 hk).1
        have hk1 : W1.heap[k]? = some o := (hb1.block k hlt).trans hk
        have hk2 := hdk k o hk1 hc (by intro e; cases e; omega)
        exact (World.putObj_heap_other (by omega)).trans hk2
      have hgw := hgd.step (a' := a) rfl hstep (by simp; omega)
      obtain ⟨Ds, d1, d2, d3, d4⟩ := hgw.marks
      have hD : W.heap[w.heap.size]? = some (.deferred (some [])) := hdk _ _ hK1 rfl (by intro e; cases e; omega)
      have hDn : w.heap.size ∉ Ds := by
        intro hm
        obtain ⟨Ds', e1, _, _, e4⟩ := hgd.marks
        have : Ds = Ds' := by
          have := d1.symm.trans e1
          have hinj : ∀ x y, mark x = mark y → x = y := by intro x y h; simpa [mark] using h
          exact (List.map_inj_right hinj).1 this
        subst this
        have := (Array.getElem?_eq_some_iff.1 (e4 _ hm).2.2).1
        omega
      refine ⟨hgw.dk, hgw.size, hgw.exlt, ⟨w.heap.size :: Ds, by simp [d1], (fun h => by rw [hmr] at h; cases h), List.nodup_cons.2 ⟨hDn, d3⟩, fun D hm => ?_⟩, hgw.rnd⟩
      rcases List.mem_cons.1 hm with rfl | hm
      · refine ⟨hgd.size, fun e => ?_, (World.putObj_heap_other (by omega)).trans hD⟩
        have := hgd.exlt _ e
        have := hgd.size
        omega
      · exact d4 D hm
    have hLF : L ∉ FT := fun hm => by have := hFT L hm; omega
    have hn0L : n0 ≤ L := by omega
    have hholds : Holds N l { a with defers := [mark w.heap.size] ++ a.defers } := ⟨ha.size, ha.slot⟩
    refine CallsIn.mono (calls_FW (hseq L (fun pre W => I pre W ∧ W.heap[L]? = some (.loop (rec .ready none)) ∧ w.heap.size ≤ W.heap.size)
      (fun pre W => ∃ e c, jumpOf e = some c ∧ Ix e W ∧ W.heap[L]? = some (.loop (rec .done (some c))) ∧ w.heap.size ≤ W.heap.size) W1 hb1 ⟨hwL, by omega⟩ ?_ ?_ ?_ ⟨?_, hL1, by omega⟩)) ?_
    · rintro pre A B ⟨h1, h2, h3⟩ hAB
      exact ⟨hI _ _ _ h1 (hAB.mono (fun _ h => h) h3), hAB.same _ _ h2 hLF (.inr (Array.getElem?_eq_some_iff.1 h2).1), Nat.le_trans h3 hAB.size⟩
    · rintro pre A B ⟨e, c, hj, h1, h2, h3⟩ hAB
      exact ⟨e, c, hj, hIx _ _ _ h1 (hAB.mono (fun _ h => h) h3), hAB.same _ _ h2 hLF (.inr (Array.getElem?_eq_some_iff.1 h2).1), Nat.le_trans h3 hAB.size⟩
    · rintro pre x rest W hS ⟨hi, hl, hsz⟩
      have hy := run_yield (P := P) (args := (encs x).toArray) hl (by rw [hrec]; have := Nat.eq_of_beq_eq_true (hps x); simpa using this)
      rw [hrec] at hy
      have hbd := hbody L pre x rest W hS hi hsz
      have hst := hbd { tmps := (ps.toArray.zip (encs x).toArray).foldl (fun t (p, v) => t.setIfInBounds p v) a.tmps, defers := [] } (by
          have := zip_hold (N := ⟨N.n, some L, W, none, false⟩) (ps := ps) (vs := encs x) (l := l) (tm := a.tmps) (ds := []) hpn ⟨ha.size, ha.slot⟩
          simpa using this)
        ⟨DK.refl, Nat.le_refl _, (fun _ h => by cases h), ⟨[], rfl, fun _ => rfl, List.nodup_nil, fun D h => by cases h⟩, fun l0 h0 => by cases h0; exact ⟨by simp, _, hl⟩⟩
      refine ⟨fn, _, assign, body, hy, roundIn_of_wpIn (F := FW none) hfn (wpIn_mono hst ?_)⟩
      rintro e a1 V1 ⟨l1, hl1, g1, q1⟩
      cases e with
      | normal =>
        obtain ⟨hB1, hq⟩ := q1
        have hr1 : V1.heap[L]? = some (.loop (rec .ready none)) := g1.dk L _ hl rfl (by simp)
        have hbr := run_beginRound (P := P) hr1 (by rw [hrec])
        obtain ⟨V2, hV2⟩ : ∃ V2, V1.putObj L (.loop { rec .ready none with state := .busy }) = V2 := ⟨_, rfl⟩
        rw [hV2] at hbr
        have hlt1 : L < V1.heap.size := (Array.getElem?_eq_some_iff.1 hr1).1
        have hr2 : V2.heap[L]? = some (.loop { rec .ready none with state := .busy }) := by rw [← hV2]; exact World.putObj_heap_same hlt1
        have hs2 : V1.heap.size = V2.heap.size := by rw [← hV2]; simp
        have hd1 : a1.defers = [] := by
          obtain ⟨Ds, e1, e2, _⟩ := g1.marks
          rw [e1, e2 rfl]; rfl
        refine ⟨V2, hbr, wpIn_mono (hq V2 (by rw [← hV2]; exact but_putObj hwL hr1 rfl) hs2 a1 ⟨hl1.size, hl1.slot⟩
          ⟨DK.refl, Nat.le_refl _, (fun _ h => by cases h), ⟨[], hd1, fun _ => rfl, List.nodup_nil, fun D h => by cases h⟩, fun l0 h0 => by cases h0; exact ⟨by simp, _, hr2⟩⟩) ?_⟩
        have hdk12 : DK (some L) V1 V2 := by rw [← hV2]; exact dk_putObj
        have hB12 : Below n0 V1 V2 := by rw [← hV2]; exact below_put hn0L
        have fin : ∀ (jump : Option Code) (V3 : World) (l3 : Fr) (a3 : Act), Good ⟨N.n, some L, V2, none, false⟩ a3 V3 → Below n0 V2 V3 →
            ∃ V4, (Instr.endRound L jump).run P V3 = .ok (.bool jump.isNone) V4 ∧ V4.heap[L]? = some (.loop (rec (if jump.isNone then .ready else .done) jump)) ∧ DK (some L) W V4 ∧ W.heap.size ≤ V4.heap.size ∧ Below n0 W V4 ∧ But FT w.heap.size V3 V4 ∧ w.heap.size ≤ V4.heap.size := by
          intro jump V3 l3 a3 g3 hB3
          have hr3 : V3.heap[L]? = some (.loop { rec .ready none with state := .busy }) := g3.dk L _ hr2 rfl (by simp)
          have hlt3 : L < V3.heap.size := (Array.getElem?_eq_some_iff.1 hr3).1
          have hend := run_endRound (P := P) jump hr3
          have h13 : W.heap.size ≤ V1.heap.size := g1.size
          have h23 : V2.heap.size ≤ V3.heap.size := g3.size
          refine ⟨_, hend, ?_, ?_, ?_, ?_, but_putObj hwL hr3 rfl, ?_⟩
          · rw [World.putObj_heap_same hlt3, hrec]
          · exact ((g1.dk.some.trans hdk12).trans g3.dk.some).trans dk_putObj
          · simp; omega
          · exact ((hB1.trans hB12).trans hB3).trans (below_put hn0L)
          · simp; omega
        rintro e a3 V3 ⟨l3, hl3, g3, q3⟩
        cases e with
        | normal =>
          obtain ⟨hB3, hI3⟩ := q3
          obtain ⟨V4, f1, f2, f3, f4, f5, f6, f7⟩ := fin none V3 l3 a3 g3 hB3
          exact ⟨_, V4, f1, true, rfl, f3, f4, f5, hI _ _ _ hI3 f6, f2, f7⟩
        | ret =>
          obtain ⟨hB3, hI3⟩ := q3
          obtain ⟨V4, f1, f2, f3, f4, f5, f6, f7⟩ := fin (some .ret) V3 l3 a3 g3 hB3
          exact ⟨_, V4, f1, false, rfl, f3, f4, f5, .ret, .ret, rfl, hIx _ _ _ hI3 f6, f2, f7⟩
        | exit id =>
          obtain ⟨hB3, hI3⟩ := q3
          obtain ⟨V4, f1, f2, f3, f4, f5, f6, f7⟩ := fin (some (.exit id)) V3 l3 a3 g3 hB3
          exact ⟨_, V4, f1, false, rfl, f3, f4, f5, .exit id, .exit id, rfl, hIx _ _ _ hI3 f6, f2, f7⟩
        | _ => exact q3.elim
      | _ => exact q1.elim
    · exact hI _ _ _ h0 (But.of_below hb1)
    · rintro e W ⟨v, rfl, hdk, hsz, (⟨hi, hl, h3⟩ | ⟨pre, x, rest, hS, e, c, hj, hi, hl, h3⟩)⟩
      · obtain ⟨f1, f2⟩ := hfin True W none hl hdk hsz
        exact ⟨none, _, f1, l, hholds, f2, hdone _ (hI _ _ _ hi (but_putObj hwL hl rfl)) (by simp; omega)⟩
      · obtain ⟨f1, f2⟩ := hfin True W (some c) hl hdk hsz
        refine ⟨some c, _, f1, ?_⟩
        have hq := fun o' => hstop e (W.putObj L o') (hIx _ _ _ hi (but_putObj hwL hl rfl)) (by simp; omega) (by rw [hj]; rfl)
        cases e with
        | ret => simp [jumpOf] at hj; subst hj; exact wpIn_ret ⟨l, hholds, f2, hq _⟩
        | exit id => simp [jumpOf] at hj; subst hj; exact wpIn_exit ⟨l, hholds, f2, hq _⟩
        | _ => simp [jumpOf] at hj

/-- Behind the body of a function with loops over functions: what is told holds when their records are shut, too. -/
def retQM (P : Program) (rs : List ResultVar) (w0 : World) (R : Value → World → Prop) : Post
  | .normal, l, w | .ret, l, w => ∀ w', But [] w0.heap.size w w' → w.heap.size = w'.heap.size → ∃ vs, OutsAt P l w' rs vs ∧ R (tupleOf vs) w'
  | _, _, _ => False

theorem leaves_marks {fn : Func} {tm : Array Value} {R : Ending → World → Prop} {b : Nat} : ∀ {Ds : List Nat} {w : World}, Ds.Nodup → (∀ D ∈ Ds, b ≤ D ∧ w.heap[D]? = some (.deferred (some []))) →
    (∀ w', But [] b w w' → w.heap.size = w'.heap.size → DK none { w with heap := w.heap.extract 0 b } w' → ∃ v, (results fn tm).run P w' = .ok v w' ∧ R (.returned v) w') →
    LeavesInM Fence.wide 0 P fn tm R (Ds.map mark) .returning w := by
  intro Ds
  induction Ds with
  | nil =>
    intro w _ _ h
    refine h w But.refl rfl ?_
    intro k o hk _ _
    have hk' : (w.heap.extract 0 b)[k]? = some o := hk
    rw [Array.getElem?_extract] at hk'
    split at hk'
    · simpa using hk'
    · cases hk'
  | cons D Ds ih =>
    intro w hn hD h
    obtain ⟨hn1, hn2⟩ := List.nodup_cons.1 hn
    obtain ⟨hb, hd⟩ := hD D (by simp)
    have hstep : But [] b w (w.putObj D (.deferred none)) := but_putObj hb hd rfl
    refine ⟨by simp, .inl ⟨D, w.putObj D (.deferred none), rfl, run_takeDeferred hd, ih hn2 (fun D' hm => ?_) ?_⟩⟩
    · obtain ⟨h1, h2⟩ := hD D' (by simp [hm])
      exact ⟨h1, (World.putObj_heap_other (by rintro rfl; exact hn1 hm)).trans h2⟩
    · intro w' hB hs hdk
      refine h w' (hstep.trans hB) (by rw [← hs]; simp) ?_
      intro k o hk ho hx
      have hk' : (w.heap.extract 0 b)[k]? = some o := hk
      rw [Array.getElem?_extract] at hk'
      split at hk'
      · rename_i hlt
        refine hdk k o ?_ ho hx
        show ((w.putObj D (.deferred none)).heap.extract 0 b)[k]? = some o
        rw [Array.getElem?_extract, if_pos (by simpa using hlt)]
        simp only [Nat.zero_add] at hk' ⊢
        exact (World.putObj_heap_other (by omega)).trans hk'
      · cases hk'

theorem ret_ofM {w : World} {f : FuncId} {fn : Func} {c : Code} {n : Nat} {args : List Value} {R : Value → World → Prop} (hf : P.funcs[f]? = some fn) (hb : fn.body = some c) (hN : fn.ntmps = n) (hle : Nat.ble args.length n = true) {rs : List ResultVar} (hr : fn.results = rs.toArray)
    (h : WC P ⟨n, none, w, none, true⟩ c (retQM P rs w R) (argFr 0 args) w) : Ret P f args.toArray w R := by
  refine (callsIn_wide (n := 0)).1 (callsIn_of_wp_marks (F := Fence.wide) hf hb trivial ?_)
  have hle' : args.length ≤ n := by simpa using hle
  refine wpIn_mono (h _ (args_hold (by rw [hN]) hle') good_start) ?_
  have key : ∀ (l' : Fr) (a' : Act) (w' : World), Holds ⟨n, none, w, none, true⟩ l' a' → Good ⟨n, none, w, none, true⟩ a' w' →
      (∀ w2, But [] w.heap.size w' w2 → w'.heap.size = w2.heap.size → ∃ vs, OutsAt P l' w2 rs vs ∧ R (tupleOf vs) w2) →
      LeavesInM Fence.wide 0 P fn a'.tmps (fun e w' => ∃ v, e = .returned v ∧ (DK none w w' ∧ w.heap.size ≤ w'.heap.size) ∧ R v w') a'.defers .returning w' := by
    intro l' a' w' hl' g q
    obtain ⟨Ds, e1, _, e3, e4⟩ := g.marks
    rw [e1]
    refine leaves_marks (b := w.heap.size) e3 (fun D hm => ⟨(e4 D hm).1, (e4 D hm).2.2⟩) fun w2 hB hs hdk => ?_
    obtain ⟨vs, ho, hR⟩ := q w2 hB hs
    refine ⟨_, outs_tmps hl' ho fn hr, _, rfl, ⟨?_, by rw [← hs]; exact g.size⟩, hR⟩
    intro k o hk hc hx
    have h1 := g.dk k o hk hc hx
    refine hdk k o ?_ hc hx
    show (w'.heap.extract 0 w.heap.size)[k]? = some o
    have hlt := (Array.getElem?_eq_some_iff.1 hk).1
    have hgs : w.heap.size ≤ w'.heap.size := g.size
    rw [Array.getElem?_extract, if_pos (by omega)]
    simpa using h1
  rintro e a' w' ⟨l', hl', g, q⟩
  cases e with
  | normal => exact key l' a' w' hl' g q
  | ret => exact key l' a' w' hl' g q
  | _ => exact q.elim

/-- How an iterator's body is left. -/
def seqQ {α : Type} (S : List α) (J Jx : List α → World → Prop) : Post
  | .normal, _, W' | .ret, _, W' => J S W' ∨ ∃ pre x rest, S = pre ++ x :: rest ∧ Jx (pre ++ [x]) W'
  | _, _, _ => False

theorem seq_of {α : Type} {w : World} {gf : FuncId} {fn : Func} {c : Code} {n : Nat} {lb : List Value} {encs : α → List Value} {FT : List Nat} {S : List α} {n0 : Nat} (hf : P.funcs[gf]? = some fn) (hb : fn.body = some c) (hN : fn.ntmps = n) (hle : Nat.ble (lb.length + 1) n = true) (hr : fn.results = #[])
    (h : ∀ (l : Nat) (J Jx : List α → World → Prop) (W : World), Below w.heap.size w W →
      (∀ pre W1 W2, J pre W1 → But FT W1.heap.size W1 W2 → J pre W2) → (∀ pre W1 W2, Jx pre W1 → But FT W1.heap.size W1 W2 → Jx pre W2) →
      (∀ pre x rest W1, S = pre ++ x :: rest → J pre W1 → YieldC P l (encs x) W1 fun b W' => Below n0 W1 W' ∧ if b then J (pre ++ [x]) W' else Jx (pre ++ [x]) W') →
      J [] W → WC P ⟨n, none, W, some l, false⟩ c (seqQ S J Jx) (argFr 0 (.func (.yield l) #[] #[] :: lb)) W) : SeqC P gf lb encs FT S n0 w := by
  intro l J Jx W hW hl hJ hJx hY h0
  refine (callsIn_wide (n := 0)).1 (callsIn_of_wp (F := Fence.wide) hf hb trivial ?_)
  have hle' : (.func (.yield l) #[] #[] :: lb).length ≤ n := by simpa using hle
  refine wpIn_mono (h l J Jx W hW hJ hJx hY h0 _ (args_hold (by rw [hN]) hle') (good_start (fun x hx => by cases hx; exact hl.2))) ?_
  rintro e a' w' ⟨l', hl', g, q⟩
  have hd : a'.defers = [] := by
    obtain ⟨Ds, h1, h2, _⟩ := g.marks
    rw [h1, h2 rfl]; rfl
  have ho : (results fn a'.tmps).run P w' = .ok (tupleOf []) w' := outs_tmps (rs := []) (vs := []) (l := l') hl' (show OutsAt P l' w' [] [] from trivial) fn hr
  cases e with
  | normal => exact ⟨hd, _, ho, _, rfl, g.dk, g.size, q⟩
  | ret => exact ⟨hd, _, ho, _, rfl, g.dk, g.size, q⟩
  | _ => exact q.elim

section
variable {N : Ev} {K : Fr → World → Prop} {Q : Post} {l : Fr} {w : World} {d : Nat} {U : TypeId} {pos : String} {aft : Array Edge} {g : Option (Nat × Bool)}
theorem roundIn_FW {ro : Option Nat} {n L : Nat} {f : FuncId} {tm : Array Value} {a b : Code} {W : World} {R : Ending → World → Prop} (h : RoundIn (FW none) n P L f tm a b W R) : RoundIn (FW ro) n P L f tm a b W R := by
  cases ro <;> exact h
/-- A call of the loop's own function. -/
theorem op_yield {fx : Operand} {L : Nat} {xs : List Operand} {vs : List Value} {ts : Array TypeId} {R : Bool → World → Prop} (hfx : evo l fx = some (.func (.yield L) #[] #[])) (hx : evl l xs = some vs) (hex : N.ex = some L) (hY : YieldC P L vs w R) (hN : Nat.blt d N.n = true)
    (k : ∀ b w', R b w' → K ((d, .bool b) :: l) w') : OpW P N ⟨some d, .call ⟨.value fx, xs.toArray, ts⟩, U, pos, aft, g⟩ K Q l w := by
  intro a ha hgd
  obtain ⟨fn, tm, asg, bd, hy, hR⟩ := hY
  refine ⟨fun _ _ => trivial, ?_⟩
  show Oper.uponIn (FW N.ro) 0 P _ a _ _ ((Oper.semAt N.ro a.eval _).run P w)
  have e := evl_eval ha hx
  have hrun : (execOp a.eval ⟨some d, .call ⟨.value fx, xs.toArray, ts⟩, U, pos, aft, g⟩).run P w = .ok (.round L fn tm asg bd) w := by
    simp [execOp, resolve, Deferred.ofValue, ha.eval hfx, invoke, e, hy]
  rw [semAt_nodef rfl, hrun, Oper.uponIn_round]
  refine ⟨(fun h => by simp [FW] at h), (roundIn_FW hR).mono ?_⟩
  rintro e w' ⟨b, rfl, hdk, hs, hRb⟩
  exact ⟨_, ha.put (by simpa [Nat.blt_eq] using hN) (.bool b), hgd.step rfl (by rw [hex]; exact hdk) hs, k b w' hRb⟩
end
end

/-! steps from world to world -/
theorem below_but {a u v : World} {FT : List Nat} {b : Nat} (T : Below a.heap.size a u) (h : But FT b u v) (hF : ∀ k ∈ FT, a.heap.size ≤ k) (hb : a.heap.size ≤ b) : Below a.heap.size a v := T.trans (h.below hF hb T.size)
theorem below_low {a u v : World} {n0 : Nat} (T : Below a.heap.size a u) (h : Below n0 u v) (hb : a.heap.size ≤ n0) : Below a.heap.size a v := T.trans (h.mono hb)
theorem blk_low {u v : World} {n0 x : Nat} {o : Obj} (h : u.heap[x]? = some o) (k : Below n0 u v) (hx : x < n0) : v.heap[x]? = some o := (k.block x hx).trans h
theorem blk_lt {w : World} {x : Nat} {o : Obj} (h : w.heap[x]? = some o) : x < w.heap.size := (Array.getElem?_eq_some_iff.1 h).1
theorem ge_nil {B : Nat} : ∀ k ∈ ([] : List Nat), B ≤ k := fun k h => by cases h
theorem ge_cons {B x : Nat} {xs : List Nat} (h : B ≤ x) (t : ∀ k ∈ xs, B ≤ k) : ∀ k ∈ x :: xs, B ≤ k := fun k hk => by
  rcases List.mem_cons.1 hk with rfl | hk
  · exact h
  · exact t k hk
theorem lt_nil {B : Nat} : ∀ k ∈ ([] : List Nat), k < B := fun k h => by cases h
theorem lt_cons {B x : Nat} {xs : List Nat} (h : x < B) (t : ∀ k ∈ xs, k < B) : ∀ k ∈ x :: xs, k < B := fun k hk => by
  rcases List.mem_cons.1 hk with rfl | hk
  · exact h
  · exact t k hk
theorem nin_nil {y : Nat} : y ∉ ([] : List Nat) := fun h => by cases h
theorem nin_cons {y x : Nat} {xs : List Nat} (h : y ≠ x) (t : y ∉ xs) : y ∉ x :: xs := fun hk => by
  rcases List.mem_cons.1 hk with rfl | hk
  · exact h rfl
  · exact t hk
theorem nin_ge {y B : Nat} {FT : List Nat} (hF : ∀ k ∈ FT, k < B) (h : B ≤ y) : y ∉ FT := fun hm => by have := hF y hm; omega
theorem but_own' {α : Type} {enc : α → List Value} {FT : List Nat} {b base e sz : Nat} {w w' : World} {v : Value} {xs : List α} (h : Own enc base e sz w v xs) (k : But FT b w w') (hF : ∀ x ∈ FT, some x ≠ v.ownBlock) : Own enc base e sz w' v xs := by
  refine ⟨h.1, ?_⟩
  rcases h.2 with h2 | ⟨g, cap, cur, hv, hb, hg, hr⟩
  · exact .inl h2
  · refine .inr ⟨g, cap, cur, hv, hb, k.same g _ hg (fun hm => hF g hm (by rw [hv]; rfl)) (.inl rfl), hr⟩
theorem rd_but {α : Type} {enc : α → List Value} {sz : Nat} {w w' : World} {A : Option Addr} {n : Nat} {xs : List α} {b : Nat} (h : Rd (Flat enc) sz w A n xs) (k : But [] b w w') : Rd (Flat enc) sz w' A n xs := by
  obtain ⟨x, off, hA, hc⟩ := h.rows
  refine ⟨h.len, h.bd, x, off, hA, fun i y hy => ?_⟩
  obtain ⟨cs, h1, h2, h3⟩ := hc i y hy
  refine ⟨cs, h1, h2, fun j v hj => ?_⟩
  have h4 := h3 j v hj
  unfold World.cell? at h4 ⊢
  cases hb : w.heap[x]? with
  | none => simp [hb] at h4
  | some o =>
    cases o with
    | cells c e f =>
      rw [k.same x _ hb (by simp) (.inl rfl)]
      simpa [hb] using h4
    | _ => simp [hb] at h4
theorem SeqC.ext {α : Type} {P : Program} {gf : Nat} {lb : List Value} {encs : α → List Value} {FT : List Nat} {S : List α} {n0 : Nat} {w W : World} (h : SeqC P gf lb encs FT S n0 w) (hb : Below w.heap.size w W) : SeqC P gf lb encs FT S n0 W :=
  fun l J Jx V hV hl hJ hJx hY h0 => h l J Jx V (below_step hb hV) ⟨Nat.le_trans hb.size hl.1, hl.2⟩ hJ hJx hY h0
theorem rows_own {α : Type} {enc : α → List Value} {base e sz : Nat} {w : World} {v : Value} {xs ys : List α} (h : Own enc base e sz w v xs) (e' : xs = ys) : Own enc base e sz w v ys := e' ▸ h
theorem But.put_ge {FT : List Nat} {b x : Nat} {w u v : World} (h : But FT b w u) (hP : Put u v x) (hx : w.heap.size ≤ x) : But FT b w v :=
  ⟨hP.os.trans h.os, hP.tape.trans h.tape, hP.output.trans h.output, by rw [hP.size]; exact h.size, fun k o hk hf hc => (hP.other k (by have := (Array.getElem?_eq_some_iff.1 hk).1; omega)).trans (h.same k o hk hf hc)⟩
theorem But.grow_ge {FT : List Nat} {b : Nat} {w u v : World} {r : Option Nat} (h : But FT b w u) (hg : u.grownBy v r) (hr : ∀ k, r = some k → w.heap.size ≤ k) : But FT b w v :=
  ⟨hg.os.trans h.os, hg.tape.trans h.tape, hg.output.trans h.output, Nat.le_trans h.size hg.size, fun k o hk hf hc => by
    have h1 := h.same k o hk hf hc
    have h2 := (Array.getElem?_eq_some_iff.1 hk).1
    exact (hg.block k (Array.getElem?_eq_some_iff.1 h1).1 (fun e => by have := hr k e.symm; omega)).trans h1⟩
/-- Nothing turns but one block, from c0 to c1. -/
structure SB (b : Nat) (c0 c1 : Obj) (w W : World) : Prop where
  but : But [b] w.heap.size w W
  or : w.heap[b]? = some c0 → W.heap[b]? = some c0 ∨ W.heap[b]? = some c1
  keep : w.heap[b]? = some c1 → W.heap[b]? = some c1
theorem SB.refl {b : Nat} {c0 c1 : Obj} {w : World} : SB b c0 c1 w w := ⟨But.refl, .inl, id⟩
theorem sr_sb (b : Nat) (c0 c1 : Obj) : SR (SB b c0 c1) :=
  ⟨fun _ => SB.refl, fun x y z h k => ⟨h.but.trans (k.but.mono (fun _ h => h) h.but.size), fun h0 => (h.or h0).elim k.or (fun h1 => .inr (k.keep h1)), fun h1 => k.keep (h.keep h1)⟩,
   fun w k W h => ⟨⟨h.but.os, h.but.tape, h.but.output, h.but.size, h.but.same⟩, h.or, h.keep⟩⟩
theorem SB.of_below {b : Nat} {c0 c1 : Obj} {w W : World} (h : Below w.heap.size w W) : SB b c0 c1 w W := ⟨But.of_below h, fun h0 => .inl (blk_ext h0 h), fun h1 => blk_ext h1 h⟩
theorem SB.of_put {b : Nat} {c0 c1 : Obj} {w W : World} (h : Put w W b) (hb : W.heap[b]? = some c1) : SB b c0 c1 w W := ⟨But.of_put h (by simp), fun _ => .inr hb, fun _ => hb⟩
theorem But.but_ge {FT FT' : List Nat} {b b' : Nat} {w u v : World} (h : But FT b w u) (k : But FT' b' u v) (hF : ∀ x ∈ FT', w.heap.size ≤ x) (hb : b ≤ b') : But FT b w v :=
  ⟨k.os.trans h.os, k.tape.trans h.tape, k.output.trans h.output, Nat.le_trans h.size k.size, fun i o hi hf hc => by
    have h1 := h.same i o hi hf hc
    have h2 := (Array.getElem?_eq_some_iff.1 hi).1
    exact k.same i o h1 (fun hm => by have := hF i hm; omega) (hc.imp id (fun hl => Nat.lt_of_lt_of_le hl hb))⟩
theorem rq_norm {α : Type} {n0 : Nat} {I : List α → World → Prop} {Ix : Exit → World → Prop} {pre : List α} {W W' : World} {l : Fr} (h1 : Below n0 W W') (h2 : I pre W') : roundQ n0 I Ix pre W .normal l W' := ⟨h1, h2⟩
theorem rq_ret {α : Type} {n0 : Nat} {I : List α → World → Prop} {Ix : Exit → World → Prop} {pre : List α} {W W' : World} {l : Fr} (h1 : Below n0 W W') (h2 : Ix .ret W') : roundQ n0 I Ix pre W .ret l W' := ⟨h1, h2⟩
theorem rq_exit {α : Type} {n0 : Nat} {I : List α → World → Prop} {Ix : Exit → World → Prop} {pre : List α} {W W' : World} {l : Fr} {id : Nat} (h1 : Below n0 W W') (h2 : Ix (.exit id) W') : roundQ n0 I Ix pre W (.exit id) l W' := ⟨h1, h2⟩
theorem seq_done {α : Type} {S : List α} {J Jx : List α → World → Prop} {l : Fr} {W : World} (h : J S W) : seqQ S J Jx .normal l W := .inl h
theorem seq_ret {α : Type} {S : List α} {J Jx : List α → World → Prop} {l : Fr} {W : World} {pre : List α} {x : α} {rest : List α} (hS : S = pre ++ x :: rest) (h : Jx (pre ++ [x]) W) : seqQ S J Jx .ret l W := .inr ⟨pre, x, rest, hS, h⟩
theorem seq_retd {α : Type} {S : List α} {J Jx : List α → World → Prop} {l : Fr} {W : World} (h : J S W) : seqQ S J Jx .ret l W := .inl h
end Go.Eng

set_option linter.unusedVariables false
set_option linter.unusedSimpArgs false
namespace Go.Eng
open Go.RowKit Go.Shelf Go.Proofs

/-! rows of the call's own, written in place -/
theorem flat_at {α : Type} {enc : α → List Value} {sz : Nat} (henc : ∀ x, (enc x).length = sz) : ∀ (xs : List α) (q k : Nat), k < sz → (xs.flatMap enc)[q * sz + k]? = (xs[q]?).bind fun x => (enc x)[k]? := by
  intro xs
  induction xs with
  | nil => intro q k _; simp
  | cons y ys ih =>
    intro q k hk
    rw [List.flatMap_cons]
    cases q with
    | zero =>
      rw [Nat.zero_mul, Nat.zero_add, List.getElem?_append_left (by rw [henc]; exact hk)]; rfl
    | succ q =>
      rw [List.getElem?_append_right (by rw [henc, Nat.add_mul]; omega), henc]
      rw [show (q + 1) * sz + k - sz = q * sz + k by rw [Nat.add_mul]; omega, ih q k hk]; rfl
theorem own_row {α : Type} {enc : α → List Value} {base e sz g n c : Nat} {w : World} {xs : List α} (h : Own enc base e sz w (.slice (some ⟨g, 0, none⟩) n c) xs) : base ≤ g ∧ n = xs.length ∧ n ≤ c ∧ ∃ cur, w.heap[g]? = some (.cells cur e (0, 0)) ∧ cur.size = c * sz ∧ cur.toList.take (n * sz) = xs.flatMap enc := by
  rcases h.2 with ⟨h1, h2⟩ | ⟨g', cap, cur, hv, hb, hg, hnc, hcm, hcs, ht⟩
  · cases h1
  · simp only [Value.slice.injEq, Option.some.injEq, Addr.mk.injEq, and_true, true_and] at hv
    obtain ⟨rfl, rfl, rfl⟩ := hv
    exact ⟨hb, rfl, hnc, cur, hg, hcs, ht⟩
theorem own_cells {α : Type} {enc : α → List Value} {base e sz g n c : Nat} {w : World} {xs : List α} (h : Own enc base e sz w (.slice (some ⟨g, 0, none⟩) n c) xs) (henc : ∀ x, (enc x).length = sz) {j : Nat} {x : α} (hx : xs[j]? = some x) : Cells w g (0 + j * sz) (enc x) := by
  obtain ⟨_, rfl, hnc, cur, hg, hcs, ht⟩ := own_row h
  intro k u hk
  have hkl : k < sz := by rw [← henc x]; exact (List.getElem?_eq_some_iff.1 hk).1
  have hfl := flat_at henc xs j k hkl
  rw [hx, Option.bind_some, hk, ← ht, List.getElem?_take] at hfl
  split at hfl
  · rw [Nat.zero_add]
    refine cell_blk hg ?_
    simpa using hfl
  · cases hfl

section
variable {P : Program} {N : Ev} {K : Fr → World → Prop} {Q : Post} {l : Fr} {w : World}
variable {T U : TypeId} {pos : String} {aft : Array Edge} {g : Option (Nat × Bool)}
/-- A store into a row of the call's own. -/
theorem op_storeRow {α : Type} {enc : α → List Value} {x y : Operand} {base e sz b n c j : Nat} {xs : List α} {v : Value} (u : α) (hx : evo l x = some (.pointer (some ⟨b, 0 + j * sz, none⟩))) (hy : evo l y = some v) (hS : Sz P T sz) (hown : Own enc base e sz w (.slice (some ⟨b, 0, none⟩) n c) xs)
    (henc : ∀ x, (enc x).length = sz) (hv : v.cells = (enc u).toArray) (h1 : ((enc u).all (·.oneCell')) = true) (hj : j < xs.length)
    (k : ∀ w', Put w w' b → Own enc base e sz w' (.slice (some ⟨b, 0, none⟩) n c) (xs.set j u) → K l w') :
    OpW P N ⟨none, .store T x y, U, pos, aft, g⟩ K Q l w := by
  obtain ⟨hb, hn, hnc, cur, hg, hcs, ht⟩ := own_row hown
  have hvs : v.cells.size = sz := by rw [hv]; simp [henc]
  have hle : 0 + j * sz + v.cells.size ≤ cur.size := by
    rw [hvs, hcs, Nat.zero_add]
    have : (j + 1) * sz ≤ c * sz := Nat.mul_le_mul_right _ (by omega)
    rw [Nat.add_mul, Nat.one_mul] at this; exact this
  refine op_store hx hy (by rw [hvs]; exact hS) hg (by rw [hv]; simpa using h1) (by simpa using hle) fun w' hP hb' => k w' hP ?_
  have hcm : c ≤ maxLen := by
    rcases hown.2 with ⟨h1, _⟩ | ⟨g', cap, cur', hv', _, _, _, hcm, _⟩
    · cases h1
    · simp only [Value.slice.injEq, Option.some.injEq, Addr.mk.injEq, and_true, true_and] at hv'
      obtain ⟨rfl, rfl, rfl⟩ := hv'; exact hcm
  refine ⟨by rw [flat_len henc], .inr ⟨b, c, _, by rw [List.length_set, ← hn], hb, hb', by rw [List.length_set]; omega, hcm, by rw [splice_size]; exact hcs, ?_⟩⟩
  apply List.ext_getElem?
  intro i
  rw [List.length_set, ← hn, List.getElem?_take]
  have hszpos : 0 < sz ∨ sz = 0 := by omega
  rcases hszpos with hsp | hz
  · have hi : i = i / sz * sz + i % sz := by rw [Nat.mul_comm]; exact (Nat.div_add_mod i sz).symm
    have hm := Nat.mod_lt i hsp
    generalize i / sz = q at hi
    generalize i % sz = r at hi hm
    subst hi
    rw [flat_at henc _ q r hm]
    have hold := flat_at henc xs q r hm
    rw [← ht, List.getElem?_take] at hold
    have hq : q * sz + r < n * sz ↔ q < n := by
      constructor
      · intro h
        rcases Nat.lt_or_ge q n with h1 | h1
        · exact h1
        · have := Nat.mul_le_mul_right sz h1; omega
      · intro h
        have : (q + 1) * sz ≤ n * sz := Nat.mul_le_mul_right _ h
        rw [Nat.add_mul, Nat.one_mul] at this; omega
    by_cases hqn : q < n
    · rw [if_pos (hq.2 hqn)] at hold ⊢
      rw [Array.getElem?_toList, splice_get _ _ _ _ (by simpa using hle)]
      have hvl : v.cells.toList.length = sz := by simpa using hvs
      rw [hvl, Nat.zero_add]
      by_cases hjq : j = q
      · subst hjq
        rw [if_pos (by omega), List.getElem?_set_self (by omega), Option.bind_some, hv, show j * sz + r - j * sz = r by omega]
      · have hno : ¬ (j * sz ≤ q * sz + r ∧ q * sz + r < j * sz + sz) := by
          rintro ⟨h1, h2⟩
          rcases Nat.lt_or_ge q j with h3 | h3
          · have : (q + 1) * sz ≤ j * sz := Nat.mul_le_mul_right _ h3
            rw [Nat.add_mul, Nat.one_mul] at this; omega
          · have : (j + 1) * sz ≤ q * sz := Nat.mul_le_mul_right _ (by omega)
            rw [Nat.add_mul, Nat.one_mul] at this; omega
        rw [if_neg hno, List.getElem?_set_ne hjq, ← Array.getElem?_toList]; exact hold
    · rw [if_neg (fun h => hqn (hq.1 h))]
      rw [List.getElem?_eq_none (by simp; omega)]; rfl
  · subst hz
    have : ∀ z : List α, z.flatMap enc = [] := by
      intro z
      induction z with
      | nil => rfl
      | cons a z ih => rw [List.flatMap_cons, ih, List.append_nil]; exact List.eq_nil_of_length_eq_zero (henc a)
    rw [this]; simp
end
end Go.Eng
