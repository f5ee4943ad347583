/- Lemmas for a law of the seat: what functions of the program do, each stated as a contract of its own (Eng). -/
import Derived.Below
import Derived.Orders
import Derived.Tactics2
import Derived.LoopTactic
import Derived.RowKit3
import Derived.KernelRfl
import Derived.OrdersIn
import Derived.TacticsIn
import Derived.RangeFuncRecord
import Derived.RangeFuncSeq
import Derived.RangeFuncCalls
import Derived.Laws.Sem
import Derived.WalkKit
import Derived.WideLaws
import Derived.LaidEql
import Derived.Maps.AppendAt
import Derived.Shelf.Abstract
import Derived.RangeFuncLeaves
import Derived.Laws.StructEq
import Derived.ChangeKeysEq
import Derived.SizedLaws
import Derived.Deep.Slices
import Derived.Deep.Fields
import Derived.Carry
import Derived.OpenShut
set_option linter.unusedVariables false
set_option linter.unusedSimpArgs false
namespace Go.Eng
open Go.RowKit

/-! frames as lists of (slot, value); the newest entry of a slot stands first -/
abbrev Fr := List (Nat × Value)

def Fr.look : Fr → Nat → Option Value
  | [], _ => none
  | (d, v) :: l, t => bif Nat.beq d t then some v else Fr.look l t

def evo (l : Fr) : Operand → Option Value
  | .tmp t => l.look t
  | .const v => some v
  | .global g => some (.pointer (some ⟨g, 0, none⟩))
  | .func f => some (.func (.func f) #[] #[])

/-! what is no plain memory: the records of loops over functions, the blocks for their deferred calls -/
def ctl : Obj → Bool
  | .loop _ => true
  | .deferred _ => true
  | _ => false
/-- The records of loops, but for one, lie as they lay. -/
def DK (ex : Option Nat) (w w' : World) : Prop := ∀ (k : Nat) (o : Obj), w.heap[k]? = some o → ctl o = true → ex ≠ some k → w'.heap[k]? = some o
theorem DK.refl {ex : Option Nat} {w : World} : DK ex w w := fun _ _ h _ _ => h
theorem DK.trans {ex : Option Nat} {a b c : World} (h : DK ex a b) (k : DK ex b c) : DK ex a c := fun i o hi ho he => k i o (h i o hi ho he) ho he
theorem DK.of_below {ex : Option Nat} {w w' : World} (h : Below w.heap.size w w') : DK ex w w' := fun k o hk _ _ => (h.block k (Array.getElem?_eq_some_iff.1 hk).1).trans hk
theorem DK.some {ex : Option Nat} {w w' : World} (h : DK none w w') : DK ex w w' := fun i o hi ho _ => h i o hi ho (by simp)

/-- What a walk is under: how many slots; the round's loop; the world where the call began; the loop whose record may turn; whether loops over functions may leave marks. -/
structure Ev where
  n : Nat
  ro : Option Nat
  w0 : World
  ex : Option Nat
  mr : Bool

def mark (D : Nat) : Deferred := { target := .collected D, args := #[] }

structure Good (N : Ev) (a : Act) (w : World) : Prop where
  dk : DK N.ex N.w0 w
  size : N.w0.heap.size ≤ w.heap.size
  exlt : ∀ x, N.ex = some x → x < N.w0.heap.size
  marks : ∃ Ds : List Nat, a.defers = Ds.map mark ∧ (N.mr = false → Ds = []) ∧ Ds.Nodup ∧ ∀ D ∈ Ds, N.w0.heap.size ≤ D ∧ N.ex ≠ some D ∧ w.heap[D]? = some (.deferred (some []))
  rnd : ∀ l, N.ro = some l → N.ex ≠ some l ∧ ∃ r, w.heap[l]? = some (.loop r)

theorem Good.step {N : Ev} {a a' : Act} {w w' : World} (h : Good N a w) (hd : a'.defers = a.defers) (hk : DK N.ex w w') (hs : w.heap.size ≤ w'.heap.size) : Good N a' w' := by
  obtain ⟨Ds, h1, h0, h2, h3⟩ := h.marks
  exact ⟨h.dk.trans hk, Nat.le_trans h.size hs, h.exlt, ⟨Ds, hd.trans h1, h0, h2, fun D hD => ⟨(h3 D hD).1, (h3 D hD).2.1, hk D _ (h3 D hD).2.2 rfl (h3 D hD).2.1⟩⟩,
    fun l hl => let ⟨hx, r, hr⟩ := h.rnd l hl; ⟨hx, r, hk l _ hr rfl hx⟩⟩

/-- The frame's entries are what the slots hold. -/
structure Holds (N : Ev) (l : Fr) (a : Act) : Prop where
  size : a.tmps.size = N.n
  slot : ∀ t v, l.look t = some v → a.tmps[t]? = some v

theorem Holds.eval {N : Ev} {l : Fr} {a : Act} (h : Holds N l a) {x : Operand} {v : Value} (hx : evo l x = some v) : a.eval x = v := by
  cases x with
  | tmp t =>
    have := h.slot t v hx
    simp [Act.eval, this]
  | const c => simpa [evo, Act.eval] using hx
  | global g => simpa [evo, Act.eval] using hx
  | func f => simpa [evo, Act.eval] using hx

theorem Fr.look_cons (d : Nat) (v : Value) (l : Fr) (t : Nat) : Fr.look ((d, v) :: l) t = if d = t then some v else Fr.look l t := by
  simp only [Fr.look]
  by_cases h : d = t
  · subst h; simp
  · have : Nat.beq d t = false := by
      rw [Bool.eq_false_iff]; intro hc; exact h (Nat.eq_of_beq_eq_true hc)
    simp [this, h]

theorem Holds.put {N : Ev} {l : Fr} {a : Act} (h : Holds N l a) {d : Nat} (hd : d < N.n) (v : Value) : Holds N ((d, v) :: l) (a.put (some d) v) := by
  refine ⟨by simp [Act.put, h.size], ?_⟩
  intro t u ht
  rw [Fr.look_cons] at ht
  split at ht
  · rename_i e; subst e
    cases ht
    simp [Act.put, h.size, hd]
  · rename_i e
    simp only [Act.put]
    rw [Array.getElem?_setIfInBounds_ne e]
    exact h.slot t u ht

/-- Every entry of 'l'' is in 'l'. -/
def Sub : Fr → Fr → Prop
  | [], _ => True
  | (d, v) :: r, l => l.look d = some v ∧ Sub r l

theorem Sub.look {l' l : Fr} (h : Sub l' l) {t : Nat} {v : Value} (ht : l'.look t = some v) : l.look t = some v := by
  induction l' with
  | nil => simp [Fr.look] at ht
  | cons p r ih =>
    obtain ⟨d, u⟩ := p
    rw [Fr.look_cons] at ht
    split at ht
    · rename_i e; subst e; cases ht; exact h.1
    · exact ih h.2 ht

theorem Holds.sub {N : Ev} {l l' : Fr} {a : Act} (h : Holds N l a) (hs : Sub l' l) : Holds N l' a :=
  ⟨h.size, fun t v ht => h.slot t v (hs.look ht)⟩

/-! posts over frames -/
abbrev Post := Exit → Fr → World → Prop

/-- Every function may be called, as deep as need be; in a round or not. -/
def FW (ro : Option Nat) : Fence := { fn := fun _ => True, depth := none, alive := false, round := ro }

def up (N : Ev) (Q : Post) : Exit → Act → World → Prop := fun e a w => ∃ l, Holds N l a ∧ Good N a w ∧ Q e l w

def thenK (K : Fr → World → Prop) (Q : Post) : Post
  | .normal, l, w => K l w
  | e, l, w => Q e l w

def WC (P : Program) (N : Ev) (c : Code) (Q : Post) (l : Fr) (w : World) : Prop := ∀ a, Holds N l a → Good N a w → c.wpIn (FW N.ro) 0 P (up N Q) a w
def WL (P : Program) (N : Ev) (ops : Array Oper) (Q : Post) (rest : List Oper) (l : Fr) (w : World) : Prop := ∀ a, Holds N l a → Good N a w → wpListIn (FW N.ro) 0 P ops (up N Q) rest a w

/-- One operation, without its guard. -/
def OpW (P : Program) (N : Ev) (o : Oper) (K : Fr → World → Prop) (Q : Post) (l : Fr) (w : World) : Prop :=
  ∀ a, Holds N l a → Good N a w → o.wpIn (FW N.ro) 0 P a w (up N (thenK K Q) .normal) (up N Q)

section
variable {P : Program} {N : Ev} {Q : Post} {l : Fr} {w : World}

theorem WC.sub {c : Code} (l' : Fr) (hs : Sub l' l) (h : WC P N c Q l' w) : WC P N c Q l w := fun a ha hg => h a (ha.sub hs) hg

theorem WC.mono {c : Code} {Q' : Post} (hq : ∀ e l w, Q e l w → Q' e l w) (h : WC P N c Q l w) : WC P N c Q' l w :=
  fun a ha hg => wpIn_mono (h a ha hg) fun _ _ _ ⟨l, hl, g, q⟩ => ⟨l, hl, g, hq _ _ _ q⟩

theorem wc_seq {c d : Code} (h : WC P N c (thenK (WC P N d Q) Q) l w) : WC P N (.seq c d) Q l w := by
  intro a ha hg
  refine wpIn_seq (wpIn_mono (h a ha hg) ?_)
  rintro e a' w' ⟨l', hl', g', q⟩
  cases e with
  | normal => exact q a' hl' g'
  | _ => exact ⟨l', hl', g', q⟩

theorem wc_skip (h : Q .normal l w) : WC P N .skip Q l w := fun a ha hg => wpIn_skip ⟨l, ha, hg, h⟩
theorem wc_exit {id : Nat} (h : Q (.exit id) l w) : WC P N (.exit id) Q l w := fun a ha hg => wpIn_exit ⟨l, ha, hg, h⟩
theorem wc_ret (h : Q .ret l w) : WC P N .ret Q l w := fun a ha hg => wpIn_ret ⟨l, ha, hg, h⟩

theorem wc_cond {c : Operand} {x y : Code} {b : Bool} (hc : evo l c = some (.bool b)) (ht : b = true → WC P N x Q l w) (hf : b = false → WC P N y Q l w) :
    WC P N (.cond c x y) Q l w :=
  fun a ha hg => wpIn_cond_split (ha.eval hc) (fun h => ht h a ha hg) (fun h => hf h a ha hg)

def blockQ (id : Nat) (Q : Post) : Post
  | .exit id', l, w => bif Nat.beq id' id then Q .normal l w else Q (.exit id') l w
  | e, l, w => Q e l w

theorem wc_block {id : Nat} {c : Code} (h : WC P N c (blockQ id Q) l w) : WC P N (.block id c) Q l w := by
  intro a ha hg
  refine wpIn_block (wpIn_mono (h a ha hg) ?_)
  rintro e a' w' ⟨l', hl', g', q⟩
  cases e with
  | exit id' =>
    simp only [Exit.inBlock]
    simp only [blockQ] at q
    by_cases e : id' = id
    · subst e
      rw [if_pos rfl]
      rw [show Nat.beq id' id' = true by simp] at q
      exact ⟨l', hl', g', q⟩
    · rw [if_neg e]
      have : Nat.beq id' id = false := by
        rw [Bool.eq_false_iff]; intro hc; exact e (Nat.eq_of_beq_eq_true hc)
      rw [this] at q
      exact ⟨l', hl', g', q⟩
  | _ => exact ⟨l', hl', g', q⟩

theorem wpIn_loopG {F : Fence} {n : Nat} {P : Program} {c : Code} {Q : Exit → Act → World → Prop} {a : Act} {w : World} {σ : Type} (I : σ → Act → World → Prop) (μ : σ → Nat) (s₀ : σ) (h₀ : I s₀ a w)
    (round : ∀ s a w, I s a w → c.wpIn F n P (Exit.then (fun a' w' => ∃ s', I s' a' w' ∧ μ s' < μ s) Q) a w) : (Code.loop c).wpIn F n P Q a w := by
  intro b k cs hro hb hr
  have key : ∀ j s a w, μ s = j → I s a w →
      ∃ e a' w', Q e a' w' ∧ ArrivesIn (Machine.fenced P F) P (lone (b.atR a (.code c :: .inLoop c :: k)) cs w) b k cs e a' w' := by
    intro j
    induction j using Nat.strongRecOn with
    | _ j ih =>
      intro s a w hn hI
      obtain ⟨e, a₁, w₁, hq, harr⟩ := round s a w hI b (.inLoop c :: k) cs hro hb hr
      cases e with
      | normal =>
        obtain ⟨s₁, hI₁, hlt⟩ := hq
        obtain ⟨e₂, a₂, w₂, hq₂, harr₂⟩ := ih (μ s₁) (hn ▸ hlt) s₁ a₁ w₁ rfl hI₁
        exact ⟨e₂, a₂, w₂, hq₂, .of_steps (StepsIn.trans harr (.one (fenced_calm hb hr rfl) stepR_inLoop)) harr₂⟩
      | exit id => exact ⟨_, a₁, w₁, hq, .pass (x := .inLoop c) rfl (fun _ _ => .inl (by simp)) harr⟩
      | goto l => exact ⟨_, a₁, w₁, hq, .pass (x := .inLoop c) rfl (fun _ _ => .inl (by simp)) harr⟩
      | ret => exact ⟨_, a₁, w₁, hq, .pass (x := .inLoop c) rfl (fun _ _ => .inl (by simp)) harr⟩
      | panic ch => exact ⟨_, a₁, w₁, hq, .pass (x := .inLoop c) rfl (fun _ _ => .inl (by simp)) harr⟩
      | outgrown => exact ⟨_, a₁, w₁, hq, .pass (x := .inLoop c) rfl (fun _ _ => .inl (by simp)) harr⟩
  obtain ⟨e, a', w', hq, harr⟩ := key _ s₀ a w rfl h₀
  exact ⟨e, a', w', hq, .of_steps (.one (fenced_calm hb hr rfl) stepR_loop) harr⟩

/-! regions whose order is the text's -/
theorem wc_region {id : Nat} {ops : List Oper} (h : WL P N ops.toArray Q ops l w) : WC P N (.region id ops.toArray false) Q l w :=
  fun a ha hg => wpIn_region_lit (h a ha hg)

/-- An operation that nothing guards. -/
theorem wl_op {ops : Array Oper} {o : Oper} {rest : List Oper} (hg : o.guard = none) (h : OpW P N o (fun l w => WL P N ops Q rest l w) Q l w) : WL P N ops Q (o :: rest) l w := by
  intro a ha hgd
  unfold wpListIn
  rw [if_pos (by simp [Region.wanted, hg])]
  refine Oper.wpIn_mono ?_ (h a ha hgd)
  rintro a w ⟨l', hl', g', h⟩
  exact h a hl' g'

end
end Go.Eng


set_option linter.unusedVariables false
set_option linter.unusedSimpArgs false
namespace Go.Eng
open Go.RowKit Go.Shelf

/-! facts on types, each closed over a program -/
def Und (P : Program) (T : Nat) (d : TypeDesc) : Prop := P.underlying T = some d
def Sz (P : Program) (T n : Nat) : Prop := ∀ w, (sizeOf T).run P w = .ok n w
def AggT (P : Program) (T : Nat) (b : Bool) : Prop := ∀ w, (isAgg T).run P w = .ok b w
def Zero (P : Program) (T : Nat) (v : Value) : Prop := ∀ w, (zeroValue T).run P w = .ok v w

/-! memory -/
def Cells (w : World) (b off : Nat) (vs : List Value) : Prop := ∀ i v, vs[i]? = some v → w.cell? ⟨b, off + i, none⟩ = some v

theorem Cells.below {w w' : World} {b off B : Nat} {vs : List Value} (h : Cells w b off vs) (hb : Below B w w') (hlt : b < B) : Cells w' b off vs :=
  fun i v hi => (hb.cell (p := ⟨b, off + i, none⟩) hlt).trans (h i v hi)

theorem Cells.ext {w w' : World} {b off : Nat} {vs : List Value} (h : Cells w b off vs) (hb : Below w.heap.size w w') : Cells w' b off vs := by
  intro i v hi
  have := h i v hi
  exact (hb.cell (p := ⟨b, off + i, none⟩) (World.block_lt_of_cell? w _ this)).trans this

theorem add_lit (b off i : Nat) : (⟨b, off, none⟩ : Addr).add i = ⟨b, off + i, none⟩ := by unfold Addr.add; split <;> simp_all

theorem cell_blk {w : World} {b o : Nat} {cs : Array Value} {T : TypeId} {fr : Nat × Nat} {v : Value} (h : w.heap[b]? = some (.cells cs T fr)) (hv : cs[o]? = some v) : w.cell? ⟨b, o, none⟩ = some v := by
  simp [World.cell?, h, hv]

theorem cells_sub {w : World} {b o : Nat} {vs : List Value} (h : Cells w b o vs) (i : Nat) (us : List Value) (hu : us = (vs.drop i).take us.length) : Cells w b (o + i) us := by
  intro j v hj
  rw [hu] at hj
  have hj' : vs[i + j]? = some v := by
    rw [List.getElem?_take] at hj
    split at hj
    · rwa [List.getElem?_drop] at hj
    · cases hj
  have := h (i + j) v hj'
  rw [Nat.add_assoc]; exact this

theorem run_loadCellsFrom {P : Program} {w : World} {b o : Nat} (vs : List Value) : ∀ (i : Nat) (acc : Array Value), Cells w b (o + i) vs →
    (loadCellsFrom ⟨b, o, none⟩ i vs.length acc).run P w = .ok (acc ++ vs.toArray) w := by
  induction vs with
  | nil => intro i acc _; simp [loadCellsFrom, pure, Sem.run]
  | cons v vs ih =>
    intro i acc h
    have h0 : w.cell? ⟨b, o + i, none⟩ = some v := by simpa using h 0 v (by simp)
    have hr : (load (⟨b, o + i, none⟩ : Addr)).run P w = .ok v w := by simp [load, Sem.run, h0]
    simp only [List.length_cons, loadCellsFrom, Sem.run_bind, add_lit, hr, Result.andThen_ok]
    rw [ih (i + 1) (acc.push v) (fun j u hj => by have := h (j + 1) u (by simpa using hj); rw [← this]; congr 2; omega)]
    simp

theorem run_loadVar_agg {P : Program} {w : World} {b o T n : Nat} {vs : List Value} (hA : AggT P T true) (hS : Sz P T n) (hl : vs.length = n) (hc : Cells w b o vs) :
    (loadVar T ⟨b, o, none⟩).run P w = .ok (.agg vs.toArray) w := by
  subst hl
  have := run_loadCellsFrom (P := P) vs 0 #[] (by simpa using hc)
  simp only [loadVar, Sem.run_bind, hA w, hS w, Result.andThen_ok, loadCells, if_true, this, Array.empty_append]
  rfl

theorem run_loadVar_one {P : Program} {w : World} {b o T : Nat} {v : Value} (hA : AggT P T false) (hc : w.cell? ⟨b, o, none⟩ = some v) :
    (loadVar T ⟨b, o, none⟩).run P w = .ok v w := by
  simp [loadVar, Sem.run_bind, hA w, Result.andThen_ok, load, Sem.run, hc]

/-! a store into a block that is known whole -/
structure Put (w w' : World) (b : Nat) : Prop where
  os : w'.os = w.os
  tape : w'.tape = w.tape
  output : w'.output = w.output
  size : w'.heap.size = w.heap.size
  other : ∀ k, k ≠ b → w'.heap[k]? = w.heap[k]?

theorem Put.below {w0 w w' : World} {b B : Nat} (h : Put w w' b) (hB : Below B w0 w) (hb : B ≤ b) : Below B w0 w' :=
  ⟨h.os.trans hB.os, h.tape.trans hB.tape, h.output.trans hB.output, by rw [h.size]; exact hB.size, fun k hk => (h.other k (by omega)).trans (hB.block k hk)⟩

theorem Put.blk {w w' : World} {b k : Nat} {o : Obj} (h : Put w w' b) (hk : w.heap[k]? = some o) (hne : k ≠ b) : w'.heap[k]? = some o := (h.other k hne).trans hk

/-- what stands in the cells behind 'vs' was written from 'off' on -/
def splice (cs : Array Value) (off : Nat) : List Value → Array Value
  | [] => cs
  | v :: vs => splice (cs.setIfInBounds off v) (off + 1) vs

theorem run_storeCells {P : Program} {b o T : Nat} (vs : List Value) (h1 : ∀ v ∈ vs, v.oneCell' = true) : ∀ (i : Nat) (cs : Array Value) (w : World), w.heap[b]? = some (.cells cs T (0, 0)) → o + i + vs.length ≤ cs.size →
    ∃ w', (storeCells ⟨b, o, none⟩ vs i).run P w = .ok () w' ∧ Put w w' b ∧ w'.heap[b]? = some (.cells (splice cs (o + i) vs) T (0, 0)) := by
  induction vs with
  | nil => intro i cs w hb _; exact ⟨w, by simp [storeCells, pure, Sem.run], ⟨rfl, rfl, rfl, rfl, fun _ _ => rfl⟩, hb⟩
  | cons v vs ih =>
    intro i cs w hb hl
    have hv : v.oneCell' = true := h1 v (by simp)
    simp only [List.length_cons] at hl
    have hc : w.cell? ⟨b, o + i, none⟩ = some (cs[o + i]'(by omega)) := cell_blk hb (by simp [Array.getElem?_eq_getElem (show o + i < cs.size by omega)])
    have hf : w.frozen? ⟨b, o + i, none⟩ = false := by simp [World.frozen?, hb]
    have hw : (w.setCell ⟨b, o + i, none⟩ v).heap[b]? = some (.cells (cs.setIfInBounds (o + i) v) T (0, 0)) := by
      have hlt : b < w.heap.size := (Array.getElem?_eq_some_iff.1 hb).1
      simp only [World.setCell, Array.getElem?_modify, if_true, hb, Option.map_some]
      rfl
    have hr : (store (⟨b, o + i, none⟩ : Addr) v).run P w = .ok () (w.setCell ⟨b, o + i, none⟩ v) := by
      cases v <;> simp_all [store, Sem.run, Value.oneCell']
    obtain ⟨w', hr', hp, hb'⟩ := ih (fun u hu => h1 u (by simp [hu])) (i + 1) (cs.setIfInBounds (o + i) v) (w.setCell ⟨b, o + i, none⟩ v) hw (by simp; omega)
    refine ⟨w', ?_, ⟨hp.os, hp.tape, hp.output, by rw [hp.size]; simp [World.setCell], fun k hk => (hp.other k hk).trans (Below.heap_setCell _ _ _ _ hk)⟩, ?_⟩
    · simp only [storeCells, Sem.run_bind, add_lit, hr, Result.andThen_ok, hr']
    · rw [hb']; simp [splice, Nat.add_assoc]

theorem run_storeVar {P : Program} {w : World} {b o T T' : Nat} {cs : Array Value} {v : Value} (hS : Sz P T v.cells.size) (hb : w.heap[b]? = some (.cells cs T' (0, 0))) (h1 : ∀ u ∈ v.cells.toList, u.oneCell' = true) (hl : o + v.cells.size ≤ cs.size) :
    ∃ w', (storeVar T ⟨b, o, none⟩ v).run P w = .ok () w' ∧ Put w w' b ∧ w'.heap[b]? = some (.cells (splice cs o v.cells.toList) T' (0, 0)) := by
  obtain ⟨w', hr, hp, hb'⟩ := run_storeCells (P := P) (o := o) v.cells.toList h1 0 cs w hb (by simpa using hl)
  refine ⟨w', ?_, hp, by simpa using hb'⟩
  simp [storeVar, Sem.run_bind, hS w, Result.andThen_ok, hr]

/-! new blocks -/
structure New (w w' : World) (b : Nat) (o : Obj) : Prop where
  ext : Below w.heap.size w w'
  eq : b = w.heap.size
  size : w'.heap.size = w.heap.size + 1
  blk : w'.heap[b]? = some o

theorem new_push (w : World) (o : Obj) : New w { w with heap := w.heap.push o } w.heap.size o :=
  ⟨(Below.refl _ w).alloc (Nat.le_refl _) o, rfl, by simp, by simp⟩

theorem run_newRow {P : Program} (w : World) (T : TypeId) (cs : Array Value) : (newRow T cs).run P w = .ok ⟨w.heap.size, 0, none⟩ { w with heap := w.heap.push (.cells cs T) } := by
  simp [newRow, newObj, Sem.run_bind, Sem.run, Result.andThen, pure]

/-! contracts -/
/-- The call returns, no loop's record is turned, and 'R' holds of what it returns and of the world behind it. -/
def Ret (P : Program) (f : FuncId) (args : Array Value) (w : World) (R : Value → World → Prop) : Prop := Calls P f args w fun e w' => ∃ v, e = .returned v ∧ (DK none w w' ∧ w.heap.size ≤ w'.heap.size) ∧ R v w'

theorem Ret.mono {P : Program} {f : FuncId} {args : Array Value} {w : World} {R R' : Value → World → Prop} (h : Ret P f args w R) (hr : ∀ v w', R v w' → R' v w') : Ret P f args w R' :=
  Calls.mono h fun e w' ⟨v, he, hd, hv⟩ => ⟨v, he, hd, hr v w' hv⟩

/-- Behind the body: what the results' variables hold. -/
def OutsAt (P : Program) (l : Fr) (w : World) : List ResultVar → List Value → Prop
  | [], [] => True
  | .tmp t :: r, v :: vs => l.look t = some v ∧ OutsAt P l w r vs
  | .cell a T :: r, v :: vs => (∃ p, l.look a = some (.pointer (some p)) ∧ (loadVar T p).run P w = .ok v w) ∧ OutsAt P l w r vs
  | _, _ => False

def tupleOf : List Value → Value
  | [v] => v
  | vs => .tuple vs.toArray

def retQ (P : Program) (rs : List ResultVar) (R : Value → World → Prop) : Post
  | .normal, l, w | .ret, l, w => ∃ vs, OutsAt P l w rs vs ∧ R (tupleOf vs) w
  | _, _, _ => False

section
variable {P : Program} {N : Ev} {K : Fr → World → Prop} {Q : Post} {l : Fr} {w : World}

def argFr : Nat → List Value → Fr
  | _, [] => []
  | i, v :: vs => (i, v) :: argFr (i + 1) vs

theorem argFr_look (vs : List Value) : ∀ i t v, (argFr i vs).look t = some v → i ≤ t ∧ vs[t - i]? = some v := by
  induction vs with
  | nil => intro i t v h; simp [argFr, Fr.look] at h
  | cons u vs ih =>
    intro i t v h
    rw [argFr, Fr.look_cons] at h
    split at h
    · rename_i e; subst e; cases h; simp
    · obtain ⟨h1, h2⟩ := ih (i + 1) t v h
      have : t - i = (t - (i + 1)) + 1 := by omega
      exact ⟨by omega, by rw [this]; simpa using h2⟩

def resOf (a : Act) : ResultVar → Sem Value
  | .tmp t => pure (a.tmps.getD t undef)
  | .cell x t => do loadVar t (← asAddr (a.tmps.getD x undef))

theorem outs_run {rs : List ResultVar} {a : Act} (ha : Holds N l a) (f : ResultVar → Sem Value) (hf : ∀ r, f r = resOf a r) : ∀ {vs : List Value}, OutsAt P l w rs vs → (rs.mapM f).run P w = .ok vs w := by
  induction rs with
  | nil => intro vs h; cases vs with
    | nil => simp [pure, Sem.run]
    | cons v vs => exact h.elim
  | cons r rs ih =>
    intro vs h
    cases vs with
    | nil => cases r <;> exact h.elim
    | cons v vs =>
      cases r with
      | tmp t =>
        obtain ⟨h1, h2⟩ := h
        have e : a.tmps.getD t undef = v := by simp [ha.slot t v h1]
        rw [List.mapM_cons]
        simp only [Sem.run_bind, Sem.run_pure, Result.andThen_ok, hf, resOf, e, ih h2]
      | cell x T =>
        obtain ⟨⟨p, h1, hp⟩, h2⟩ := h
        have e : a.tmps.getD x undef = .pointer (some p) := by simp [ha.slot x _ h1]
        have ea : (asAddr (a.tmps.getD x undef)).run P w = .ok p w := by rw [e]; rfl
        rw [List.mapM_cons]
        simp only [Sem.run_bind, Sem.run_pure, Result.andThen_ok, hf, resOf, ea, hp, ih h2]

theorem outs_tmps {rs : List ResultVar} {vs : List Value} {a : Act} (ha : Holds N l a) (h : OutsAt P l w rs vs) (fn : Func) (hr : fn.results = rs.toArray) :
    (results fn a.tmps).run P w = .ok (tupleOf vs) w := by
  simp only [results, hr, Sem.run_bind, List.mapM_toArray]
  rw [map_eq_pure_bind, Sem.run_bind, outs_run (P := P) (w := w) ha _ (fun r => by cases r <;> rfl) h]
  simp only [Result.andThen_ok, Sem.run_pure]
  match vs with
  | [] => rfl
  | [v] => rfl
  | v :: u :: r => simp [tupleOf]

theorem args_hold {n : Nat} {ro : Option Nat} {w0 : World} {ex : Option Nat} {mk : Bool} {args : List Value} {k : Nat} (hk : k = n - args.toArray.size) (hle : args.length ≤ n) {ds : List Deferred} :
    Holds ⟨n, ro, w0, ex, mk⟩ (argFr 0 args) { tmps := args.toArray ++ Array.replicate k undef, defers := ds } := by
  refine ⟨by subst hk; simp; omega, ?_⟩
  intro t v ht
  obtain ⟨_, h2⟩ := argFr_look _ _ _ _ ht
  have hlt : t < args.length := by
    rcases Nat.lt_or_ge t args.length with h | h
    · exact h
    · rw [List.getElem?_eq_none (by simpa using h)] at h2; cases h2
  rw [Array.getElem?_append_left (by simpa using hlt)]
  simpa using h2

theorem good_start {n : Nat} {w : World} {ex : Option Nat} {mk : Bool} {tm : Array Value} (hx : ∀ x, ex = some x → x < w.heap.size := by intro x h; cases h) : Good ⟨n, none, w, ex, mk⟩ { tmps := tm, defers := [] } w :=
  ⟨DK.refl, Nat.le_refl _, hx, ⟨[], rfl, fun _ => rfl, List.nodup_nil, fun D h => by cases h⟩, fun l h => by cases h⟩

/-- Into a function. -/
theorem ret_of {f : FuncId} {fn : Func} {c : Code} {n : Nat} {args : List Value} {R : Value → World → Prop} (hf : P.funcs[f]? = some fn) (hb : fn.body = some c) (hN : fn.ntmps = n) (hle : Nat.ble args.length n = true) {rs : List ResultVar} (hr : fn.results = rs.toArray)
    (h : WC P ⟨n, none, w, none, false⟩ c (retQ P rs R) (argFr 0 args) w) : Ret P f args.toArray w R := by
  refine (callsIn_wide (n := 0)).1 (callsIn_of_wp (F := Fence.wide) hf hb trivial ?_)
  have hle' : args.length ≤ n := by simpa using hle
  refine wpIn_mono (h _ (args_hold (by rw [hN]) hle') good_start) ?_
  rintro e a' w' ⟨l', hl', g, q⟩
  have hd : a'.defers = [] := by
    obtain ⟨Ds, h1, h2, _⟩ := g.marks
    rw [h1, h2 rfl]; rfl
  cases e with
  | normal => obtain ⟨vs, ho, hR⟩ := q; exact ⟨hd, _, outs_tmps hl' ho fn hr, _, rfl, ⟨g.dk, g.size⟩, hR⟩
  | ret => obtain ⟨vs, ho, hR⟩ := q; exact ⟨hd, _, outs_tmps hl' ho fn hr, _, rfl, ⟨g.dk, g.size⟩, hR⟩
  | _ => exact q.elim
end
end Go.Eng


set_option linter.unusedVariables false
set_option linter.unusedSimpArgs false
namespace Go.Eng
open Go.RowKit Go.Shelf Go.Proofs

section
variable {P : Program} {N : Ev} {K : Fr → World → Prop} {Q : Post} {l : Fr} {w : World}

def nodef (o : Oper) : Bool := match o.op with
  | .defer _ => false
  | _ => true
theorem semAt_nodef {ro : Option Nat} {ρ : Operand → Value} {o : Oper} (h : nodef o = true) : Oper.semAt ro ρ o = execOp ρ o :=
  Oper.semAt_eq ro ρ o (fun c hc => by simp [nodef, hc] at h)

/-- An operation that gives a value. -/
theorem op_val {o : Oper} {d : Nat} {v : Value} {w' : World} (hd : o.dst = some d) (hN : Nat.blt d N.n = true)
    (hrun : ∀ a, Holds N l a → (execOp a.eval o).run P w = .ok (.value v) w') (k : K ((d, v) :: l) w')
    (hw : DK N.ex w w' ∧ w.heap.size ≤ w'.heap.size := by exact ⟨DK.refl, Nat.le_refl _⟩) (hf : nodef o = true := by rfl) : OpW P N o K Q l w := by
  intro a ha hg
  refine ⟨fun _ _ => trivial, ?_⟩
  show o.uponIn (FW N.ro) 0 P a _ _ ((o.semAt N.ro a.eval).run P w)
  rw [semAt_nodef hf, hrun a ha, Oper.uponIn_value, hd]
  exact ⟨_, ha.put (by simpa [Nat.blt_eq] using hN) v, hg.step rfl hw.1 hw.2, k⟩

/-- An operation that gives nothing (a store). -/
theorem op_skip {o : Oper} {w' : World} (hd : o.dst = none)
    (hrun : ∀ a, Holds N l a → (execOp a.eval o).run P w = .ok .skip w') (k : K l w')
    (hw : DK N.ex w w' ∧ w.heap.size ≤ w'.heap.size := by exact ⟨DK.refl, Nat.le_refl _⟩) (hf : nodef o = true := by rfl) : OpW P N o K Q l w := by
  intro a ha hg
  refine ⟨fun _ _ => trivial, ?_⟩
  show o.uponIn (FW N.ro) 0 P a _ _ ((o.semAt N.ro a.eval).run P w)
  rw [semAt_nodef hf, hrun a ha, Oper.uponIn_skip, hd]
  exact ⟨_, ha, hg.step rfl hw.1 hw.2, k⟩

theorem dk_new {ex : Option Nat} {w w' : World} {b : Nat} {o : Obj} (h : New w w' b o) : DK ex w w' ∧ w.heap.size ≤ w'.heap.size := ⟨DK.of_below h.ext, by rw [h.size]; omega⟩
theorem dk_put {ex : Option Nat} {w w' : World} {b : Nat} {o : Obj} (h : Put w w' b) (hb : w.heap[b]? = some o) (ho : ctl o = false) : DK ex w w' ∧ w.heap.size ≤ w'.heap.size := by
  refine ⟨fun k o' hk hc _ => ?_, by rw [h.size]; exact Nat.le_refl _⟩
  by_cases e : k = b
  · subst e
    rw [hb] at hk; cases hk; rw [ho] at hc; cases hc
  · exact (h.other k e).trans hk

variable {d : Nat} {T U : TypeId} {pos : String} {aft : Array Edge} {g : Option (Nat × Bool)}

theorem op_move {x : Operand} {v : Value} (hx : evo l x = some v) (hN : Nat.blt d N.n = true) (k : K ((d, v) :: l) w) :
    OpW P N ⟨some d, .move x, T, pos, aft, g⟩ K Q l w :=
  op_val rfl hN (fun a ha => by simp [execOp, ha.eval hx]) k

theorem op_assign {x : Operand} {v : Value} (hx : evo l x = some v) (hN : Nat.blt d N.n = true) (k : K ((d, v) :: l) w) :
    OpW P N ⟨some d, .assign x, T, pos, aft, g⟩ K Q l w :=
  op_val rfl hN (fun a ha => by simp [execOp, ha.eval hx]) k

theorem op_pick_t {c x y : Operand} {v : Value} (hc : evo l c = some (.bool true)) (hx : evo l x = some v) (hN : Nat.blt d N.n = true) (k : K ((d, v) :: l) w) :
    OpW P N ⟨some d, .pick c x y, T, pos, aft, g⟩ K Q l w :=
  op_val rfl hN (fun a ha => by simp [execOp, ha.eval hx, ha.eval hc, asBool]) k

theorem op_pick_f {c x y : Operand} {v : Value} (hc : evo l c = some (.bool false)) (hx : evo l y = some v) (hN : Nat.blt d N.n = true) (k : K ((d, v) :: l) w) :
    OpW P N ⟨some d, .pick c x y, T, pos, aft, g⟩ K Q l w :=
  op_val rfl hN (fun a ha => by simp [execOp, ha.eval hx, ha.eval hc, asBool]) k

theorem op_extract {i : Nat} {x : Operand} {vs : Array Value} {v : Value} (hx : evo l x = some (.tuple vs)) (hv : vs[i]? = some v) (hN : Nat.blt d N.n = true) (k : K ((d, v) :: l) w) :
    OpW P N ⟨some d, .extract x i, T, pos, aft, g⟩ K Q l w :=
  op_val rfl hN (fun a ha => by simp [execOp, ha.eval hx, Instr.extract, hv]) k

/-! binary operators -/
theorem op_bin {op : BinOp} {x y : Operand} {vx vy v : Value} (hx : evo l x = some vx) (hy : evo l y = some vy)
    (hg : ∀ w, (eqGuard op T x y vx vy).run P w = .ok () w) (hr : ∀ w, (binOp op T vx vy).run P w = .ok v w) (hN : Nat.blt d N.n = true) (k : K ((d, v) :: l) w) {T' : TypeId} :
    OpW P N ⟨some d, .binOp op T x y T', U, pos, aft, g⟩ K Q l w :=
  op_val rfl hN (fun s hs => by simp [execOp, hs.eval hx, hs.eval hy, Sem.run_bind, hg w, hr w, Result.andThen_ok]) k

theorem wrap_in {k : IntKind} {n : Int} (h : k.min ≤ n ∧ n ≤ k.max) : k.wrap n = n := by
  cases k <;> simp [IntKind.min, IntKind.max, IntKind.wrap, IntKind.bits, IntKind.signed] at * <;> omega

variable {x y : Operand} {kd : IntKind} {a b : Int} {T' : TypeId}

/-- int's own sums, within its bounds. -/
theorem wrap_i64 {n : Int} (h : -9223372036854775808 ≤ n ∧ n ≤ 9223372036854775807) : IntKind.i64.wrap n = n := wrap_in h
theorem bytes_beq (s t : ByteArray) : (s.toList == t.toList) = decide (s = t) := by
  have h : s.toList = t.toList ↔ s = t := by
    constructor
    · intro h
      rw [ByteArray.toList_eq, ByteArray.toList_eq] at h
      cases s; cases t; simp at h; subst h; rfl
    · rintro rfl; rfl
  by_cases e : s = t
  · subst e; simp
  · simp [e, h]
theorem op_not {c : Bool} (hx : evo l x = some (.bool c)) (hN : Nat.blt d N.n = true) (k : K ((d, .bool (!c)) :: l) w) :
    OpW P N ⟨some d, .unOp .not T x, U, pos, aft, g⟩ K Q l w :=
  op_val rfl hN (fun s hs => by simp [execOp, hs.eval hx, Op.unary]) k

/-! lengths -/
theorem op_len_slice {A : Option Addr} {n c e : Nat} {ts : Array TypeId} {cl : Array Operand} (hc : cl = #[x]) (ht : ts = #[T]) (hU : Und P T (.slice e)) (hx : evo l x = some (.slice A n c)) (hN : Nat.blt d N.n = true) (k : K ((d, .int .i64 n) :: l) w) :
    OpW P N ⟨some d, .call ⟨.builtin .len, cl, ts⟩, U, pos, aft, g⟩ K Q l w := by
  subst hc ht
  refine op_val rfl hN (fun s hs => ?_) k
  simp [execOp, resolve, invoke, builtin, Builtin.len_, hs.eval hx, run_underlying hU, goInt]

theorem op_len_str {s : ByteArray} {ts : Array TypeId} {cl : Array Operand} (hc : cl = #[x]) (ht : ts = #[T]) (hU : Und P T .string) (hx : evo l x = some (.string s)) (hN : Nat.blt d N.n = true) (k : K ((d, .int .i64 s.size) :: l) w) :
    OpW P N ⟨some d, .call ⟨.builtin .len, cl, ts⟩, U, pos, aft, g⟩ K Q l w := by
  subst hc ht
  refine op_val rfl hN (fun a ha => ?_) k
  simp [execOp, resolve, invoke, builtin, Builtin.len_, ha.eval hx, run_underlying hU, goInt]

theorem op_max {ts : Array TypeId} {cl : Array Operand} (hc : cl = #[x, y]) (hx : evo l x = some (.int kd a)) (hy : evo l y = some (.int kd b)) (hN : Nat.blt d N.n = true) (k : K ((d, .int kd (if b > a then b else a)) :: l) w) :
    OpW P N ⟨some d, .call ⟨.builtin .max, cl, ts⟩, U, pos, aft, g⟩ K Q l w := by
  subst hc
  refine op_val rfl hN (fun s hs => ?_) k
  simp [execOp, resolve, invoke, builtin, Builtin.max_, Builtin.max2, hs.eval hx, hs.eval hy]

/-! memory -/
theorem op_load1 {b o : Nat} {v : Value} (hx : evo l x = some (.pointer (some ⟨b, o, none⟩))) (hA : AggT P T false) (hc : w.cell? ⟨b, o, none⟩ = some v) (hN : Nat.blt d N.n = true) (k : K ((d, v) :: l) w) :
    OpW P N ⟨some d, .load T x, U, pos, aft, g⟩ K Q l w :=
  op_val rfl hN (fun s hs => by simp [execOp, hs.eval hx, Instr.loadAt, Instr.sureAddr, run_loadVar_one hA hc]) k

theorem op_loadN {b o n : Nat} {vs : List Value} (hx : evo l x = some (.pointer (some ⟨b, o, none⟩))) (hA : AggT P T true) (hS : Sz P T n) (hl : vs.length = n) (hc : Cells w b o vs) (hN : Nat.blt d N.n = true) (k : K ((d, .agg vs.toArray) :: l) w) :
    OpW P N ⟨some d, .load T x, U, pos, aft, g⟩ K Q l w :=
  op_val rfl hN (fun s hs => by simp [execOp, hs.eval hx, Instr.loadAt, Instr.sureAddr, run_loadVar_agg hA hS hl hc]) k

def FieldAt (P : Program) (T f off : Nat) : Prop := ∀ b o w, (Instr.fieldAt T (.pointer (some ⟨b, o, none⟩)) f).run P w = .ok (.pointer (some ⟨b, o + off, none⟩)) w
theorem op_fieldAddr {b o f off : Nat} (hx : evo l x = some (.pointer (some ⟨b, o, none⟩))) (hf : FieldAt P T f off) (hN : Nat.blt d N.n = true) (k : K ((d, .pointer (some ⟨b, o + off, none⟩)) :: l) w) :
    OpW P N ⟨some d, .fieldAddr T x f, U, pos, aft, g⟩ K Q l w :=
  op_val rfl hN (fun s hs => by simp [execOp, hs.eval hx, hf b o w]) k

theorem op_indexAddr {A : Option Addr} {b o n c e sz j : Nat} {i : Int} (hx : evo l x = some (.slice A n c)) (hy : evo l y = some (.int kd i)) (hU : Und P T (.slice e)) (hS : Sz P e sz) (hA : A = some ⟨b, o, none⟩) (hj : i = (j : Int)) (hlt : j < n)
    (hN : Nat.blt d N.n = true) (k : K ((d, .pointer (some ⟨b, o + j * sz, none⟩)) :: l) w) :
    OpW P N ⟨some d, .indexAddr T x y, U, pos, aft, g⟩ K Q l w := by
  subst hA hj
  refine op_val rfl hN (fun s hs => ?_) k
  have h1 : (0 : Int) ≤ (j : Int) ∧ (j : Int) < (n : Int) := by omega
  simp [execOp, hs.eval hx, hs.eval hy, Instr.indexAt, asIntOf, run_underlying hU, hS w, add_lit, hlt]

theorem op_box {v : Value} (hx : evo l x = some v) (hN : Nat.blt d N.n = true) (k : ∀ w' b, New w w' b (.cells v.cells T) → K ((d, .pointer (some ⟨b, 0, none⟩)) :: l) w') :
    OpW P N ⟨some d, .box T x, U, pos, aft, g⟩ K Q l w :=
  op_val rfl hN (fun s hs => by simp [execOp, hs.eval hx, Instr.box, newVar, run_newRow]) (k _ _ (new_push w _)) (dk_new (new_push w _))

theorem op_alloc {v : Value} (hZ : Zero P T v) (hN : Nat.blt d N.n = true) (k : ∀ w' b, New w w' b (.cells v.cells T) → K ((d, .pointer (some ⟨b, 0, none⟩)) :: l) w') :
    OpW P N ⟨some d, .alloc T, U, pos, aft, g⟩ K Q l w :=
  op_val rfl hN (fun s hs => by simp [execOp, Instr.alloc, newVar, hZ w, run_newRow]) (k _ _ (new_push w _)) (dk_new (new_push w _))

theorem op_store {b o : Nat} {cs : Array Value} {v : Value} {T' : TypeId} (hx : evo l x = some (.pointer (some ⟨b, o, none⟩))) (hy : evo l y = some v) (hS : Sz P T v.cells.size) (hb : w.heap[b]? = some (.cells cs T' (0, 0))) (h1 : (v.cells.toList.all (·.oneCell')) = true) (hl : Nat.ble (o + v.cells.size) cs.size = true)
    (k : ∀ w', Put w w' b → w'.heap[b]? = some (.cells (splice cs o v.cells.toList) T' (0, 0)) → K l w') :
    OpW P N ⟨none, .store T x y, U, pos, aft, g⟩ K Q l w := by
  obtain ⟨w', hr, hp, hb'⟩ := run_storeVar (P := P) (o := o) hS hb (by simpa only [List.all_eq_true] using h1) (by simpa using hl)
  refine op_skip rfl (fun s hs => ?_) (k w' hp hb') (dk_put hp hb rfl)
  simp [execOp, hs.eval hx, hs.eval hy, Instr.storeAt, Instr.sureAddr, hr]

def evos (l : Fr) : List (Nat × Operand) → Option (List (Nat × Value))
  | [] => some []
  | (i, x) :: r => match evo l x, evos l r with
    | some v, some vs => some ((i, v) :: vs)
    | _, _ => none
theorem evos_eval {s : Act} (hs : Holds N l s) {ps : List (Nat × Operand)} : ∀ {vs : List (Nat × Value)}, evos l ps = some vs → ps.map (fun p => (p.1, s.eval p.2)) = vs := by
  induction ps with
  | nil => intro vs h; simp [evos] at h; simp [h]
  | cons p r ih =>
    intro vs h
    obtain ⟨i, x⟩ := p
    simp only [evos] at h
    split at h
    · rename_i v us h1 h2
      cases h
      simp [hs.eval h1, ih h2]
    · cases h

theorem op_build {ps : List (Nat × Operand)} {vs : List (Nat × Value)} {v : Value} (hx : evos l ps = some vs) (hr : ∀ w, (Instr.build T vs.toArray).run P w = .ok v w) (hN : Nat.blt d N.n = true) (k : K ((d, v) :: l) w) :
    OpW P N ⟨some d, .build T ps.toArray, U, pos, aft, g⟩ K Q l w := by
  refine op_val rfl hN (fun s hs => ?_) k
  have e := evos_eval hs hx
  simp only [execOp, List.map_toArray, Sem.run_bind]
  rw [show (List.map (fun (x : Nat × Operand) => match x with | (i, x) => (i, s.eval x)) ps) = vs from e, hr w]
  rfl

theorem op_nilCheck_p {a : Addr} (hx : evo l x = some (.pointer (some a))) (hN : Nat.blt d N.n = true) (k : K ((d, .pointer (some a)) :: l) w) :
    OpW P N ⟨some d, .nilCheck x, U, pos, aft, g⟩ K Q l w :=
  op_val rfl hN (fun s hs => by simp [execOp, hs.eval hx]) k

/-! calls -/
def evl (l : Fr) : List Operand → Option (List Value)
  | [] => some []
  | x :: r => match evo l x, evl l r with
    | some v, some vs => some (v :: vs)
    | _, _ => none
theorem evl_eval {s : Act} (hs : Holds N l s) {ps : List Operand} : ∀ {vs : List Value}, evl l ps = some vs → ps.map s.eval = vs := by
  induction ps with
  | nil => intro vs h; simp [evl] at h; simp [h]
  | cons x r ih =>
    intro vs h
    simp only [evl] at h
    split at h
    · rename_i v us h1 h2
      cases h
      simp [hs.eval h1, ih h2]
    · cases h

theorem calls_FW {ro : Option Nat} {n : Nat} {f : FuncId} {args : Array Value} {R : Ending → World → Prop} (h : Calls P f args w R) : CallsIn (FW ro) n P f args w R := by
  have h' : CallsIn Fence.wide n P f args w R := callsIn_wide.2 h
  cases ro with
  | none => exact h'
  | some l => exact h'.inRound l

theorem op_enter {o : Oper} {f : FuncId} {args : Array Value} {R : Value → World → Prop} (hd : o.dst = some d) (hN : Nat.blt d N.n = true)
    (hrun : ∀ a, Holds N l a → (execOp a.eval o).run P w = .ok (.enter f args) w) (hc : Ret P f args w R) (k : ∀ v w', R v w' → K ((d, v) :: l) w') (hf : nodef o = true := by rfl) : OpW P N o K Q l w := by
  intro a ha hg
  refine ⟨fun _ _ => trivial, ?_⟩
  show o.uponIn (FW N.ro) 0 P a _ _ ((o.semAt N.ro a.eval).run P w)
  rw [semAt_nodef hf, hrun a ha, Oper.uponIn_enter]
  refine ⟨(fun h => by simp [FW] at h), CallsIn.mono (calls_FW hc) ?_⟩
  rintro e w' ⟨v, rfl, hdk, hR⟩
  rw [hd]
  exact ⟨_, ha.put (by simpa [Nat.blt_eq] using hN) v, hg.step rfl hdk.1.some hdk.2, k v w' hR⟩

theorem op_call {f : FuncId} {xs : List Operand} {vs : List Value} {ts : Array TypeId} {R : Value → World → Prop} (hf : Enters P f) (hx : evl l xs = some vs) (hc : Ret P f vs.toArray w R) (hN : Nat.blt d N.n = true)
    (k : ∀ v w', R v w' → K ((d, v) :: l) w') : OpW P N ⟨some d, .call ⟨.value (.func f), xs.toArray, ts⟩, U, pos, aft, g⟩ K Q l w := by
  refine op_enter rfl hN (fun s hs => ?_) hc k
  have e := evl_eval hs hx
  simp [execOp, resolve, Deferred.ofValue, Act.eval, invoke, e, hf _ w]

theorem op_callv {f : FuncId} {fx : Operand} {first caps : Array Value} {xs : List Operand} {vs : List Value} {ts : Array TypeId} {args : Array Value} {R : Value → World → Prop} (hfx : evo l fx = some (.func (.func f) first caps)) (hf : Enters P f) (hx : evl l xs = some vs) (ha : first ++ vs.toArray ++ caps = args) (hc : Ret P f args w R) (hN : Nat.blt d N.n = true)
    (k : ∀ v w', R v w' → K ((d, v) :: l) w') : OpW P N ⟨some d, .call ⟨.value fx, xs.toArray, ts⟩, U, pos, aft, g⟩ K Q l w := by
  subst ha
  refine op_enter rfl hN (fun s hs => ?_) hc k
  have e := evl_eval hs hx
  simp [execOp, resolve, Deferred.ofValue, hs.eval hfx, invoke, e, hf _ w]

theorem op_makeFunc {fn : Fn} {fs cs : List Operand} {us vs : List Value} (h1 : evl l fs = some us) (h2 : evl l cs = some vs) (hN : Nat.blt d N.n = true) (k : K ((d, .func fn us.toArray vs.toArray) :: l) w) :
    OpW P N ⟨some d, .makeFunc fn fs.toArray cs.toArray, U, pos, aft, g⟩ K Q l w := by
  refine op_val rfl hN (fun s hs => ?_) k
  simp [execOp, Instr.makeFunc, evl_eval hs h1, evl_eval hs h2]

end
end Go.Eng


set_option linter.unusedVariables false
set_option linter.unusedSimpArgs false
namespace Go.Eng
open Go.RowKit Go.Shelf Go.Proofs

/-! a region that draws its order: each operation's value is told by a predicate that new blocks leave as it is -/
abbrev VP := Value → World → Prop
/-- What a region's operations may do to the world. -/
structure SR (S : World → World → Prop) : Prop where
  refl : ∀ w, S w w
  trans : ∀ a b c, S a b → S b c → S a c
  drawn : ∀ w k W, S { w with drawn := k } W → S w W
def Mono (S : World → World → Prop) (φ : VP) : Prop := ∀ v W W', S W W' → φ v W → φ v W'

def dstOf (o : Oper) : Nat := o.dst.getD 0

def Gather : List (Option Nat × VP) → Fr → World → (Fr → Prop) → Prop
  | [], l, _, K => K l
  | (some d, φ) :: r, l, W, K => ∀ v, φ v W → Gather r ((d, v) :: l) W K
  | (none, φ) :: r, l, W, K => φ undef W → Gather r l W K

/-- What an operation leaves is told. -/
def toldL (o : Oper) (φ : VP) (l : Fr) (W : World) : Prop := match o.dst with
  | some d => ∃ v, l.look d = some v ∧ φ v W
  | none => φ undef W
def toldA (o : Oper) (φ : VP) (a : Act) (W : World) : Prop := match o.dst with
  | some d => ∃ v, a.tmps[d]? = some v ∧ φ v W
  | none => φ undef W
theorem told {o : Oper} {φ : VP} {l : Fr} {W : World} {d : Nat} {v : Value} (hd : o.dst = some d) (h1 : l.look d = some v) (h2 : φ v W) : toldL o φ l W := by unfold toldL; rw [hd]; exact ⟨v, h1, h2⟩
/-- One operation, its guard among it. -/
def OpG (P : Program) (N : Ev) (S : World → World → Prop) (ops : List Oper) (o : Oper) (φ : VP) (Q : Post) (l : Fr) (W : World) : Prop :=
  match o.guard with
  | none => OpW P N o (fun l' W' => toldL o φ l' W' ∧ S W W') Q l W
  | some (j, b) => ∃ vj, ((ops[j]?).bind fun o' => o'.dst.bind l.look) = some vj ∧
      (vj = .bool b → OpW P N o (fun l' W' => toldL o φ l' W' ∧ S W W') Q l W) ∧ (vj ≠ .bool b → φ undef W)

def depAt (ops : List Oper) (Φ : List VP) (js : List Nat) : List (Option Nat × VP) := js.map fun j => ((ops[j]?).bind (·.dst), (Φ[j]?).getD fun _ _ => True)

def Obs (P : Program) (N : Ev) (S : World → World → Prop) (ops : List Oper) (Φ : List VP) (Q : Post) (lb : Fr) (w : World) : List Oper → List VP → List (List Nat) → Prop
  | o :: os, φ :: φs, js :: jss => (∀ W, S w W → Gather (depAt ops Φ js) lb W fun l => OpG P N S ops o φ Q l W) ∧ Obs P N S ops Φ Q lb w os φs jss
  | _, _, _ => True

def Monos (S : World → World → Prop) : List VP → Prop
  | [] => True
  | φ :: r => Mono S φ ∧ Monos S r

def memB (a : Nat) : List Nat → Bool
  | [] => false
  | b :: l => Nat.beq a b || memB a l
def nodupB : List Nat → Bool
  | [] => true
  | a :: l => !memB a l && nodupB l
theorem memB_iff {a : Nat} {l : List Nat} : memB a l = true ↔ a ∈ l := by
  induction l with
  | nil => simp [memB]
  | cons b l ih => simp [memB, ih]
theorem nodup_of {l : List Nat} (h : nodupB l = true) : l.Nodup := by
  induction l with
  | nil => simp
  | cons a l ih =>
    simp only [nodupB, Bool.and_eq_true, Bool.not_eq_true'] at h
    refine List.nodup_cons.2 ⟨fun hm => ?_, ih h.2⟩
    rw [memB_iff.2 hm] at h
    exact absurd h.1 (by simp)

/-- Each operation has a slot of its own, which the frame does not name; what an operation asks about stands among the edges that it waits for; a guard's operation is one that is asked about. -/
def drawOk (N : Nat) (ops : List Oper) (dep : List (List Nat)) (lb : Fr) : Bool :=
  (ops.all fun o => o.dst.isNone || (Nat.blt (dstOf o) N && (lb.look (dstOf o)).isNone)) &&
  ((ops.zipIdx).all fun (o, i) => (ops.zipIdx).all fun (o', i') => Nat.beq i i' || (o.dst.isNone || (o'.dst.isNone || !Nat.beq (dstOf o) (dstOf o')))) && Nat.beq dep.length ops.length &&
  ((ops.zip dep).all fun (o, js) => js.all fun j => o.after.toList.any fun e => Region.binds .any e && Nat.beq e.on j) &&
  ((ops.zipIdx).all fun (o, i) => o.after.toList.all fun e => !Region.binds .any e || Nat.blt e.on i)

theorem Gather.imp {ds : List (Option Nat × VP)} : ∀ {l : Fr} {W : World} {K K' : Fr → Prop}, (∀ l, K l → K' l) → Gather ds l W K → Gather ds l W K' := by
  induction ds with
  | nil => intro l W K K' h g; exact h _ g
  | cons p r ih =>
    intro l W K K' h g
    obtain ⟨d, φ⟩ := p
    cases d with
    | some d => exact fun v hv => ih h (g v hv)
    | none => exact fun hv => ih h (g hv)

section
variable {P : Program} {N : Ev} {Q : Post} {l : Fr} {w : World}

theorem Oper.wpIn_frame {F : Fence} {n : Nat} {o : Oper} {a : Act} {w : World} {K : Act → World → Prop} {Q' : Exit → Act → World → Prop} (h : o.wpIn F n P a w K Q') :
    o.wpIn F n P a w (fun a' w' => K a' w' ∧ ∃ v, a'.tmps = (a.put o.dst v).tmps) Q' := by
  unfold Oper.wpIn at *
  refine ⟨h.1, ?_⟩
  have h := h.2
  generalize (o.semAt F.round a.eval).run P w = r at *
  cases r with
  | ok n w' =>
    cases n <;> simp only [Oper.uponIn] at h ⊢ <;>
      first
        | exact ⟨h, _, rfl⟩
        | exact ⟨h.1, CallsIn.mono h.2 (fun e w'' he => by cases e <;> first | exact ⟨he, _, rfl⟩ | exact he)⟩
        | exact ⟨h.1, RowsIn.mono h.2 (fun _ _ he => ⟨he, _, rfl⟩)⟩
        | exact ⟨h.1, RoundIn.mono h.2 (fun e w'' he => by cases e <;> first | exact ⟨he, _, rfl⟩ | exact he)⟩
        | (refine ⟨h, undef, ?_⟩; cases o.dst <;> rfl)
  | halt x w' => cases x <;> simp only [Oper.uponIn] at h ⊢ <;> exact h

def toldP (p : Option Nat × VP) (a : Act) (W : World) : Prop := match p.1 with
  | some d => ∃ v, a.tmps[d]? = some v ∧ p.2 v W
  | none => p.2 undef W
theorem Gather.use {ds : List (Option Nat × VP)} : ∀ {l : Fr} {W : World} {K : Fr → Prop} {a : Act}, Gather ds l W K → Holds N l a → (∀ p ∈ ds, toldP p a W) → ∃ l', Holds N l' a ∧ K l' := by
  induction ds with
  | nil => intro l W K a g ha _; exact ⟨l, ha, g⟩
  | cons p r ih =>
    intro l W K a g ha hd
    obtain ⟨d, φ⟩ := p
    cases d with
    | none => exact ih (g (hd (none, φ) (by simp))) ha (fun p hp => hd p (by simp [hp]))
    | some d =>
    obtain ⟨v, hv, hφ⟩ := hd (some d, φ) (by simp)
    refine ih (g v hφ) ⟨ha.size, ?_⟩ (fun p hp => hd p (by simp [hp]))
    intro t u ht
    rw [Fr.look_cons] at ht
    split at ht
    · rename_i e; subst e; cases ht; exact hv
    · exact ha.slot t u ht

theorem gather_up {a : Act} {W : World} {Q : Fr → World → Prop} (hg : Good N a W) (h : ∃ l', Holds N l' a ∧ Q l' W) : ∃ l', Holds N l' a ∧ Good N a W ∧ Q l' W := let ⟨l', h1, h2⟩ := h; ⟨l', h1, hg, h2⟩

theorem told_dep {ops : List Oper} {Φ : List VP} {j : Nat} {o : Oper} {φ : VP} {a : Act} {W : World} (ho : ops[j]? = some o) (hφ : Φ[j]? = some φ) (h : toldA o φ a W) : toldP ((ops[j]?).bind (·.dst), (Φ[j]?).getD fun _ _ => True) a W := by
  rw [ho, hφ]
  unfold toldA at h
  unfold toldP
  cases hd : o.dst with
  | none => rw [hd] at h; simpa [hd] using h
  | some d => rw [hd] at h; simpa [hd] using h
theorem told_hold {o : Oper} {φ : VP} {l : Fr} {a : Act} {W : World} (h : toldL o φ l W) (hl : Holds N l a) : toldA o φ a W := by
  unfold toldL at h
  unfold toldA
  cases hd : o.dst with
  | none => rw [hd] at h; exact h
  | some d => rw [hd] at h; obtain ⟨v, h1, h2⟩ := h; exact ⟨v, hl.slot _ _ h1, h2⟩

/-- What is known between two operations. -/
structure Mid (N : Ev) (S : World → World → Prop) (ops : List Oper) (Φ : List VP) (lb : Fr) (w : World) (listed : Array Bool) (a : Act) (W : World) : Prop where
  below : S w W
  base : Holds N lb a
  good : Good N a W
  done : ∀ (i : Nat) (o : Oper) (φ : VP), ops[i]? = some o → Φ[i]? = some φ → listed[i]? = some true → toldA o φ a W

theorem Obs.at {S : World → World → Prop} {ops : List Oper} {Φ : List VP} {lb : Fr} {os : List Oper} : ∀ {φs : List VP} {jss : List (List Nat)}, Obs P N S ops Φ Q lb w os φs jss → ∀ {i : Nat} {o : Oper} {φ : VP} {js : List Nat}, os[i]? = some o → φs[i]? = some φ → jss[i]? = some js →
    ∀ W, S w W → Gather (depAt ops Φ js) lb W fun l => OpG P N S ops o φ Q l W := by
  induction os with
  | nil => intro φs jss _ i o φ js h; simp at h
  | cons o' os ih =>
    intro φs jss h i o φ js h1 h2 h3
    cases φs with
    | nil => simp at h2
    | cons φ' φs =>
      cases jss with
      | nil => simp at h3
      | cons js' jss =>
        cases i with
        | zero => simp at h1 h2 h3; subst h1 h2 h3; exact h.1
        | succ i => simp at h1 h2 h3; exact ih h.2 h1 h2 h3

theorem Monos.at {S : World → World → Prop} {Φ : List VP} (h : Monos S Φ) : ∀ {i : Nat} {φ : VP}, Φ[i]? = some φ → Mono S φ := by
  induction Φ with
  | nil => intro i φ h; simp at h
  | cons φ' Φ ih =>
    intro i φ hi
    cases i with
    | zero => simp at hi; subst hi; exact h.1
    | succ i => simp at hi; exact ih h.2 hi

theorem edges_of {N : Nat} {ops : List Oper} {dep : List (List Nat)} {lb : Fr} (hok : drawOk N ops dep lb = true) {i : Nat} {o : Oper} (ho : ops[i]? = some o) : ∀ e ∈ o.after, Region.binds .any e = true → e.on < i := by
  simp only [drawOk, Bool.and_eq_true, List.all_eq_true] at hok
  obtain ⟨⟨⟨⟨h1, h2'⟩, h3⟩, h4⟩, h5⟩ := hok
  intro e he hb
  have := h5 (o, i) (by rw [List.mem_zipIdx_iff_getElem?]; simpa using ho)
  simp only [List.all_eq_true] at this
  have hx := this e (Array.mem_toList_iff.2 he)
  simpa [hb] using hx

theorem mid_step {S : World → World → Prop} (hS : SR S) {ops : List Oper} {Φ : List VP} {dep : List (List Nat)} {lb : Fr} (hok : drawOk N.n ops dep lb = true) (hΦ : Φ.length = ops.length) (hmono : Monos S Φ) (hob : Obs P N S ops Φ Q lb w ops Φ dep)
    {listed : Array Bool} {a : Act} {W : World} (hmid : Mid N S ops Φ lb w listed a W) {i : Nat} {o : Oper} (ho : ops[i]? = some o)
    (hrd : ∀ e ∈ o.after, Region.binds .any e = true → listed[e.on]? = some true) {Kn : Act → World → Prop} (hK : ∀ a' W', Mid N S ops Φ lb w (listed.setIfInBounds i true) a' W' → Kn a' W')
    {full : Array Oper} (hfull : ∀ (k : Nat) (o : Oper), ops[k]? = some o → full[k]? = some o) : wpOpIn (FW N.ro) 0 P full (up N Q) i Kn a W := by
  have hok0 := hok
  simp only [drawOk, Bool.and_eq_true, List.all_eq_true] at hok
  obtain ⟨⟨⟨⟨h1, h2'⟩, h3⟩, h4⟩, h5⟩ := hok
  have hlt : i < ops.length := (List.getElem?_eq_some_iff.1 ho).1
  have ho' : full[i]? = some o := hfull i o ho
  have hφl : i < Φ.length := by omega
  have hφ : Φ[i]? = some (Φ[i]'hφl) := List.getElem?_eq_getElem hφl
  generalize hφφ : Φ[i]'hφl = φ at *
  have hdl : i < dep.length := by have := Nat.eq_of_beq_eq_true h3; omega
  have hj : dep[i]? = some (dep[i]'hdl) := List.getElem?_eq_getElem hdl
  generalize hjj : dep[i]'hdl = js at *
  have hdst := h1 o (List.mem_of_getElem? ho)
  have hdN : ∀ d, o.dst = some d → d < N.n ∧ lb.look d = none := by
    intro d hd
    simp [hd, dstOf] at hdst
    exact hdst
  have huniq : ∀ (k : Nat) (ok : Oper) (d : Nat), ops[k]? = some ok → o.dst = some d → ok.dst = some d → i = k := by
    intro k ok d hk hd hdk
    have hz := h2' (o, i) (by rw [List.mem_zipIdx_iff_getElem?]; simpa using ho)
    have hz2 := hz (ok, k) (by rw [List.mem_zipIdx_iff_getElem?]; simpa using hk)
    simpa [hd, hdk, dstOf] using hz2
  -- what the operation asks about is done
  have hdeps : ∀ p ∈ depAt ops Φ js, toldP p a W := by
    intro p hp
    simp only [depAt, List.mem_map] at hp
    obtain ⟨j, hjm, rfl⟩ := hp
    have hz := h4 (o, js) (by
      refine List.mem_of_getElem? (i := i) ?_
      rw [List.getElem?_zip_eq_some]; exact ⟨ho, hj⟩)
    have hz' := hz j hjm
    rw [List.any_eq_true] at hz'
    obtain ⟨e, he, hb⟩ := hz'
    have he := Array.mem_toList_iff.1 he
    rw [Bool.and_eq_true] at hb
    have hej : e.on = j := Nat.eq_of_beq_eq_true hb.2
    have hL' : listed[j]? = some true := by rw [← hej]; exact hrd e he hb.1
    have hjlt : j < ops.length := by
      have := edges_of hok0 ho e he hb.1; omega
    have hoj : ops[j]? = some (ops[j]'hjlt) := List.getElem?_eq_getElem hjlt
    have hφj : Φ[j]? = some (Φ[j]'(by omega)) := List.getElem?_eq_getElem (by omega)
    have := hmid.done j _ _ hoj hφj hL'
    exact told_dep hoj hφj this
  obtain ⟨l', hl', hG⟩ := Gather.use (hob.at ho hφ hj W hmid.below) hmid.base hdeps
  -- what holds behind the operation
  have hstep : ∀ (a' : Act) (W' : World) (v : Value), a'.tmps = (a.put o.dst v).tmps → Good N a' W' → toldA o φ a' W' → S W W' → Mid N S ops Φ lb w (listed.setIfInBounds i true) a' W' := by
    intro a' W' v ht hdf hφv hBW
    have hget : ∀ t, o.dst ≠ some t → a'.tmps[t]? = a.tmps[t]? := by
      intro t hne
      rw [ht]
      cases hd : o.dst with
      | none => rfl
      | some d =>
        rw [hd] at hne
        simp only [Act.put, Array.getElem?_setIfInBounds_ne (fun e : d = t => hne (by rw [e]))]
    refine ⟨hS.trans _ _ _ hmid.below hBW, ⟨?_, ?_⟩, hdf, ?_⟩
    · rw [ht]; cases o.dst <;> simp [Act.put, hmid.base.size]
    · intro t u htu
      rw [hget t (fun hd => by have := (hdN t hd).2; rw [htu] at this; cases this)]
      exact hmid.base.slot t u htu
    · intro k ok φk hok hφk hlk
      by_cases hik : i = k
      · subst hik
        rw [ho] at hok; cases hok
        rw [hφ] at hφk; cases hφk
        exact hφv
      · have hlk' : listed[k]? = some true := by
          rwa [Array.getElem?_setIfInBounds_ne hik] at hlk
        have hdn := hmid.done k ok φk hok hφk hlk'
        unfold toldA at hdn ⊢
        cases hdk : ok.dst with
        | none => rw [hdk] at hdn; exact hmono.at hφk undef W W' hBW hdn
        | some dk =>
          rw [hdk] at hdn
          obtain ⟨u, hu, hφu⟩ := hdn
          refine ⟨u, ?_, hmono.at hφk u W W' hBW hφu⟩
          rw [hget dk (fun hd => hik (huniq k ok dk hok hd hdk))]
          exact hu
  -- the operation itself
  have hrun : ∀ (hop : OpW P N o (fun l' W' => toldL o φ l' W' ∧ S W W') Q l' W), o.wpIn (FW N.ro) 0 P a W Kn (up N Q) := by
    intro hop
    refine Oper.wpIn_mono ?_ (Oper.wpIn_frame (hop a hl' hmid.good))
    rintro a' W' ⟨⟨l₁, hl₁, hgd, htd, hBW⟩, u, hu⟩
    exact hK a' W' (hstep a' W' u hu hgd (told_hold htd hl₁) hBW)
  unfold wpOpIn
  rw [ho']
  simp only []
  unfold OpG at hG
  cases hg : o.guard with
  | none =>
    rw [hg] at hG
    rw [if_pos (by simp [Region.wanted, hg])]
    exact hrun hG
  | some jb =>
    obtain ⟨j, b⟩ := jb
    rw [hg] at hG
    obtain ⟨vj, hc, hy, hn⟩ := hG
    rw [Option.bind_eq_some_iff] at hc
    obtain ⟨oj, hoj, hc⟩ := hc
    rw [Option.bind_eq_some_iff] at hc
    obtain ⟨dj, hdj, hc⟩ := hc
    have hyl : (yielded full a.tmps j == some b) = true ↔ vj = .bool b := by
      have hojf := hfull j oj hoj
      have hs := hl'.slot _ _ hc
      cases vj <;> simp [yielded, hojf, hdj, hs]
    by_cases hcb : vj = .bool b
    · rw [if_pos (by simp only [Region.wanted, hg]; exact hyl.2 hcb)]
      exact hrun (hy hcb)
    · rw [if_neg (by simp only [Region.wanted, hg]; exact fun h => hcb (hyl.1 h))]
      refine ⟨fun _ _ => trivial, hK _ W (hstep _ W undef rfl (hmid.good.step (by cases hx : o.dst <;> rfl) DK.refl (Nat.le_refl _)) ?_ (hS.refl _))⟩
      unfold toldA
      cases hd : o.dst with
      | none => exact hn hcb
      | some d =>
        have hdlt : d < a.tmps.size := by rw [hmid.base.size]; exact (hdN d hd).1
        exact ⟨undef, by simp [Act.put, hdlt], hn hcb⟩

theorem draw_any {S : World → World → Prop} (hS : SR S) {ops : List Oper} {Φ : List VP} {dep : List (List Nat)} {lb : Fr} (hok : drawOk N.n ops dep lb = true) (hΦ : Φ.length = ops.length) (hmono : Monos S Φ) (hob : Obs P N S ops Φ Q lb w ops Φ dep)
    (hfin : ∀ a W listed, Mid N S ops Φ lb w listed a W → (∀ i, i < ops.length → listed[i]? = some true) → up N Q .normal a W) :
    ∀ (fuel : Nat) (listed : Array Bool) (a : Act) (W : World), Mid N S ops Φ lb w listed a W → listed.size = ops.length → (listed.toList.filter (! ·)).length ≤ fuel →
      wpAnyIn (FW N.ro) 0 P .any ops.toArray (up N Q) fuel listed a W := by
  -- where nothing is ready all is done
  have hall : ∀ listed : Array Bool, listed.size = ops.length → Region.ready .any ops.toArray listed = [] → ∀ i, i < ops.length → listed[i]? = some true := by
    intro listed hs hr i
    induction i using Nat.strongRecOn with
    | _ i ih =>
      intro hi
      rcases hl : listed[i]? with _ | b
      · simp at hl; omega
      · cases b with
        | true => rfl
        | false =>
          exfalso
          have : i ∈ Region.ready .any ops.toArray listed := by
            simp only [Region.ready, List.mem_filter, List.mem_range, List.size_toArray]
            refine ⟨hi, ?_⟩
            simp only [Array.getD_eq_getD_getElem?, hl, Option.getD_some, Bool.not_false, Bool.true_and]
            have ho0 : ops[i]? = some (ops[i]'hi) := List.getElem?_eq_getElem hi
            have ho : ops.toArray[i]? = some (ops[i]'hi) := by simp
            simp only [ho, Option.map_some, Option.getD_some, Array.all_eq_true']
            intro e he
            by_cases hb : Region.binds .any e = true
            · have hlt := edges_of hok ho0 e he hb
              simp only [hb, Bool.not_true, Bool.false_or]
              rw [ih e.on hlt (by omega)]; rfl
            · simp [hb]
          rw [hr] at this
          cases this
  intro fuel
  induction fuel with
  | zero =>
    intro listed a W hmid hs hf
    have hnil : ∀ i, i < ops.length → listed[i]? = some true := by
      intro i hi
      have hfl : listed.toList.filter (! ·) = [] := List.eq_nil_of_length_eq_zero (by omega)
      rw [List.filter_eq_nil_iff] at hfl
      have hlt : i < listed.size := by omega
      have hm := hfl listed[i] (by simp)
      rw [Array.getElem?_eq_getElem hlt]
      simpa using hm
    refine ⟨?_, hfin a W listed hmid hnil⟩
    simp only [Region.ready, List.filter_eq_nil_iff, List.mem_range, List.size_toArray]
    intro i hi
    simp [Array.getD_eq_getD_getElem?, hnil i hi]
  | succ fuel ih =>
    intro listed a W hmid hs hf
    refine ⟨fun hr => hfin a W listed hmid (hall listed hs hr), ?_⟩
    intro i hi
    simp only [Region.ready, List.mem_filter, List.mem_range, List.size_toArray] at hi
    obtain ⟨hlt, hi⟩ := hi
    rw [Bool.and_eq_true] at hi
    obtain ⟨hun, hrd⟩ := hi
    have ho : ops[i]? = some (ops[i]'hlt) := List.getElem?_eq_getElem hlt
    have ho' : ops.toArray[i]? = some (ops[i]'hlt) := by simp
    have hun' : listed[i]? = some false := by
      have hlt' : i < listed.size := by omega
      rw [Array.getElem?_eq_getElem hlt']
      simp only [Array.getD_eq_getD_getElem?, Array.getElem?_eq_getElem hlt', Option.getD_some] at hun
      simpa using hun
    have hcount : ((listed.setIfInBounds i true).toList.filter (! ·)).length ≤ fuel := by
      have hlt' : i < listed.toList.length := by simp; omega
      have e1 : (listed.setIfInBounds i true).toList = listed.toList.set i true := by simp
      rw [e1]
      have e2 : listed.toList = listed.toList.take i ++ false :: listed.toList.drop (i + 1) := by
        have hg : listed.toList[i] = false := by
          have := hun'
          rw [Array.getElem?_eq_getElem (by simpa using hlt')] at this
          simpa using this
        rw [← hg, ← List.drop_eq_getElem_cons hlt']; simp
      have e3 : listed.toList.set i true = listed.toList.take i ++ true :: listed.toList.drop (i + 1) := by
        rw [List.set_eq_take_append_cons_drop, if_pos hlt']
      rw [e3]
      rw [e2] at hf
      simp only [List.filter_append, List.length_append, List.filter_cons, Bool.not_false, Bool.not_true, if_true, List.length_cons] at hf ⊢
      simp at hf ⊢
      omega
    refine mid_step hS hok hΦ hmono hob hmid ho ?_ (fun a' W' hm => ih _ a' W' hm (by simp [hs]) hcount) (fun k o h => by simpa using h)
    intro e he hb
    rw [ho'] at hrd
    simp only [Option.map_some, Option.getD_some, Array.all_eq_true'] at hrd
    have := hrd e he
    simp only [hb, Bool.not_true, Bool.false_or] at this
    rcases hlj : listed[e.on]? with _ | b
    · simp [Array.getD_eq_getD_getElem?, hlj] at this
    · simp [Array.getD_eq_getD_getElem?, hlj] at this; rw [this]

/-- The same in the order of the text. -/
theorem text_any {S : World → World → Prop} (hS : SR S) {ops : List Oper} {Φ : List VP} {dep : List (List Nat)} {lb : Fr} (hok : drawOk N.n ops dep lb = true) (hΦ : Φ.length = ops.length) (hmono : Monos S Φ) (hob : Obs P N S ops Φ Q lb w ops Φ dep)
    (hfin : ∀ a W listed, Mid N S ops Φ lb w listed a W → (∀ i, i < ops.length → listed[i]? = some true) → up N Q .normal a W) :
    ∀ (m k : Nat) (listed : Array Bool) (a : Act) (W : World), k + m = ops.length → Mid N S ops Φ lb w listed a W → listed.size = ops.length → (∀ j, j < k → listed[j]? = some true) →
      wpOpsIn (FW N.ro) 0 P ops.toArray (up N Q) (List.range' k m) a W := by
  intro m
  induction m with
  | zero =>
    intro k listed a W hk hmid hs hl
    exact hfin a W listed hmid (fun i hi => hl i (by omega))
  | succ m ih =>
    intro k listed a W hk hmid hs hl
    rw [List.range'_succ, wpOpsIn_cons]
    have ho : ops[k]? = some (ops[k]'(by omega)) := List.getElem?_eq_getElem (by omega)
    refine mid_step hS hok hΦ hmono hob hmid ho (fun e he hb => hl _ (edges_of hok ho e he hb)) (fun a' W' hm => ih (k + 1) _ a' W' (by omega) hm (by simp [hs]) ?_) (fun k o h => by simpa using h)
    intro j hj
    by_cases e : k = j
    · subst e
      rw [Array.getElem?_setIfInBounds_self_of_lt (by omega)]
    · rw [Array.getElem?_setIfInBounds_ne e]
      exact hl j (by omega)

theorem below_of_drawn {B k : Nat} {W : World} (h : Below B { w with drawn := k } W) : Below B w W := ⟨h.os, h.tape, h.output, h.size, h.block⟩
theorem sr_below : SR (fun w W => Below w.heap.size w W) := ⟨fun w => Below.refl _ w, fun a b c h k => h.trans (k.mono h.size), fun w k W h => below_of_drawn h⟩

theorem Obs.drawn {S : World → World → Prop} (hS : SR S) {ops : List Oper} {Φ : List VP} {lb : Fr} {k : Nat} {os : List Oper} : ∀ {φs : List VP} {jss : List (List Nat)}, Obs P N S ops Φ Q lb w os φs jss → Obs P N S ops Φ Q lb { w with drawn := k } os φs jss := by
  induction os with
  | nil => intro φs jss _; trivial
  | cons o os ih =>
    intro φs jss h
    cases φs with
    | nil => trivial
    | cons φ φs =>
      cases jss with
      | nil => trivial
      | cons js jss => exact ⟨fun W hW => h.1 W (hS.drawn _ _ _ hW), ih h.2⟩

theorem live_told {S : World → World → Prop} {ops : List Oper} {Φ : List VP} {lb : Fr} {listed : Array Bool} {a' : Act} {W : World} {m : Nat} {live : List Nat} (hmid : Mid N S ops Φ lb w listed a' W) (hml : m ≤ ops.length) (hΦ : m ≤ Φ.length) (hlive : (live.all fun i => Nat.blt i m) = true) (hall : ∀ i, i < m → listed[i]? = some true) :
    ∀ p ∈ depAt ops Φ live, toldP p a' W := by
  intro p hp
  simp only [depAt, List.mem_map] at hp
  obtain ⟨j, hjm, rfl⟩ := hp
  have hjlt : j < m := by
    rw [List.all_eq_true] at hlive
    simpa using hlive j hjm
  have hoj : ops[j]? = some (ops[j]'(by omega)) := List.getElem?_eq_getElem (by omega)
  have hφj : Φ[j]? = some (Φ[j]'(by omega)) := List.getElem?_eq_getElem (by omega)
  exact told_dep hoj hφj (hmid.done j _ _ hoj hφj (hall j hjlt))

/-- A region that draws its order. 'live': the operations whose values are asked about behind it. -/
theorem wc_drawS {S : World → World → Prop} (hS : SR S) {id : Nat} {ops : List Oper} (hm : P.follows .mixedOrders = true) (lb : Fr) (hlb : Sub lb l) (Φ : List VP) (dep : List (List Nat)) (live : List Nat)
    (hok : drawOk N.n ops dep lb = true) (hΦ : Nat.beq Φ.length ops.length = true) (hlive : (live.all fun i => Nat.blt i ops.length) = true) (hmono : Monos S Φ) (hob : Obs P N S ops Φ Q lb w ops Φ dep)
    (hfin : ∀ W, S w W → Gather (depAt ops Φ live) lb W fun l' => Q .normal l' W) : WC P N (.region id ops.toArray true) Q l w := by
  intro a ha hg
  refine wpIn_region_any hm ?_
  have hΦ' := Nat.eq_of_beq_eq_true hΦ
  refine draw_any hS (w := { w with drawn := w.drawn + 1 }) hok hΦ' hmono (hob.drawn hS) ?_ _ _ _ _ ?_ (by simp) ?_
  · intro a' W listed hmid hall
    exact gather_up hmid.good (Gather.use (hfin W (hS.drawn _ _ _ hmid.below)) hmid.base (live_told hmid (Nat.le_refl _) (by omega) hlive hall))
  · refine ⟨hS.refl _, ha.sub hlb, hg.step rfl (fun _ _ h _ _ => h) (Nat.le_refl _), ?_⟩
    intro i o φ _ _ hi
    simp [Array.getElem?_replicate] at hi
  · simp
theorem wc_draw {id : Nat} {ops : List Oper} (hm : P.follows .mixedOrders = true) (lb : Fr) (hlb : Sub lb l) (Φ : List VP) (dep : List (List Nat)) (live : List Nat)
    (hok : drawOk N.n ops dep lb = true) (hΦ : Nat.beq Φ.length ops.length = true) (hlive : (live.all fun i => Nat.blt i ops.length) = true) (hmono : Monos (fun w W => Below w.heap.size w W) Φ) (hob : Obs P N (fun w W => Below w.heap.size w W) ops Φ Q lb w ops Φ dep)
    (hfin : ∀ W, Below w.heap.size w W → Gather (depAt ops Φ live) lb W fun l' => Q .normal l' W) : WC P N (.region id ops.toArray true) Q l w :=
  wc_drawS sr_below hm lb hlb Φ dep live hok hΦ hlive hmono hob hfin

/-- A region in the order of the text, told in the same way: where operations are guarded. -/
theorem wc_textS {S : World → World → Prop} (hS : SR S) {id : Nat} {ops : List Oper} (lb : Fr) (hlb : Sub lb l) (Φ : List VP) (dep : List (List Nat)) (live : List Nat)
    (hok : drawOk N.n ops dep lb = true) (hΦ : Nat.beq Φ.length ops.length = true) (hlive : (live.all fun i => Nat.blt i ops.length) = true) (hmono : Monos S Φ) (hob : Obs P N S ops Φ Q lb w ops Φ dep)
    (hfin : ∀ W, S w W → Gather (depAt ops Φ live) lb W fun l' => Q .normal l' W) : WC P N (.region id ops.toArray false) Q l w := by
  intro a ha hg
  refine wpIn_region ?_
  have hΦ' := Nat.eq_of_beq_eq_true hΦ
  rw [List.range_eq_range', List.size_toArray]
  refine text_any hS hok hΦ' hmono hob ?_ ops.length 0 (Array.replicate ops.length false) a w (by simp) ⟨hS.refl _, ha.sub hlb, hg, ?_⟩ (by simp) (fun j hj => absurd hj (by omega))
  · intro a' W listed hmid hall
    exact gather_up hmid.good (Gather.use (hfin W hmid.below) hmid.base (live_told hmid (Nat.le_refl _) (by omega) hlive hall))
  · intro i o φ _ _ hi
    simp [Array.getElem?_replicate] at hi
theorem wc_text {id : Nat} {ops : List Oper} (lb : Fr) (hlb : Sub lb l) (Φ : List VP) (dep : List (List Nat)) (live : List Nat)
    (hok : drawOk N.n ops dep lb = true) (hΦ : Nat.beq Φ.length ops.length = true) (hlive : (live.all fun i => Nat.blt i ops.length) = true) (hmono : Monos (fun w W => Below w.heap.size w W) Φ) (hob : Obs P N (fun w W => Below w.heap.size w W) ops Φ Q lb w ops Φ dep)
    (hfin : ∀ W, Below w.heap.size w W → Gather (depAt ops Φ live) lb W fun l' => Q .normal l' W) : WC P N (.region id ops.toArray false) Q l w :=
  wc_textS sr_below lb hlb Φ dep live hok hΦ hlive hmono hob hfin

def backOk (ops : List Oper) : Bool := (ops.zipIdx).all fun (o, i) => o.after.toList.all fun e => !Region.binds .any e || Nat.blt e.on i
theorem back_of {ops : List Oper} (h : backOk ops = true) (i : Nat) (o : Oper) (ho : ops[i]? = some o) : ∀ e ∈ o.after, Region.binds .any e = true → e.on < i := by
  simp only [backOk, List.all_eq_true] at h
  intro e he hb
  have := h (o, i) (by rw [List.mem_zipIdx_iff_getElem?]; simpa using ho) e (Array.mem_toList_iff.2 he)
  simpa [hb] using this

theorem and_l {a b : Bool} (h : (a && b) = true) : a = true := (Bool.and_eq_true_iff.1 h).1
theorem undef_ne {b : Bool} : (undef : Value) ≠ .bool b := by intro h; cases h

end
end Go.Eng


set_option linter.unusedVariables false
set_option linter.unusedSimpArgs false
namespace Go.Eng
open Go.RowKit Go.Shelf Go.Proofs

/-! a slice that is read; 'R w cs x': the cells cs hold x -/
structure Rd {α : Type} (R : World → List Value → α → Prop) (sz : Nat) (w : World) (A : Option Addr) (n : Nat) (xs : List α) : Prop where
  len : xs.length = n
  bd : n ≤ 140737488355328
  rows : ∃ b off, (0 < n → A = some ⟨b, off, none⟩) ∧ ∀ i x, xs[i]? = some x → ∃ cs, cs.length = sz ∧ R w cs x ∧ Cells w b (off + i * sz) cs

def Flat {α : Type} (enc : α → List Value) : World → List Value → α → Prop := fun _ cs x => cs = enc x

def Lifts {α : Type} (R : World → List Value → α → Prop) : Prop := ∀ w w' cs x, Below w.heap.size w w' → R w cs x → R w' cs x
theorem Rd.ext {α : Type} {R : World → List Value → α → Prop} {sz : Nat} {w w' : World} {A : Option Addr} {n : Nat} {xs : List α} (hR : Lifts R) (h : Rd R sz w A n xs) (hb : Below w.heap.size w w') : Rd R sz w' A n xs := by
  obtain ⟨b, off, hA, hc⟩ := h.rows
  exact ⟨h.len, h.bd, b, off, hA, fun i x hx => let ⟨cs, h1, h2, h3⟩ := hc i x hx; ⟨cs, h1, hR _ _ _ _ hb h2, h3.ext hb⟩⟩

/-- A flat slice laid open: where its cells stand. -/
theorem Rd.flat {α : Type} {enc : α → List Value} {sz : Nat} {w : World} {A : Option Addr} {n : Nat} {xs : List α} (h : Rd (Flat enc) sz w A n xs) :
    ∃ b off, (0 < n → A = some ⟨b, off, none⟩) ∧ ∀ i x, xs[i]? = some x → Cells w b (off + i * sz) (enc x) := by
  obtain ⟨b, off, hA, hc⟩ := h.rows
  exact ⟨b, off, hA, fun i x hx => by obtain ⟨cs, _, rfl, h3⟩ := hc i x hx; exact h3⟩

/-! append -/
def AppT (P : Program) (T e size bytes : Nat) : Prop :=
  P.underlying T = some (.slice e) ∧ 0 < size ∧ ∃ i z, P.info? e = some i ∧ i.zero = some z ∧ i.size = size ∧ i.bytes = bytes ∧ z.cells.size = size
theorem appT_of {P : Program} {T e size bytes : Nat} {z : Value} (h1 : P.underlying T = some (.slice e)) (h2 : (P.info? e).map (fun i => (i.zero, i.size, i.bytes)) = some (some z, size, bytes)) (h3 : Nat.beq z.cells.size size = true) (h4 : Nat.blt 0 size = true) : AppT P T e size bytes := by
  cases hi : P.info? e with
  | none => rw [hi] at h2; cases h2
  | some i =>
    rw [hi] at h2
    simp at h2
    exact ⟨h1, by simpa using h4, i, z, hi, h2.1, h2.2.1, h2.2.2, Nat.eq_of_beq_eq_true h3⟩

section
variable {P : Program} {N : Ev} {K : Fr → World → Prop} {Q : Post} {l : Fr} {w : World}
variable {d : Nat} {T U : TypeId} {pos : String} {aft : Array Edge} {g : Option (Nat × Bool)}

theorem dk_grown {ex : Option Nat} {w w' : World} {base e size n : Nat} {v : Value} {xs : List Value} (hown : w.ownsRow base e size v n xs) (h : w.grownBy w' v.ownBlock) : DK ex w w' ∧ w.heap.size ≤ w'.heap.size := by
  refine ⟨fun k o hk hc _ => ?_, h.size⟩
  by_cases e : some k = v.ownBlock
  · exfalso
    rcases hown.2 with ⟨rfl, _⟩ | ⟨g, cap, cur, rfl, _, hg, _⟩
    · cases e
    · cases e
      rw [hg] at hk; cases hk; cases hc
  · exact (h.block k (Array.getElem?_eq_some_iff.1 hk).1 e).trans hk
theorem op_pick {c x y : Operand} {cb : Bool} {v : Value} (hc : evo l c = some (.bool cb)) (ht : cb = true → evo l x = some v) (hf : cb = false → evo l y = some v) (hN : Nat.blt d N.n = true) (k : K ((d, v) :: l) w) :
    OpW P N ⟨some d, .pick c x y, T, pos, aft, g⟩ K Q l w := by
  cases cb with
  | true => exact op_pick_t hc (ht rfl) hN k
  | false => exact op_pick_f hc (hf rfl) hN k
theorem splice_size (vs : List Value) : ∀ (cs : Array Value) (o : Nat), (splice cs o vs).size = cs.size := by
  induction vs with
  | nil => intro cs o; rfl
  | cons v vs ih => intro cs o; simp [splice, ih]

/-! a post is peeled -/
theorem wl_done {ops : Array Oper} (h : Q .normal l w) : WL P N ops Q [] l w := fun a ha hg => wpListIn_nil ⟨l, ha, hg, h⟩
end

theorem below_then {B : Nat} {a b c : World} (h : Below B a b) (hB : B ≤ b.heap.size) (k : Below b.heap.size b c) : Below B a c := h.trans (k.mono hB)
/-- From an elder world on, over a step that turns nothing. -/
theorem below_step {a b c : World} (h : Below a.heap.size a b) (k : Below b.heap.size b c) : Below a.heap.size a c := below_then h h.size k
theorem blk_ext {b c : World} {x : Nat} {o : Obj} (h : b.heap[x]? = some o) (k : Below b.heap.size b c) : c.heap[x]? = some o := (k.block x (Array.getElem?_eq_some_iff.1 h).1).trans h
theorem Cells.at {w : World} {b o i : Nat} {vs : List Value} {v : Value} (h : Cells w b o vs) (hv : vs[i]? = some v) : w.cell? ⟨b, o + i, none⟩ = some v := h i v hv
theorem Cells.head {w : World} {b o : Nat} {v : Value} {vs : List Value} (h : Cells w b o (v :: vs)) : w.cell? ⟨b, o, none⟩ = some v := h 0 v rfl

/-! rows that the call itself collects -/
def Own {α : Type} (enc : α → List Value) (base e sz : Nat) (w : World) (v : Value) (xs : List α) : Prop := w.ownsRow base e sz v xs.length (xs.flatMap enc)

theorem grownBy_of_below {w w1 : World} (h : Below w.heap.size w w1) (row : Option Nat) : w.grownBy w1 row := ⟨h.os, h.tape, h.output, h.size, fun i hi _ => h.block i hi⟩
theorem Own.ext {α : Type} {enc : α → List Value} {base e sz : Nat} {w w' : World} {v : Value} {xs : List α} (h : Own enc base e sz w v xs) (hb : Below w.heap.size w w') : Own enc base e sz w' v xs :=
  h.kept (grownBy_of_below hb none) (by cases v.ownBlock <;> simp)
theorem Own.grown {α : Type} {enc : α → List Value} {base e sz : Nat} {w w' : World} {v : Value} {xs : List α} {row : Option Nat} (h : Own enc base e sz w v xs) (hg : w.grownBy w' row) (hne : v.ownBlock = none ∨ v.ownBlock ≠ row) : Own enc base e sz w' v xs :=
  h.kept hg hne
/-- Rows that are told one by one. -/
def RowsAt {α : Type} (R : World → List Value → α → Prop) (sz : Nat) (w : World) (b : Nat) : Nat → List α → Prop
  | _, [] => True
  | off, x :: xs => (∃ cs, cs.length = sz ∧ R w cs x ∧ Cells w b off cs) ∧ RowsAt R sz w b (off + sz) xs
theorem RowsAt.get {α : Type} {R : World → List Value → α → Prop} {sz : Nat} {w : World} {b : Nat} {xs : List α} : ∀ {off : Nat}, RowsAt R sz w b off xs → ∀ i x, xs[i]? = some x → ∃ cs, cs.length = sz ∧ R w cs x ∧ Cells w b (off + i * sz) cs := by
  induction xs with
  | nil => intro off _ i x hx; simp at hx
  | cons y ys ih =>
    intro off h i x hx
    cases i with
    | zero => simp at hx; subst hx; simpa using h.1
    | succ i =>
      simp at hx
      have := ih h.2 i x hx
      rwa [show off + sz + i * sz = off + (i + 1) * sz by rw [Nat.add_mul]; omega] at this
section
variable {P : Program} {N : Ev} {K : Fr → World → Prop} {Q : Post} {l : Fr} {w : World}
variable {d : Nat} {T U : TypeId} {pos : String} {aft : Array Edge} {g : Option (Nat × Bool)}

theorem op_indexArr {x y : Operand} {kd : IntKind} {b o n e sz j : Nat} {i : Int} (hx : evo l x = some (.pointer (some ⟨b, o, none⟩))) (hy : evo l y = some (.int kd i)) (hU : Und P T (.array n e)) (hS : Sz P e sz) (hj : i = (j : Int)) (hlt : j < n)
    (hN : Nat.blt d N.n = true) (k : K ((d, .pointer (some ⟨b, o + j * sz, none⟩)) :: l) w) :
    OpW P N ⟨some d, .indexAddr T x y, U, pos, aft, g⟩ K Q l w := by
  subst hj
  refine op_val rfl hN (fun s hs => ?_) k
  simp [execOp, hs.eval hx, hs.eval hy, Instr.indexAt, Instr.sureAddr, asIntOf, run_underlying hU, hS w, add_lit, hlt]

/-! whole numbers: other kinds -/
end
end Go.Eng


set_option linter.unusedVariables false
set_option linter.unusedSimpArgs false
namespace Go.Eng
open Go.RowKit Go.Shelf Go.Proofs

/-! loops over functions -/

/-- Nothing turns but the blocks of FT, and loops' records from b on. -/
structure But (FT : List Nat) (b : Nat) (w w' : World) : Prop where
  os : w'.os = w.os
  tape : w'.tape = w.tape
  output : w'.output = w.output
  size : w.heap.size ≤ w'.heap.size
  same : ∀ (k : Nat) (o : Obj), w.heap[k]? = some o → k ∉ FT → (ctl o = false ∨ k < b) → w'.heap[k]? = some o

theorem But.refl {FT : List Nat} {b : Nat} {w : World} : But FT b w w := ⟨rfl, rfl, rfl, Nat.le_refl _, fun _ _ h _ _ => h⟩
theorem But.trans {FT : List Nat} {b : Nat} {u v w : World} (h : But FT b u v) (k : But FT b v w) : But FT b u w :=
  ⟨k.os.trans h.os, k.tape.trans h.tape, k.output.trans h.output, Nat.le_trans h.size k.size, fun i o hi hf hc => k.same i o (h.same i o hi hf hc) hf hc⟩
theorem But.mono {FT FT' : List Nat} {b b' : Nat} {w w' : World} (h : But FT b w w') (hF : ∀ k ∈ FT, k ∈ FT') (hb : b' ≤ b) : But FT' b' w w' :=
  ⟨h.os, h.tape, h.output, h.size, fun k o hk hf hc => h.same k o hk (fun hm => hf (hF k hm)) (hc.imp id (fun hl => Nat.lt_of_lt_of_le hl hb))⟩
theorem But.of_below {FT : List Nat} {b : Nat} {w w' : World} (h : Below w.heap.size w w') : But FT b w w' :=
  ⟨h.os, h.tape, h.output, h.size, fun k o hk _ _ => (h.block k (Array.getElem?_eq_some_iff.1 hk).1).trans hk⟩
/-- What turns lies at or beyond B. -/
theorem But.below {FT : List Nat} {b B : Nat} {w w' : World} (h : But FT b w w') (hF : ∀ k ∈ FT, B ≤ k) (hb : B ≤ b) (hB : B ≤ w.heap.size) : Below B w w' :=
  ⟨h.os, h.tape, h.output, h.size, fun k hk => by
    have hlt : k < w.heap.size := Nat.lt_of_lt_of_le hk hB
    have e : w.heap[k]? = some (w.heap[k]'hlt) := Array.getElem?_eq_getElem hlt
    rw [e]
    exact h.same k _ e (fun hm => by have := hF k hm; omega) (.inr (by omega))⟩
/-- A frame with the loop's variables. -/
def zipFr : Fr → List Nat → List Value → Fr
  | l, p :: ps, v :: vs => zipFr ((p, v) :: l) ps vs
  | l, _, _ => l
theorem zip_hold {N : Ev} {ps : List Nat} : ∀ {vs : List Value} {l : Fr} {tm : Array Value} {ds : List Deferred}, (ps.all fun p => Nat.blt p N.n) = true → Holds N l { tmps := tm, defers := ds } →
    Holds N (zipFr l ps vs) { tmps := (ps.zip vs).foldl (fun t (p, v) => t.setIfInBounds p v) tm, defers := ds } := by
  induction ps with
  | nil => intro vs l tm ds _ h; simpa [zipFr] using h
  | cons p ps ih =>
    intro vs l tm ds hp h
    cases vs with
    | nil => simpa [zipFr] using h
    | cons v vs =>
      simp only [List.all_cons, Bool.and_eq_true] at hp
      simp only [zipFr, List.zip_cons_cons, List.foldl_cons]
      refine ih hp.2 ?_
      have := h.put (d := p) (by simpa using hp.1) v
      simpa [Act.put] using this

section
variable {P : Program}

/-- What a call of the loop's own function gives. -/
def YieldC (P : Program) (l : Nat) (args : List Value) (W : World) (R : Bool → World → Prop) : Prop :=
  YieldAt (FW none) 0 P l args.toArray W fun e W' => ∃ b, e = .returned (.bool b) ∧ DK (some l) W W' ∧ W.heap.size ≤ W'.heap.size ∧ R b W'

/-- The iterator gf, with what it has captured: it tells S, and turns nothing but the blocks of FT, as long as the rounds leave what lies below n0. -/
def SeqC {α : Type} (P : Program) (gf : Nat) (lb : List Value) (encs : α → List Value) (FT : List Nat) (S : List α) (n0 : Nat) (w : World) : Prop :=
  ∀ (l : Nat) (J Jx : List α → World → Prop) (W : World), Below w.heap.size w W → w.heap.size ≤ l ∧ l < W.heap.size →
    (∀ pre W1 W2, J pre W1 → But FT W1.heap.size W1 W2 → J pre W2) → (∀ pre W1 W2, Jx pre W1 → But FT W1.heap.size W1 W2 → Jx pre W2) →
    (∀ pre x rest W1, S = pre ++ x :: rest → J pre W1 → YieldC P l (encs x) W1 fun b W' => Below n0 W1 W' ∧ if b then J (pre ++ [x]) W' else Jx (pre ++ [x]) W') →
    J [] W →
    Calls P gf (.func (.yield l) #[] #[] :: lb).toArray W fun e W' => ∃ v, e = .returned v ∧ DK (some l) W W' ∧ W.heap.size ≤ W'.heap.size ∧ (J S W' ∨ ∃ pre x rest, S = pre ++ x :: rest ∧ Jx (pre ++ [x]) W')

theorem dk_putObj {l : Nat} {W : World} {o : Obj} : DK (some l) W (W.putObj l o) := fun k o' hk _ he => (World.putObj_heap_other (fun e => he (by rw [e]))).trans hk
theorem but_putObj {FT : List Nat} {b l : Nat} {W : World} {o o' : Obj} (hb : b ≤ l) (hl : W.heap[l]? = some o) (ho : ctl o = true) : But FT b W (W.putObj l o') := by
  refine ⟨rfl, rfl, rfl, by simp, fun k o2 hk hf hc => ?_⟩
  by_cases e : k = l
  · subst e
    rw [hl] at hk; cases hk
    rcases hc with hc | hc
    · rw [ho] at hc; cases hc
    · omega
  · exact (World.putObj_heap_other e).trans hk

/-- Behind the body of a function with loops over functions: what is told holds when their records are shut, too. -/
def retQM (P : Program) (rs : List ResultVar) (w0 : World) (R : Value → World → Prop) : Post
  | .normal, l, w | .ret, l, w => ∀ w', But [] w0.heap.size w w' → w.heap.size = w'.heap.size → ∃ vs, OutsAt P l w' rs vs ∧ R (tupleOf vs) w'
  | _, _, _ => False

theorem leaves_marks {fn : Func} {tm : Array Value} {R : Ending → World → Prop} {b : Nat} : ∀ {Ds : List Nat} {w : World}, Ds.Nodup → (∀ D ∈ Ds, b ≤ D ∧ w.heap[D]? = some (.deferred (some []))) →
    (∀ w', But [] b w w' → w.heap.size = w'.heap.size → DK none { w with heap := w.heap.extract 0 b } w' → ∃ v, (results fn tm).run P w' = .ok v w' ∧ R (.returned v) w') →
    LeavesInM Fence.wide 0 P fn tm R (Ds.map mark) .returning w := by
  intro Ds
  induction Ds with
  | nil =>
    intro w _ _ h
    refine h w But.refl rfl ?_
    intro k o hk _ _
    have hk' : (w.heap.extract 0 b)[k]? = some o := hk
    rw [Array.getElem?_extract] at hk'
    split at hk'
    · simpa using hk'
    · cases hk'
  | cons D Ds ih =>
    intro w hn hD h
    obtain ⟨hn1, hn2⟩ := List.nodup_cons.1 hn
    obtain ⟨hb, hd⟩ := hD D (by simp)
    have hstep : But [] b w (w.putObj D (.deferred none)) := but_putObj hb hd rfl
    refine ⟨by simp, .inl ⟨D, w.putObj D (.deferred none), rfl, run_takeDeferred hd, ih hn2 (fun D' hm => ?_) ?_⟩⟩
    · obtain ⟨h1, h2⟩ := hD D' (by simp [hm])
      exact ⟨h1, (World.putObj_heap_other (by rintro rfl; exact hn1 hm)).trans h2⟩
    · intro w' hB hs hdk
      refine h w' (hstep.trans hB) (by rw [← hs]; simp) ?_
      intro k o hk ho hx
      have hk' : (w.heap.extract 0 b)[k]? = some o := hk
      rw [Array.getElem?_extract] at hk'
      split at hk'
      · rename_i hlt
        refine hdk k o ?_ ho hx
        show ((w.putObj D (.deferred none)).heap.extract 0 b)[k]? = some o
        rw [Array.getElem?_extract, if_pos (by simpa using hlt)]
        simp only [Nat.zero_add] at hk' ⊢
        exact (World.putObj_heap_other (by omega)).trans hk'
      · cases hk'

theorem ret_ofM {w : World} {f : FuncId} {fn : Func} {c : Code} {n : Nat} {args : List Value} {R : Value → World → Prop} (hf : P.funcs[f]? = some fn) (hb : fn.body = some c) (hN : fn.ntmps = n) (hle : Nat.ble args.length n = true) {rs : List ResultVar} (hr : fn.results = rs.toArray)
    (h : WC P ⟨n, none, w, none, true⟩ c (retQM P rs w R) (argFr 0 args) w) : Ret P f args.toArray w R := by
  refine (callsIn_wide (n := 0)).1 (callsIn_of_wp_marks (F := Fence.wide) hf hb trivial ?_)
  have hle' : args.length ≤ n := by simpa using hle
  refine wpIn_mono (h _ (args_hold (by rw [hN]) hle') good_start) ?_
  have key : ∀ (l' : Fr) (a' : Act) (w' : World), Holds ⟨n, none, w, none, true⟩ l' a' → Good ⟨n, none, w, none, true⟩ a' w' →
      (∀ w2, But [] w.heap.size w' w2 → w'.heap.size = w2.heap.size → ∃ vs, OutsAt P l' w2 rs vs ∧ R (tupleOf vs) w2) →
      LeavesInM Fence.wide 0 P fn a'.tmps (fun e w' => ∃ v, e = .returned v ∧ (DK none w w' ∧ w.heap.size ≤ w'.heap.size) ∧ R v w') a'.defers .returning w' := by
    intro l' a' w' hl' g q
    obtain ⟨Ds, e1, _, e3, e4⟩ := g.marks
    rw [e1]
    refine leaves_marks (b := w.heap.size) e3 (fun D hm => ⟨(e4 D hm).1, (e4 D hm).2.2⟩) fun w2 hB hs hdk => ?_
    obtain ⟨vs, ho, hR⟩ := q w2 hB hs
    refine ⟨_, outs_tmps hl' ho fn hr, _, rfl, ⟨?_, by rw [← hs]; exact g.size⟩, hR⟩
    intro k o hk hc hx
    have h1 := g.dk k o hk hc hx
    refine hdk k o ?_ hc hx
    show (w'.heap.extract 0 w.heap.size)[k]? = some o
    have hlt := (Array.getElem?_eq_some_iff.1 hk).1
    have hgs : w.heap.size ≤ w'.heap.size := g.size
    rw [Array.getElem?_extract, if_pos (by omega)]
    simpa using h1
  rintro e a' w' ⟨l', hl', g, q⟩
  cases e with
  | normal => exact key l' a' w' hl' g q
  | ret => exact key l' a' w' hl' g q
  | _ => exact q.elim

section
variable {N : Ev} {K : Fr → World → Prop} {Q : Post} {l : Fr} {w : World} {d : Nat} {U : TypeId} {pos : String} {aft : Array Edge} {g : Option (Nat × Bool)}
theorem roundIn_FW {ro : Option Nat} {n L : Nat} {f : FuncId} {tm : Array Value} {a b : Code} {W : World} {R : Ending → World → Prop} (h : RoundIn (FW none) n P L f tm a b W R) : RoundIn (FW ro) n P L f tm a b W R := by
  cases ro <;> exact h
end
end

/-! steps from world to world -/
theorem SeqC.ext {α : Type} {P : Program} {gf : Nat} {lb : List Value} {encs : α → List Value} {FT : List Nat} {S : List α} {n0 : Nat} {w W : World} (h : SeqC P gf lb encs FT S n0 w) (hb : Below w.heap.size w W) : SeqC P gf lb encs FT S n0 W :=
  fun l J Jx V hV hl hJ hJx hY h0 => h l J Jx V (below_step hb hV) ⟨Nat.le_trans hb.size hl.1, hl.2⟩ hJ hJx hY h0
/-- Nothing turns but one block, from c0 to c1. -/
structure SB (b : Nat) (c0 c1 : Obj) (w W : World) : Prop where
  but : But [b] w.heap.size w W
  or : w.heap[b]? = some c0 → W.heap[b]? = some c0 ∨ W.heap[b]? = some c1
  keep : w.heap[b]? = some c1 → W.heap[b]? = some c1
theorem SB.refl {b : Nat} {c0 c1 : Obj} {w : World} : SB b c0 c1 w w := ⟨But.refl, .inl, id⟩
theorem SB.of_below {b : Nat} {c0 c1 : Obj} {w W : World} (h : Below w.heap.size w W) : SB b c0 c1 w W := ⟨But.of_below h, fun h0 => .inl (blk_ext h0 h), fun h1 => blk_ext h1 h⟩
end Go.Eng


set_option linter.unusedVariables false
set_option linter.unusedSimpArgs false
namespace Go.Eng
open Go.RowKit Go.Shelf Go.Proofs

/-! '==' of flat structs and arrays -/
def cellEq : Value → Value → Bool
  | .int _ a, .int _ b => decide (a = b)
  | .string a, .string b => decide (a = b)
  | .bool a, .bool b => decide (a = b)
  | _, _ => false
def andAll : List Bool → Bool
  | [] => true
  | [b] => b
  | b :: l => b && andAll l
def basicB (P : Program) (T : TypeId) : Bool := match P.underlying T with
  | some (.int _) | some .string | some .bool => true
  | _ => false
/-- two cells that may be compared -/
def pairB (P : Program) (T : TypeId) (x y : Value) : Bool := match P.underlying T, x, y with
  | some (.int _), .int k _, .int k' _ => decide (k = k')
  | some .string, .string _, .string _ => true
  | some .bool, .bool _, .bool _ => true
  | _, _, _ => false

section
variable {P : Program} {w : World}
theorem run_pair {d : Nat} {T : TypeId} {x y : Value} (h : pairB P T x y = true) : (Op.equalIn (d + 1) T x y).run P w = .ok (cellEq x y) w := by
  unfold pairB at h
  split at h
  · rename_i k0 k a k' b hu
    have hk : k = k' := by simpa using h
    subst hk
    rw [run_equalIn_int w d T k k0 a b hu]; rfl
  · rename_i a b hu
    rw [run_equalIn_string w d T a b hu, bytes_beq]; rfl
  · rename_i a b hu
    rw [run_equalIn_bool' w d T a b hu]
    cases a <;> cases b <;> rfl
  · cases h
theorem run_part {T : TypeId} {xs : Array Value} {o : Nat} {v : Value} (hb : basicB P T = true) (hv : xs[o]? = some v) : (part T xs o).run P w = .ok v w := by
  have hA : (isAgg T).run P w = .ok false w := by
    unfold basicB at hb
    split at hb
    · rename_i k hu; simp [isAgg, Sem.run_bind, run_underlying hu]
    · rename_i hu; simp [isAgg, Sem.run_bind, run_underlying hu]
    · rename_i hu; simp [isAgg, Sem.run_bind, run_underlying hu]
    · cases hb
  simp only [part, Sem.run_bind, hA, Result.andThen_ok, Bool.false_eq_true, if_false, hv, Sem.run_pure]

def eqCells : List Value → List Value → List Bool
  | x :: xs, y :: ys => cellEq x y :: eqCells xs ys
  | _, _ => []

def pairsA (P : Program) (e : TypeId) : List Value → List Value → Bool
  | x :: xs, y :: ys => pairB P e x y && pairsA P e xs ys
  | [], [] => true
  | _, _ => false
theorem run_eqItems {d : Nat} {e : TypeId} {X Y : Array Value} (hb : basicB P e = true) : ∀ {n i : Nat} {xs ys : List Value}, xs.length = n → pairsA P e xs ys = true → X.toList.drop i = xs → Y.toList.drop i = ys →
    (Op.eqItems (d + 1) e 1 X Y (List.range' i n)).run P w = .ok (andAll (eqCells xs ys)) w := by
  intro n
  induction n with
  | zero =>
    intro i xs ys hn h2 _ _
    match xs, ys, hn, h2 with
    | [], [], _, _ => simp [Op.eqItems, eqCells, andAll]
  | succ n ih =>
    intro i xs ys hn h2 hX hY
    match xs, ys, hn, h2 with
    | x :: xs, y :: ys, hn, h2 =>
      simp only [pairsA, Bool.and_eq_true] at h2
      have hx : X[i]? = some x := by
        have := congrArg (fun l => l[0]?) hX
        simpa using this
      have hy : Y[i]? = some y := by
        have := congrArg (fun l => l[0]?) hY
        simpa using this
      have hX' : X.toList.drop (i + 1) = xs := by
        have := congrArg List.tail hX
        simpa using this
      have hY' : Y.toList.drop (i + 1) = ys := by
        have := congrArg List.tail hY
        simpa using this
      have hrest := ih (by simpa using hn) h2.2 hX' hY'
      rw [List.range'_succ, Op.eqItems]
      simp only [Sem.run_bind, Nat.mul_one, run_part hb hx, run_part hb hy, run_pair h2.1, Result.andThen_ok]
      cases hc : cellEq x y with
      | false =>
        simp only [Bool.not_false, if_true, Sem.run_pure]
        cases hrr : eqCells xs ys with
        | nil => simp [eqCells, hc, hrr, andAll]
        | cons b l => simp [eqCells, hc, hrr, andAll]
      | true =>
        simp only [Bool.not_true, Bool.false_eq_true, if_false, hrest]
        cases hrr : eqCells xs ys with
        | nil => simp [eqCells, hc, hrr, andAll]
        | cons b l => simp [eqCells, hc, hrr, andAll]
theorem run_eqArr {d : Nat} {t e : TypeId} {n : Nat} {X Y : List Value} (hu : P.underlying t = some (.array n e)) (hb : basicB P e = true) (hc : P.cellsOf e = 1) (hi : (P.info? e).isSome = true) (hn : Nat.beq X.length n = true) (hx : pairsA P e X Y = true) :
    (Op.equalIn (d + 2) t (.agg X.toArray) (.agg Y.toArray)).run P w = .ok (andAll (eqCells X Y)) w := by
  obtain ⟨i, hi⟩ := Option.isSome_iff_exists.1 hi
  rw [run_equalIn_array w (d + 1) _ _ hu hi, hc, List.range_eq_range']
  exact run_eqItems hb (Nat.eq_of_beq_eq_true hn) hx (by simp) (by simp)

end
section
variable {P : Program} {N : Ev} {K : Fr → World → Prop} {Q : Post} {l : Fr} {w : World}
variable {d : Nat} {T U : TypeId} {pos : String} {aft : Array Edge} {g : Option (Nat × Bool)}
end
end Go.Eng


set_option linter.unusedVariables false
set_option linter.unusedSimpArgs false
namespace Go.Eng
open Go.RowKit Go.Shelf Go.Proofs Go.ChangeShapes Go.WideShapes

/-! arguments as they are handed in -/
def BK : Type := Option (Option IntKind)
def BK.i (k : IntKind) : BK := some (some k)
def BK.s : BK := some none
def BK.b : BK := none
def BK.is (k : BK) (v : Value) : Prop := match k with
  | some (some k) => ∃ z, v = .int k z ∧ (Lit.int k z).wf = true
  | some none => ∃ z : ByteArray, v = .string z ∧ z.size ≤ maxLen
  | none => ∃ z, v = .bool z
section
variable {H : Type} {enc : TypeId × Value → H} {P : Program} {w : World} {base : Nat} {sp : Nat → Bool} {held : Bool} {n : Nat}
end
end Go.Eng

