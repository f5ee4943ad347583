/- Lemmas for a law of the seat: what functions of the program do, each stated as a contract of its own (module EngB). -/
import Derived.Test.YtjagcoeihmhabaaEngA
import Derived.Laws.Sem
import Derived.WalkKit
import Derived.WideLaws
import Derived.LaidEql
import Derived.Maps.AppendAt
import Derived.Shelf.Abstract
set_option linter.unusedVariables false
set_option linter.unusedSimpArgs false
namespace Go.Eng
open Go.RowKit Go.Shelf

/-! facts on types, each closed over a program -/
def Und (P : Program) (T : Nat) (d : TypeDesc) : Prop := P.underlying T = some d
def Sz (P : Program) (T n : Nat) : Prop := ∀ w, (sizeOf T).run P w = .ok n w
def AggT (P : Program) (T : Nat) (b : Bool) : Prop := ∀ w, (isAgg T).run P w = .ok b w
def Zero (P : Program) (T : Nat) (v : Value) : Prop := ∀ w, (zeroValue T).run P w = .ok v w

/-! memory -/
def Cells (w : World) (b off : Nat) (vs : List Value) : Prop := ∀ i v, vs[i]? = some v → w.cell? ⟨b, off + i, none⟩ = some v

theorem Cells.below {w w' : World} {b off B : Nat} {vs : List Value} (h : Cells w b off vs) (hb : Below B w w') (hlt : b < B) : Cells w' b off vs :=
  fun i v hi => (hb.cell (p := ⟨b, off + i, none⟩) hlt).trans (h i v hi)

theorem Cells.ext {w w' : World} {b off : Nat} {vs : List Value} (h : Cells w b off vs) (hb : Below w.heap.size w w') : Cells w' b off vs := by
  intro i v hi
  have := h i v hi
  exact (hb.cell (p := ⟨b, off + i, none⟩) (World.block_lt_of_cell? w _ this)).trans this

theorem add_lit (b off i : Nat) : (⟨b, off, none⟩ : Addr).add i = ⟨b, off + i, none⟩ := by unfold Addr.add; split <;> simp_all

theorem cell_blk {w : World} {b o : Nat} {cs : Array Value} {T : TypeId} {fr : Nat × Nat} {v : Value} (h : w.heap[b]? = some (.cells cs T fr)) (hv : cs[o]? = some v) : w.cell? ⟨b, o, none⟩ = some v := by
  simp [World.cell?, h, hv]

theorem cells_blk {w : World} {b : Nat} {cs : Array Value} {T : TypeId} {fr : Nat × Nat} (h : w.heap[b]? = some (.cells cs T fr)) : Cells w b 0 cs.toList := by
  intro i v hi
  refine cell_blk h ?_
  simpa using hi

theorem cells_sub {w : World} {b o : Nat} {vs : List Value} (h : Cells w b o vs) (i : Nat) (us : List Value) (hu : us = (vs.drop i).take us.length) : Cells w b (o + i) us := by
  intro j v hj
  rw [hu] at hj
  have hj' : vs[i + j]? = some v := by
    rw [List.getElem?_take] at hj
    split at hj
    · rwa [List.getElem?_drop] at hj
    · cases hj
  have := h (i + j) v hj'
  rw [Nat.add_assoc]; exact this

theorem run_loadCellsFrom {P : Program} {w : World} {b o : Nat} (vs : List Value) : ∀ (i : Nat) (acc : Array Value), Cells w b (o + i) vs →
    (loadCellsFrom ⟨b, o, none⟩ i vs.length acc).run P w = .ok (acc ++ vs.toArray) w := by
  induction vs with
  | nil => intro i acc _; simp [loadCellsFrom, pure, Sem.run]
  | cons v vs ih =>
    intro i acc h
    have h0 : w.cell? ⟨b, o + i, none⟩ = some v := by simpa using h 0 v (by simp)
    have hr : (load (⟨b, o + i, none⟩ : Addr)).run P w = .ok v w := by simp [load, Sem.run, h0]
    simp only [List.length_cons, loadCellsFrom, Sem.run_bind, add_lit, hr, Result.andThen_ok]
    rw [ih (i + 1) (acc.push v) (fun j u hj => by have := h (j + 1) u (by simpa using hj); rw [← this]; congr 2; omega)]
    simp

theorem run_loadVar_agg {P : Program} {w : World} {b o T n : Nat} {vs : List Value} (hA : AggT P T true) (hS : Sz P T n) (hl : vs.length = n) (hc : Cells w b o vs) :
    (loadVar T ⟨b, o, none⟩).run P w = .ok (.agg vs.toArray) w := by
  subst hl
  have := run_loadCellsFrom (P := P) vs 0 #[] (by simpa using hc)
  simp only [loadVar, Sem.run_bind, hA w, hS w, Result.andThen_ok, loadCells, if_true, this, Array.empty_append]
  rfl

theorem run_loadVar_one {P : Program} {w : World} {b o T : Nat} {v : Value} (hA : AggT P T false) (hc : w.cell? ⟨b, o, none⟩ = some v) :
    (loadVar T ⟨b, o, none⟩).run P w = .ok v w := by
  simp [loadVar, Sem.run_bind, hA w, Result.andThen_ok, load, Sem.run, hc]

/-! a store into a block that is known whole -/
structure Put (w w' : World) (b : Nat) : Prop where
  os : w'.os = w.os
  tape : w'.tape = w.tape
  output : w'.output = w.output
  size : w'.heap.size = w.heap.size
  other : ∀ k, k ≠ b → w'.heap[k]? = w.heap[k]?

theorem Put.below {w0 w w' : World} {b B : Nat} (h : Put w w' b) (hB : Below B w0 w) (hb : B ≤ b) : Below B w0 w' :=
  ⟨h.os.trans hB.os, h.tape.trans hB.tape, h.output.trans hB.output, by rw [h.size]; exact hB.size, fun k hk => (h.other k (by omega)).trans (hB.block k hk)⟩

theorem Put.blk {w w' : World} {b k : Nat} {o : Obj} (h : Put w w' b) (hk : w.heap[k]? = some o) (hne : k ≠ b) : w'.heap[k]? = some o := (h.other k hne).trans hk

/-- what stands in the cells behind 'vs' was written from 'off' on -/
def splice (cs : Array Value) (off : Nat) : List Value → Array Value
  | [] => cs
  | v :: vs => splice (cs.setIfInBounds off v) (off + 1) vs

theorem run_storeCells {P : Program} {b o T : Nat} (vs : List Value) (h1 : ∀ v ∈ vs, v.oneCell' = true) : ∀ (i : Nat) (cs : Array Value) (w : World), w.heap[b]? = some (.cells cs T (0, 0)) → o + i + vs.length ≤ cs.size →
    ∃ w', (storeCells ⟨b, o, none⟩ vs i).run P w = .ok () w' ∧ Put w w' b ∧ w'.heap[b]? = some (.cells (splice cs (o + i) vs) T (0, 0)) := by
  induction vs with
  | nil => intro i cs w hb _; exact ⟨w, by simp [storeCells, pure, Sem.run], ⟨rfl, rfl, rfl, rfl, fun _ _ => rfl⟩, hb⟩
  | cons v vs ih =>
    intro i cs w hb hl
    have hv : v.oneCell' = true := h1 v (by simp)
    simp only [List.length_cons] at hl
    have hc : w.cell? ⟨b, o + i, none⟩ = some (cs[o + i]'(by omega)) := cell_blk hb (by simp [Array.getElem?_eq_getElem (show o + i < cs.size by omega)])
    have hf : w.frozen? ⟨b, o + i, none⟩ = false := by simp [World.frozen?, hb]
    have hw : (w.setCell ⟨b, o + i, none⟩ v).heap[b]? = some (.cells (cs.setIfInBounds (o + i) v) T (0, 0)) := by
      have hlt : b < w.heap.size := (Array.getElem?_eq_some_iff.1 hb).1
      simp only [World.setCell, Array.getElem?_modify, if_true, hb, Option.map_some]
      rfl
    have hr : (store (⟨b, o + i, none⟩ : Addr) v).run P w = .ok () (w.setCell ⟨b, o + i, none⟩ v) := by
      cases v <;> simp_all [store, Sem.run, Value.oneCell']
    obtain ⟨w', hr', hp, hb'⟩ := ih (fun u hu => h1 u (by simp [hu])) (i + 1) (cs.setIfInBounds (o + i) v) (w.setCell ⟨b, o + i, none⟩ v) hw (by simp; omega)
    refine ⟨w', ?_, ⟨hp.os, hp.tape, hp.output, by rw [hp.size]; simp [World.setCell], fun k hk => (hp.other k hk).trans (Below.heap_setCell _ _ _ _ hk)⟩, ?_⟩
    · simp only [storeCells, Sem.run_bind, add_lit, hr, Result.andThen_ok, hr']
    · rw [hb']; simp [splice, Nat.add_assoc]

theorem run_storeVar {P : Program} {w : World} {b o T T' : Nat} {cs : Array Value} {v : Value} (hS : Sz P T v.cells.size) (hb : w.heap[b]? = some (.cells cs T' (0, 0))) (h1 : ∀ u ∈ v.cells.toList, u.oneCell' = true) (hl : o + v.cells.size ≤ cs.size) :
    ∃ w', (storeVar T ⟨b, o, none⟩ v).run P w = .ok () w' ∧ Put w w' b ∧ w'.heap[b]? = some (.cells (splice cs o v.cells.toList) T' (0, 0)) := by
  obtain ⟨w', hr, hp, hb'⟩ := run_storeCells (P := P) (o := o) v.cells.toList h1 0 cs w hb (by simpa using hl)
  refine ⟨w', ?_, hp, by simpa using hb'⟩
  simp [storeVar, Sem.run_bind, hS w, Result.andThen_ok, hr]

/-! new blocks -/
structure New (w w' : World) (b : Nat) (o : Obj) : Prop where
  ext : Below w.heap.size w w'
  eq : b = w.heap.size
  size : w'.heap.size = w.heap.size + 1
  blk : w'.heap[b]? = some o

theorem new_push (w : World) (o : Obj) : New w { w with heap := w.heap.push o } w.heap.size o :=
  ⟨(Below.refl _ w).alloc (Nat.le_refl _) o, rfl, by simp, by simp⟩

theorem run_newRow {P : Program} (w : World) (T : TypeId) (cs : Array Value) : (newRow T cs).run P w = .ok ⟨w.heap.size, 0, none⟩ { w with heap := w.heap.push (.cells cs T) } := by
  simp [newRow, newObj, Sem.run_bind, Sem.run, Result.andThen, pure]

/-! contracts -/
/-- The call returns, no loop's record is turned, and 'R' holds of what it returns and of the world behind it. -/
def Ret (P : Program) (f : FuncId) (args : Array Value) (w : World) (R : Value → World → Prop) : Prop := Calls P f args w fun e w' => ∃ v, e = .returned v ∧ (DK none w w' ∧ w.heap.size ≤ w'.heap.size) ∧ R v w'

theorem Ret.mono {P : Program} {f : FuncId} {args : Array Value} {w : World} {R R' : Value → World → Prop} (h : Ret P f args w R) (hr : ∀ v w', R v w' → R' v w') : Ret P f args w R' :=
  Calls.mono h fun e w' ⟨v, he, hd, hv⟩ => ⟨v, he, hd, hr v w' hv⟩

/-- Behind the body: what the results' variables hold. -/
def OutsAt (P : Program) (l : Fr) (w : World) : List ResultVar → List Value → Prop
  | [], [] => True
  | .tmp t :: r, v :: vs => l.look t = some v ∧ OutsAt P l w r vs
  | .cell a T :: r, v :: vs => (∃ p, l.look a = some (.pointer (some p)) ∧ (loadVar T p).run P w = .ok v w) ∧ OutsAt P l w r vs
  | _, _ => False

def tupleOf : List Value → Value
  | [v] => v
  | vs => .tuple vs.toArray

def retQ (P : Program) (rs : List ResultVar) (R : Value → World → Prop) : Post
  | .normal, l, w | .ret, l, w => ∃ vs, OutsAt P l w rs vs ∧ R (tupleOf vs) w
  | _, _, _ => False

section
variable {P : Program} {N : Ev} {K : Fr → World → Prop} {Q : Post} {l : Fr} {w : World}

def argFr : Nat → List Value → Fr
  | _, [] => []
  | i, v :: vs => (i, v) :: argFr (i + 1) vs

theorem argFr_look (vs : List Value) : ∀ i t v, (argFr i vs).look t = some v → i ≤ t ∧ vs[t - i]? = some v := by
  induction vs with
  | nil => intro i t v h; simp [argFr, Fr.look] at h
  | cons u vs ih =>
    intro i t v h
    rw [argFr, Fr.look_cons] at h
    split at h
    · rename_i e; subst e; cases h; simp
    · obtain ⟨h1, h2⟩ := ih (i + 1) t v h
      have : t - i = (t - (i + 1)) + 1 := by omega
      exact ⟨by omega, by rw [this]; simpa using h2⟩

def resOf (a : Act) : ResultVar → Sem Value
  | .tmp t => pure (a.tmps.getD t undef)
  | .cell x t => do loadVar t (← asAddr (a.tmps.getD x undef))

theorem outs_run {rs : List ResultVar} {a : Act} (ha : Holds N l a) (f : ResultVar → Sem Value) (hf : ∀ r, f r = resOf a r) : ∀ {vs : List Value}, OutsAt P l w rs vs → (rs.mapM f).run P w = .ok vs w := by
  induction rs with
  | nil => intro vs h; cases vs with
    | nil => simp [pure, Sem.run]
    | cons v vs => exact h.elim
  | cons r rs ih =>
    intro vs h
    cases vs with
    | nil => cases r <;> exact h.elim
    | cons v vs =>
      cases r with
      | tmp t =>
        obtain ⟨h1, h2⟩ := h
        have e : a.tmps.getD t undef = v := by simp [ha.slot t v h1]
        rw [List.mapM_cons]
        simp only [Sem.run_bind, Sem.run_pure, Result.andThen_ok, hf, resOf, e, ih h2]
      | cell x T =>
        obtain ⟨⟨p, h1, hp⟩, h2⟩ := h
        have e : a.tmps.getD x undef = .pointer (some p) := by simp [ha.slot x _ h1]
        have ea : (asAddr (a.tmps.getD x undef)).run P w = .ok p w := by rw [e]; rfl
        rw [List.mapM_cons]
        simp only [Sem.run_bind, Sem.run_pure, Result.andThen_ok, hf, resOf, ea, hp, ih h2]

theorem outs_tmps {rs : List ResultVar} {vs : List Value} {a : Act} (ha : Holds N l a) (h : OutsAt P l w rs vs) (fn : Func) (hr : fn.results = rs.toArray) :
    (results fn a.tmps).run P w = .ok (tupleOf vs) w := by
  simp only [results, hr, Sem.run_bind, List.mapM_toArray]
  rw [map_eq_pure_bind, Sem.run_bind, outs_run (P := P) (w := w) ha _ (fun r => by cases r <;> rfl) h]
  simp only [Result.andThen_ok, Sem.run_pure]
  match vs with
  | [] => rfl
  | [v] => rfl
  | v :: u :: r => simp [tupleOf]

theorem args_hold {n : Nat} {ro : Option Nat} {w0 : World} {ex : Option Nat} {mk : Bool} {args : List Value} {k : Nat} (hk : k = n - args.toArray.size) (hle : args.length ≤ n) {ds : List Deferred} :
    Holds ⟨n, ro, w0, ex, mk⟩ (argFr 0 args) { tmps := args.toArray ++ Array.replicate k undef, defers := ds } := by
  refine ⟨by subst hk; simp; omega, ?_⟩
  intro t v ht
  obtain ⟨_, h2⟩ := argFr_look _ _ _ _ ht
  have hlt : t < args.length := by
    rcases Nat.lt_or_ge t args.length with h | h
    · exact h
    · rw [List.getElem?_eq_none (by simpa using h)] at h2; cases h2
  rw [Array.getElem?_append_left (by simpa using hlt)]
  simpa using h2

theorem good_start {n : Nat} {w : World} {ex : Option Nat} {mk : Bool} {tm : Array Value} (hx : ∀ x, ex = some x → x < w.heap.size := by intro x h; cases h) : Good ⟨n, none, w, ex, mk⟩ { tmps := tm, defers := [] } w :=
  ⟨DK.refl, Nat.le_refl _, hx, ⟨[], rfl, fun _ => rfl, List.nodup_nil, fun D h => by cases h⟩, fun l h => by cases h⟩

/-- Into a function. -/
theorem ret_of {f : FuncId} {fn : Func} {c : Code} {n : Nat} {args : List Value} {R : Value → World → Prop} (hf : P.funcs[f]? = some fn) (hb : fn.body = some c) (hN : fn.ntmps = n) (hle : Nat.ble args.length n = true) {rs : List ResultVar} (hr : fn.results = rs.toArray)
    (h : WC P ⟨n, none, w, none, false⟩ c (retQ P rs R) (argFr 0 args) w) : Ret P f args.toArray w R := by
  refine (callsIn_wide (n := 0)).1 (callsIn_of_wp (F := Fence.wide) hf hb trivial ?_)
  have hle' : args.length ≤ n := by simpa using hle
  refine wpIn_mono (h _ (args_hold (by rw [hN]) hle') good_start) ?_
  rintro e a' w' ⟨l', hl', g, q⟩
  have hd : a'.defers = [] := by
    obtain ⟨Ds, h1, h2, _⟩ := g.marks
    rw [h1, h2 rfl]; rfl
  cases e with
  | normal => obtain ⟨vs, ho, hR⟩ := q; exact ⟨hd, _, outs_tmps hl' ho fn hr, _, rfl, ⟨g.dk, g.size⟩, hR⟩
  | ret => obtain ⟨vs, ho, hR⟩ := q; exact ⟨hd, _, outs_tmps hl' ho fn hr, _, rfl, ⟨g.dk, g.size⟩, hR⟩
  | _ => exact q.elim
end
end Go.Eng
