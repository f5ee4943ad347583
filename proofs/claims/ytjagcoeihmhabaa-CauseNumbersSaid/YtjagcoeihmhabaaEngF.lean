/- Lemmas for a law of the seat: what functions of the program do, each stated as a contract of its own (module EngF). -/
import Derived.Test.YtjagcoeihmhabaaEngE
import Derived.Laws.StructEq
import Derived.ChangeKeysEq
set_option linter.unusedVariables false
set_option linter.unusedSimpArgs false
namespace Go.Eng
open Go.RowKit Go.Shelf Go.Proofs

/-! '==' of flat structs and arrays -/
def cellEq : Value → Value → Bool
  | .int _ a, .int _ b => decide (a = b)
  | .string a, .string b => decide (a = b)
  | .bool a, .bool b => decide (a = b)
  | _, _ => false
def andAll : List Bool → Bool
  | [] => true
  | [b] => b
  | b :: l => b && andAll l
def basicB (P : Program) (T : TypeId) : Bool := match P.underlying T with
  | some (.int _) | some .string | some .bool => true
  | _ => false
/-- two cells that may be compared -/
def pairB (P : Program) (T : TypeId) (x y : Value) : Bool := match P.underlying T, x, y with
  | some (.int _), .int k _, .int k' _ => decide (k = k')
  | some .string, .string _, .string _ => true
  | some .bool, .bool _, .bool _ => true
  | _, _, _ => false

section
variable {P : Program} {w : World}
theorem run_pair {d : Nat} {T : TypeId} {x y : Value} (h : pairB P T x y = true) : (Op.equalIn (d + 1) T x y).run P w = .ok (cellEq x y) w := by
  unfold pairB at h
  split at h
  · rename_i k0 k a k' b hu
    have hk : k = k' := by simpa using h
    subst hk
    rw [run_equalIn_int w d T k k0 a b hu]; rfl
  · rename_i a b hu
    rw [run_equalIn_string w d T a b hu, bytes_beq]; rfl
  · rename_i a b hu
    rw [run_equalIn_bool' w d T a b hu]
    cases a <;> cases b <;> rfl
  · cases h
theorem run_part {T : TypeId} {xs : Array Value} {o : Nat} {v : Value} (hb : basicB P T = true) (hv : xs[o]? = some v) : (part T xs o).run P w = .ok v w := by
  have hA : (isAgg T).run P w = .ok false w := by
    unfold basicB at hb
    split at hb
    · rename_i k hu; simp [isAgg, Sem.run_bind, run_underlying hu]
    · rename_i hu; simp [isAgg, Sem.run_bind, run_underlying hu]
    · rename_i hu; simp [isAgg, Sem.run_bind, run_underlying hu]
    · cases hb
  simp only [part, Sem.run_bind, hA, Result.andThen_ok, Bool.false_eq_true, if_false, hv, Sem.run_pure]

/-- the fields of a flat struct, from a place on -/
def flatFs (P : Program) : Nat → List Field → Bool
  | _, [] => true
  | i, f :: fs => (f.name != "_") && Nat.beq f.offset i && basicB P f.type && flatFs P (i + 1) fs
def pairsFs (P : Program) : List Field → List Value → List Value → Bool
  | f :: fs, x :: xs, y :: ys => pairB P f.type x y && pairsFs P fs xs ys
  | [], [], [] => true
  | _, _, _ => false
def eqCells : List Value → List Value → List Bool
  | x :: xs, y :: ys => cellEq x y :: eqCells xs ys
  | _, _ => []

theorem run_eqFields {d : Nat} {X Y : Array Value} {fs : List Field} : ∀ {i : Nat} {xs ys : List Value}, flatFs P i fs = true → pairsFs P fs xs ys = true → X.toList.drop i = xs → Y.toList.drop i = ys →
    (Op.eqFields (d + 1) X Y fs).run P w = .ok (andAll (eqCells xs ys)) w := by
  induction fs with
  | nil =>
    intro i xs ys h1 h2 _ _
    match xs, ys, h2 with
    | [], [], _ => simp [Op.eqFields, eqCells, andAll]
  | cons f fs ih =>
    intro i xs ys h1 h2 hX hY
    match xs, ys, h2 with
    | x :: xs, y :: ys, h2 =>
      simp only [flatFs, Bool.and_eq_true] at h1
      obtain ⟨⟨⟨hn, ho⟩, hb⟩, hr⟩ := h1
      have ho' : f.offset = i := Nat.eq_of_beq_eq_true ho
      have hn' : f.name ≠ "_" := by simpa using hn
      simp only [pairsFs, Bool.and_eq_true] at h2
      have hx : X[i]? = some x := by
        have := congrArg (fun l => l[0]?) hX
        simpa using this
      have hy : Y[i]? = some y := by
        have := congrArg (fun l => l[0]?) hY
        simpa using this
      have hX' : X.toList.drop (i + 1) = xs := by
        have := congrArg List.tail hX
        simpa using this
      have hY' : Y.toList.drop (i + 1) = ys := by
        have := congrArg List.tail hY
        simpa using this
      have hrest := ih hr h2.2 hX' hY'
      rw [Op.eqFields, if_pos hn']
      simp only [Sem.run_bind, ho', run_part hb hx, run_part hb hy, run_pair h2.1, Result.andThen_ok]
      cases hc : cellEq x y with
      | false =>
        simp only [Bool.not_false, if_true, Sem.run_pure]
        cases hrr : eqCells xs ys with
        | nil => simp [eqCells, hc, hrr, andAll]
        | cons b l => simp [eqCells, hc, hrr, andAll]
      | true =>
        simp only [Bool.not_true, Bool.false_eq_true, if_false, hrest]
        cases hrr : eqCells xs ys with
        | nil => simp [eqCells, hc, hrr, andAll]
        | cons b l => simp [eqCells, hc, hrr, andAll]

theorem run_eqFlat {d : Nat} {t : TypeId} {fs : List Field} {X Y : List Value} (hu : P.underlying t = some (.struct fs.toArray)) (hp : P.stoodInHeld t = false) (hf : flatFs P 0 fs = true) (hx : pairsFs P fs X Y = true) :
    (Op.equalIn (d + 2) t (.agg X.toArray) (.agg Y.toArray)).run P w = .ok (andAll (eqCells X Y)) w := by
  have hfo : P.fieldsOf t = fs.toArray := by simp [Program.fieldsOf, hu]
  rw [run_equalIn_struct w (d + 1) t _ _ (by rw [hfo]; exact hu) hp, hfo]
  exact run_eqFields hf hx (by simp) (by simp)

def pairsA (P : Program) (e : TypeId) : List Value → List Value → Bool
  | x :: xs, y :: ys => pairB P e x y && pairsA P e xs ys
  | [], [] => true
  | _, _ => false
theorem run_eqItems {d : Nat} {e : TypeId} {X Y : Array Value} (hb : basicB P e = true) : ∀ {n i : Nat} {xs ys : List Value}, xs.length = n → pairsA P e xs ys = true → X.toList.drop i = xs → Y.toList.drop i = ys →
    (Op.eqItems (d + 1) e 1 X Y (List.range' i n)).run P w = .ok (andAll (eqCells xs ys)) w := by
  intro n
  induction n with
  | zero =>
    intro i xs ys hn h2 _ _
    match xs, ys, hn, h2 with
    | [], [], _, _ => simp [Op.eqItems, eqCells, andAll]
  | succ n ih =>
    intro i xs ys hn h2 hX hY
    match xs, ys, hn, h2 with
    | x :: xs, y :: ys, hn, h2 =>
      simp only [pairsA, Bool.and_eq_true] at h2
      have hx : X[i]? = some x := by
        have := congrArg (fun l => l[0]?) hX
        simpa using this
      have hy : Y[i]? = some y := by
        have := congrArg (fun l => l[0]?) hY
        simpa using this
      have hX' : X.toList.drop (i + 1) = xs := by
        have := congrArg List.tail hX
        simpa using this
      have hY' : Y.toList.drop (i + 1) = ys := by
        have := congrArg List.tail hY
        simpa using this
      have hrest := ih (by simpa using hn) h2.2 hX' hY'
      rw [List.range'_succ, Op.eqItems]
      simp only [Sem.run_bind, Nat.mul_one, run_part hb hx, run_part hb hy, run_pair h2.1, Result.andThen_ok]
      cases hc : cellEq x y with
      | false =>
        simp only [Bool.not_false, if_true, Sem.run_pure]
        cases hrr : eqCells xs ys with
        | nil => simp [eqCells, hc, hrr, andAll]
        | cons b l => simp [eqCells, hc, hrr, andAll]
      | true =>
        simp only [Bool.not_true, Bool.false_eq_true, if_false, hrest]
        cases hrr : eqCells xs ys with
        | nil => simp [eqCells, hc, hrr, andAll]
        | cons b l => simp [eqCells, hc, hrr, andAll]
theorem run_eqArr {d : Nat} {t e : TypeId} {n : Nat} {X Y : List Value} (hu : P.underlying t = some (.array n e)) (hb : basicB P e = true) (hc : P.cellsOf e = 1) (hi : (P.info? e).isSome = true) (hn : Nat.beq X.length n = true) (hx : pairsA P e X Y = true) :
    (Op.equalIn (d + 2) t (.agg X.toArray) (.agg Y.toArray)).run P w = .ok (andAll (eqCells X Y)) w := by
  obtain ⟨i, hi⟩ := Option.isSome_iff_exists.1 hi
  rw [run_equalIn_array w (d + 1) _ _ hu hi, hc, List.range_eq_range']
  exact run_eqItems hb (Nat.eq_of_beq_eq_true hn) hx (by simp) (by simp)

/-- Two aggregates of type t are compared cell by cell. -/
def EqT (P : Program) (t : TypeId) (X Y : List Value) : Prop := P.eqGuardType P.depth t = false ∧ ∀ w, (Op.equalIn 10000 t (.agg X.toArray) (.agg Y.toArray)).run P w = .ok (andAll (eqCells X Y)) w
end
section
variable {P : Program} {N : Ev} {K : Fr → World → Prop} {Q : Post} {l : Fr} {w : World}
variable {d : Nat} {T U : TypeId} {pos : String} {aft : Array Edge} {g : Option (Nat × Bool)}
theorem op_eqlA {x y : Operand} {X Y : List Value} {T' : TypeId} {b : Bool} (hx : evo l x = some (.agg X.toArray)) (hy : evo l y = some (.agg Y.toArray)) (h : EqT P T X Y) (hb : andAll (eqCells X Y) = b) (hN : Nat.blt d N.n = true) (k : K ((d, .bool b) :: l) w) :
    OpW P N ⟨some d, .binOp .eql T x y T', U, pos, aft, g⟩ K Q l w :=
  op_bin hx hy (fun w => run_eqGuard_agg w .eql T x y _ _ h.1) (fun w => by rw [run_eql_struct, h.2 w, hb]; rfl) hN k
theorem op_neqA {x y : Operand} {X Y : List Value} {T' : TypeId} {b : Bool} (hx : evo l x = some (.agg X.toArray)) (hy : evo l y = some (.agg Y.toArray)) (h : EqT P T X Y) (hb : andAll (eqCells X Y) = b) (hN : Nat.blt d N.n = true) (k : K ((d, .bool (!b)) :: l) w) :
    OpW P N ⟨some d, .binOp .neq T x y T', U, pos, aft, g⟩ K Q l w :=
  op_bin hx hy (fun w => run_eqGuard_agg w .neq T x y _ _ h.1) (fun w => by rw [run_neq_struct, h.2 w, hb]; rfl) hN k
theorem op_eqlb {x y : Operand} {a b : Bool} {T' : TypeId} (hU : Und P T .bool) (hx : evo l x = some (.bool a)) (hy : evo l y = some (.bool b)) (hN : Nat.blt d N.n = true) (k : K ((d, .bool (decide (a = b))) :: l) w) :
    OpW P N ⟨some d, .binOp .eql T x y T', U, pos, aft, g⟩ K Q l w :=
  op_bin hx hy (fun w => by simp [eqGuard]) (fun w => by
    simp only [binOp, Op.equal, Sem.run_bind]
    rw [show Op.maxDepth = 9999 + 1 from rfl, run_equalIn_bool' w 9999 T a b hU]
    cases a <;> cases b <;> rfl) hN k
theorem op_neqb {x y : Operand} {a b : Bool} {T' : TypeId} (hU : Und P T .bool) (hx : evo l x = some (.bool a)) (hy : evo l y = some (.bool b)) (hN : Nat.blt d N.n = true) (k : K ((d, .bool (!decide (a = b))) :: l) w) :
    OpW P N ⟨some d, .binOp .neq T x y T', U, pos, aft, g⟩ K Q l w :=
  op_bin hx hy (fun w => by simp [eqGuard]) (fun w => by
    simp only [binOp, Op.equal, Sem.run_bind]
    rw [show Op.maxDepth = 9999 + 1 from rfl, run_equalIn_bool' w 9999 T a b hU]
    cases a <;> cases b <;> rfl) hN k
end
end Go.Eng
