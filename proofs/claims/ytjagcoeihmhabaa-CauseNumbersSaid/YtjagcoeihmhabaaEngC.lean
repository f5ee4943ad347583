/- Lemmas for a law of the seat: what functions of the program do, each stated as a contract of its own (module EngC). -/
import Derived.Test.YtjagcoeihmhabaaEngB
set_option linter.unusedVariables false
set_option linter.unusedSimpArgs false
namespace Go.Eng
open Go.RowKit Go.Shelf Go.Proofs

section
variable {P : Program} {N : Ev} {K : Fr → World → Prop} {Q : Post} {l : Fr} {w : World}

def nodef (o : Oper) : Bool := match o.op with
  | .defer _ => false
  | _ => true
theorem semAt_nodef {ro : Option Nat} {ρ : Operand → Value} {o : Oper} (h : nodef o = true) : Oper.semAt ro ρ o = execOp ρ o :=
  Oper.semAt_eq ro ρ o (fun c hc => by simp [nodef, hc] at h)

/-- An operation that gives a value. -/
theorem op_val {o : Oper} {d : Nat} {v : Value} {w' : World} (hd : o.dst = some d) (hN : Nat.blt d N.n = true)
    (hrun : ∀ a, Holds N l a → (execOp a.eval o).run P w = .ok (.value v) w') (k : K ((d, v) :: l) w')
    (hw : DK N.ex w w' ∧ w.heap.size ≤ w'.heap.size := by exact ⟨DK.refl, Nat.le_refl _⟩) (hf : nodef o = true := by rfl) : OpW P N o K Q l w := by
  intro a ha hg
  refine ⟨fun _ _ => trivial, ?_⟩
  show o.uponIn (FW N.ro) 0 P a _ _ ((o.semAt N.ro a.eval).run P w)
  rw [semAt_nodef hf, hrun a ha, Oper.uponIn_value, hd]
  exact ⟨_, ha.put (by simpa [Nat.blt_eq] using hN) v, hg.step rfl hw.1 hw.2, k⟩

/-- An operation that gives nothing (a store). -/
theorem op_skip {o : Oper} {w' : World} (hd : o.dst = none)
    (hrun : ∀ a, Holds N l a → (execOp a.eval o).run P w = .ok .skip w') (k : K l w')
    (hw : DK N.ex w w' ∧ w.heap.size ≤ w'.heap.size := by exact ⟨DK.refl, Nat.le_refl _⟩) (hf : nodef o = true := by rfl) : OpW P N o K Q l w := by
  intro a ha hg
  refine ⟨fun _ _ => trivial, ?_⟩
  show o.uponIn (FW N.ro) 0 P a _ _ ((o.semAt N.ro a.eval).run P w)
  rw [semAt_nodef hf, hrun a ha, Oper.uponIn_skip, hd]
  exact ⟨_, ha, hg.step rfl hw.1 hw.2, k⟩

theorem dk_new {ex : Option Nat} {w w' : World} {b : Nat} {o : Obj} (h : New w w' b o) : DK ex w w' ∧ w.heap.size ≤ w'.heap.size := ⟨DK.of_below h.ext, by rw [h.size]; omega⟩
theorem dk_put {ex : Option Nat} {w w' : World} {b : Nat} {o : Obj} (h : Put w w' b) (hb : w.heap[b]? = some o) (ho : ctl o = false) : DK ex w w' ∧ w.heap.size ≤ w'.heap.size := by
  refine ⟨fun k o' hk hc _ => ?_, by rw [h.size]; exact Nat.le_refl _⟩
  by_cases e : k = b
  · subst e
    rw [hb] at hk; cases hk; rw [ho] at hc; cases hc
  · exact (h.other k e).trans hk

variable {d : Nat} {T U : TypeId} {pos : String} {aft : Array Edge} {g : Option (Nat × Bool)}

theorem op_move {x : Operand} {v : Value} (hx : evo l x = some v) (hN : Nat.blt d N.n = true) (k : K ((d, v) :: l) w) :
    OpW P N ⟨some d, .move x, T, pos, aft, g⟩ K Q l w :=
  op_val rfl hN (fun a ha => by simp [execOp, ha.eval hx]) k

theorem op_assign {x : Operand} {v : Value} (hx : evo l x = some v) (hN : Nat.blt d N.n = true) (k : K ((d, v) :: l) w) :
    OpW P N ⟨some d, .assign x, T, pos, aft, g⟩ K Q l w :=
  op_val rfl hN (fun a ha => by simp [execOp, ha.eval hx]) k

theorem op_pick_t {c x y : Operand} {v : Value} (hc : evo l c = some (.bool true)) (hx : evo l x = some v) (hN : Nat.blt d N.n = true) (k : K ((d, v) :: l) w) :
    OpW P N ⟨some d, .pick c x y, T, pos, aft, g⟩ K Q l w :=
  op_val rfl hN (fun a ha => by simp [execOp, ha.eval hx, ha.eval hc, asBool]) k

theorem op_pick_f {c x y : Operand} {v : Value} (hc : evo l c = some (.bool false)) (hx : evo l y = some v) (hN : Nat.blt d N.n = true) (k : K ((d, v) :: l) w) :
    OpW P N ⟨some d, .pick c x y, T, pos, aft, g⟩ K Q l w :=
  op_val rfl hN (fun a ha => by simp [execOp, ha.eval hx, ha.eval hc, asBool]) k

theorem op_extract {i : Nat} {x : Operand} {vs : Array Value} {v : Value} (hx : evo l x = some (.tuple vs)) (hv : vs[i]? = some v) (hN : Nat.blt d N.n = true) (k : K ((d, v) :: l) w) :
    OpW P N ⟨some d, .extract x i, T, pos, aft, g⟩ K Q l w :=
  op_val rfl hN (fun a ha => by simp [execOp, ha.eval hx, Instr.extract, hv]) k

/-! binary operators -/
theorem op_bin {op : BinOp} {x y : Operand} {vx vy v : Value} (hx : evo l x = some vx) (hy : evo l y = some vy)
    (hg : ∀ w, (eqGuard op T x y vx vy).run P w = .ok () w) (hr : ∀ w, (binOp op T vx vy).run P w = .ok v w) (hN : Nat.blt d N.n = true) (k : K ((d, v) :: l) w) {T' : TypeId} :
    OpW P N ⟨some d, .binOp op T x y T', U, pos, aft, g⟩ K Q l w :=
  op_val rfl hN (fun s hs => by simp [execOp, hs.eval hx, hs.eval hy, Sem.run_bind, hg w, hr w, Result.andThen_ok]) k

theorem wrap_in {k : IntKind} {n : Int} (h : k.min ≤ n ∧ n ≤ k.max) : k.wrap n = n := by
  cases k <;> simp [IntKind.min, IntKind.max, IntKind.wrap, IntKind.bits, IntKind.signed] at * <;> omega

variable {x y : Operand} {kd : IntKind} {a b : Int} {T' : TypeId}

theorem op_addw (hx : evo l x = some (.int kd a)) (hy : evo l y = some (.int kd b)) (hN : Nat.blt d N.n = true) (k : K ((d, .int kd (kd.wrap (a + b))) :: l) w) :
    OpW P N ⟨some d, .binOp .add T x y T', U, pos, aft, g⟩ K Q l w :=
  op_bin hx hy (fun w => by simp [eqGuard]) (fun w => by simp [binOp, Op.intArith]) hN k
theorem op_subw (hx : evo l x = some (.int kd a)) (hy : evo l y = some (.int kd b)) (hN : Nat.blt d N.n = true) (k : K ((d, .int kd (kd.wrap (a - b))) :: l) w) :
    OpW P N ⟨some d, .binOp .sub T x y T', U, pos, aft, g⟩ K Q l w :=
  op_bin hx hy (fun w => by simp [eqGuard]) (fun w => by simp [binOp, Op.intArith]) hN k
theorem op_mulw (hx : evo l x = some (.int kd a)) (hy : evo l y = some (.int kd b)) (hN : Nat.blt d N.n = true) (k : K ((d, .int kd (kd.wrap (a * b))) :: l) w) :
    OpW P N ⟨some d, .binOp .mul T x y T', U, pos, aft, g⟩ K Q l w :=
  op_bin hx hy (fun w => by simp [eqGuard]) (fun w => by simp [binOp, Op.intArith]) hN k

/-- int's own sums, within its bounds. -/
theorem wrap_i64 {n : Int} (h : -9223372036854775808 ≤ n ∧ n ≤ 9223372036854775807) : IntKind.i64.wrap n = n := wrap_in h
theorem op_add {r : Int} (hx : evo l x = some (.int .i64 a)) (hy : evo l y = some (.int .i64 b)) (hr : a + b = r) (hb : -9223372036854775808 ≤ r ∧ r ≤ 9223372036854775807) (hN : Nat.blt d N.n = true) (k : K ((d, .int .i64 r) :: l) w) :
    OpW P N ⟨some d, .binOp .add T x y T', U, pos, aft, g⟩ K Q l w := by
  subst hr; exact op_addw hx hy hN (by rw [wrap_i64 hb]; exact k)
theorem op_sub {r : Int} (hx : evo l x = some (.int .i64 a)) (hy : evo l y = some (.int .i64 b)) (hr : a - b = r) (hb : -9223372036854775808 ≤ r ∧ r ≤ 9223372036854775807) (hN : Nat.blt d N.n = true) (k : K ((d, .int .i64 r) :: l) w) :
    OpW P N ⟨some d, .binOp .sub T x y T', U, pos, aft, g⟩ K Q l w := by
  subst hr; exact op_subw hx hy hN (by rw [wrap_i64 hb]; exact k)
theorem op_mul {r : Int} (hx : evo l x = some (.int .i64 a)) (hy : evo l y = some (.int .i64 b)) (hr : a * b = r) (hb : -9223372036854775808 ≤ r ∧ r ≤ 9223372036854775807) (hN : Nat.blt d N.n = true) (k : K ((d, .int .i64 r) :: l) w) :
    OpW P N ⟨some d, .binOp .mul T x y T', U, pos, aft, g⟩ K Q l w := by
  subst hr; exact op_mulw hx hy hN (by rw [wrap_i64 hb]; exact k)

theorem op_lss (hx : evo l x = some (.int kd a)) (hy : evo l y = some (.int kd b)) (hN : Nat.blt d N.n = true) (k : K ((d, .bool (decide (a < b))) :: l) w) :
    OpW P N ⟨some d, .binOp .lss T x y T', U, pos, aft, g⟩ K Q l w :=
  op_bin hx hy (fun w => by simp [eqGuard]) (fun w => by simp [binOp, Op.intCmp]) hN k
theorem op_leq (hx : evo l x = some (.int kd a)) (hy : evo l y = some (.int kd b)) (hN : Nat.blt d N.n = true) (k : K ((d, .bool (decide (a ≤ b))) :: l) w) :
    OpW P N ⟨some d, .binOp .leq T x y T', U, pos, aft, g⟩ K Q l w :=
  op_bin hx hy (fun w => by simp [eqGuard]) (fun w => by simp [binOp, Op.intCmp]) hN k
theorem op_gtr (hx : evo l x = some (.int kd a)) (hy : evo l y = some (.int kd b)) (hN : Nat.blt d N.n = true) (k : K ((d, .bool (decide (b < a))) :: l) w) :
    OpW P N ⟨some d, .binOp .gtr T x y T', U, pos, aft, g⟩ K Q l w :=
  op_bin hx hy (fun w => by simp [eqGuard]) (fun w => by simp [binOp, Op.intCmp]) hN k
theorem op_geq (hx : evo l x = some (.int kd a)) (hy : evo l y = some (.int kd b)) (hN : Nat.blt d N.n = true) (k : K ((d, .bool (decide (b ≤ a))) :: l) w) :
    OpW P N ⟨some d, .binOp .geq T x y T', U, pos, aft, g⟩ K Q l w :=
  op_bin hx hy (fun w => by simp [eqGuard]) (fun w => by simp [binOp, Op.intCmp]) hN k
theorem op_eql (hx : evo l x = some (.int kd a)) (hy : evo l y = some (.int kd b)) (hN : Nat.blt d N.n = true) (k : K ((d, .bool (decide (a = b))) :: l) w) :
    OpW P N ⟨some d, .binOp .eql T x y T', U, pos, aft, g⟩ K Q l w :=
  op_bin hx hy (fun w => by simp [eqGuard]) (fun w => by simp [binOp, Op.intCmp]; rfl) hN k
theorem op_neq (hx : evo l x = some (.int kd a)) (hy : evo l y = some (.int kd b)) (hN : Nat.blt d N.n = true) (k : K ((d, .bool (!decide (a = b))) :: l) w) :
    OpW P N ⟨some d, .binOp .neq T x y T', U, pos, aft, g⟩ K Q l w :=
  op_bin hx hy (fun w => by simp [eqGuard]) (fun w => by simp [binOp, Op.intCmp]; rfl) hN k

theorem bytes_beq (s t : ByteArray) : (s.toList == t.toList) = decide (s = t) := by
  have h : s.toList = t.toList ↔ s = t := by
    constructor
    · intro h
      rw [ByteArray.toList_eq, ByteArray.toList_eq] at h
      cases s; cases t; simp at h; subst h; rfl
    · rintro rfl; rfl
  by_cases e : s = t
  · subst e; simp
  · simp [e, h]
theorem op_eqls {s t : ByteArray} (hx : evo l x = some (.string s)) (hy : evo l y = some (.string t)) (hN : Nat.blt d N.n = true) (k : K ((d, .bool (decide (s = t))) :: l) w) :
    OpW P N ⟨some d, .binOp .eql T x y T', U, pos, aft, g⟩ K Q l w :=
  op_bin hx hy (fun w => by simp [eqGuard]) (fun w => by simp [binOp, Op.stringOp, bytes_beq]) hN k
theorem op_neqs {s t : ByteArray} (hx : evo l x = some (.string s)) (hy : evo l y = some (.string t)) (hN : Nat.blt d N.n = true) (k : K ((d, .bool (!decide (s = t))) :: l) w) :
    OpW P N ⟨some d, .binOp .neq T x y T', U, pos, aft, g⟩ K Q l w :=
  op_bin hx hy (fun w => by simp [eqGuard]) (fun w => by simp [binOp, Op.stringOp, bytes_beq]) hN k

theorem op_not {c : Bool} (hx : evo l x = some (.bool c)) (hN : Nat.blt d N.n = true) (k : K ((d, .bool (!c)) :: l) w) :
    OpW P N ⟨some d, .unOp .not T x, U, pos, aft, g⟩ K Q l w :=
  op_val rfl hN (fun s hs => by simp [execOp, hs.eval hx, Op.unary]) k

/-! lengths -/
theorem op_len_slice {A : Option Addr} {n c e : Nat} {ts : Array TypeId} {cl : Array Operand} (hc : cl = #[x]) (ht : ts = #[T]) (hU : Und P T (.slice e)) (hx : evo l x = some (.slice A n c)) (hN : Nat.blt d N.n = true) (k : K ((d, .int .i64 n) :: l) w) :
    OpW P N ⟨some d, .call ⟨.builtin .len, cl, ts⟩, U, pos, aft, g⟩ K Q l w := by
  subst hc ht
  refine op_val rfl hN (fun s hs => ?_) k
  simp [execOp, resolve, invoke, builtin, Builtin.len_, hs.eval hx, run_underlying hU, goInt]

theorem op_len_str {s : ByteArray} {ts : Array TypeId} {cl : Array Operand} (hc : cl = #[x]) (ht : ts = #[T]) (hU : Und P T .string) (hx : evo l x = some (.string s)) (hN : Nat.blt d N.n = true) (k : K ((d, .int .i64 s.size) :: l) w) :
    OpW P N ⟨some d, .call ⟨.builtin .len, cl, ts⟩, U, pos, aft, g⟩ K Q l w := by
  subst hc ht
  refine op_val rfl hN (fun a ha => ?_) k
  simp [execOp, resolve, invoke, builtin, Builtin.len_, ha.eval hx, run_underlying hU, goInt]

theorem op_min {ts : Array TypeId} {cl : Array Operand} (hc : cl = #[x, y]) (hx : evo l x = some (.int kd a)) (hy : evo l y = some (.int kd b)) (hN : Nat.blt d N.n = true) (k : K ((d, .int kd (if b < a then b else a)) :: l) w) :
    OpW P N ⟨some d, .call ⟨.builtin .min, cl, ts⟩, U, pos, aft, g⟩ K Q l w := by
  subst hc
  refine op_val rfl hN (fun s hs => ?_) k
  simp [execOp, resolve, invoke, builtin, Builtin.min_, Builtin.min2, hs.eval hx, hs.eval hy]
theorem op_max {ts : Array TypeId} {cl : Array Operand} (hc : cl = #[x, y]) (hx : evo l x = some (.int kd a)) (hy : evo l y = some (.int kd b)) (hN : Nat.blt d N.n = true) (k : K ((d, .int kd (if b > a then b else a)) :: l) w) :
    OpW P N ⟨some d, .call ⟨.builtin .max, cl, ts⟩, U, pos, aft, g⟩ K Q l w := by
  subst hc
  refine op_val rfl hN (fun s hs => ?_) k
  simp [execOp, resolve, invoke, builtin, Builtin.max_, Builtin.max2, hs.eval hx, hs.eval hy]

/-! memory -/
theorem op_load1 {b o : Nat} {v : Value} (hx : evo l x = some (.pointer (some ⟨b, o, none⟩))) (hA : AggT P T false) (hc : w.cell? ⟨b, o, none⟩ = some v) (hN : Nat.blt d N.n = true) (k : K ((d, v) :: l) w) :
    OpW P N ⟨some d, .load T x, U, pos, aft, g⟩ K Q l w :=
  op_val rfl hN (fun s hs => by simp [execOp, hs.eval hx, Instr.loadAt, Instr.sureAddr, run_loadVar_one hA hc]) k

theorem op_loadN {b o n : Nat} {vs : List Value} (hx : evo l x = some (.pointer (some ⟨b, o, none⟩))) (hA : AggT P T true) (hS : Sz P T n) (hl : vs.length = n) (hc : Cells w b o vs) (hN : Nat.blt d N.n = true) (k : K ((d, .agg vs.toArray) :: l) w) :
    OpW P N ⟨some d, .load T x, U, pos, aft, g⟩ K Q l w :=
  op_val rfl hN (fun s hs => by simp [execOp, hs.eval hx, Instr.loadAt, Instr.sureAddr, run_loadVar_agg hA hS hl hc]) k

def FieldAt (P : Program) (T f off : Nat) : Prop := ∀ b o w, (Instr.fieldAt T (.pointer (some ⟨b, o, none⟩)) f).run P w = .ok (.pointer (some ⟨b, o + off, none⟩)) w
theorem op_fieldAddr {b o f off : Nat} (hx : evo l x = some (.pointer (some ⟨b, o, none⟩))) (hf : FieldAt P T f off) (hN : Nat.blt d N.n = true) (k : K ((d, .pointer (some ⟨b, o + off, none⟩)) :: l) w) :
    OpW P N ⟨some d, .fieldAddr T x f, U, pos, aft, g⟩ K Q l w :=
  op_val rfl hN (fun s hs => by simp [execOp, hs.eval hx, hf b o w]) k

theorem op_indexAddr {A : Option Addr} {b o n c e sz j : Nat} {i : Int} (hx : evo l x = some (.slice A n c)) (hy : evo l y = some (.int kd i)) (hU : Und P T (.slice e)) (hS : Sz P e sz) (hA : A = some ⟨b, o, none⟩) (hj : i = (j : Int)) (hlt : j < n)
    (hN : Nat.blt d N.n = true) (k : K ((d, .pointer (some ⟨b, o + j * sz, none⟩)) :: l) w) :
    OpW P N ⟨some d, .indexAddr T x y, U, pos, aft, g⟩ K Q l w := by
  subst hA hj
  refine op_val rfl hN (fun s hs => ?_) k
  have h1 : (0 : Int) ≤ (j : Int) ∧ (j : Int) < (n : Int) := by omega
  simp [execOp, hs.eval hx, hs.eval hy, Instr.indexAt, asIntOf, run_underlying hU, hS w, add_lit, hlt]

theorem op_box {v : Value} (hx : evo l x = some v) (hN : Nat.blt d N.n = true) (k : ∀ w' b, New w w' b (.cells v.cells T) → K ((d, .pointer (some ⟨b, 0, none⟩)) :: l) w') :
    OpW P N ⟨some d, .box T x, U, pos, aft, g⟩ K Q l w :=
  op_val rfl hN (fun s hs => by simp [execOp, hs.eval hx, Instr.box, newVar, run_newRow]) (k _ _ (new_push w _)) (dk_new (new_push w _))

theorem op_alloc {v : Value} (hZ : Zero P T v) (hN : Nat.blt d N.n = true) (k : ∀ w' b, New w w' b (.cells v.cells T) → K ((d, .pointer (some ⟨b, 0, none⟩)) :: l) w') :
    OpW P N ⟨some d, .alloc T, U, pos, aft, g⟩ K Q l w :=
  op_val rfl hN (fun s hs => by simp [execOp, Instr.alloc, newVar, hZ w, run_newRow]) (k _ _ (new_push w _)) (dk_new (new_push w _))

theorem op_store {b o : Nat} {cs : Array Value} {v : Value} {T' : TypeId} (hx : evo l x = some (.pointer (some ⟨b, o, none⟩))) (hy : evo l y = some v) (hS : Sz P T v.cells.size) (hb : w.heap[b]? = some (.cells cs T' (0, 0))) (h1 : (v.cells.toList.all (·.oneCell')) = true) (hl : Nat.ble (o + v.cells.size) cs.size = true)
    (k : ∀ w', Put w w' b → w'.heap[b]? = some (.cells (splice cs o v.cells.toList) T' (0, 0)) → K l w') :
    OpW P N ⟨none, .store T x y, U, pos, aft, g⟩ K Q l w := by
  obtain ⟨w', hr, hp, hb'⟩ := run_storeVar (P := P) (o := o) hS hb (by simpa only [List.all_eq_true] using h1) (by simpa using hl)
  refine op_skip rfl (fun s hs => ?_) (k w' hp hb') (dk_put hp hb rfl)
  simp [execOp, hs.eval hx, hs.eval hy, Instr.storeAt, Instr.sureAddr, hr]

def evos (l : Fr) : List (Nat × Operand) → Option (List (Nat × Value))
  | [] => some []
  | (i, x) :: r => match evo l x, evos l r with
    | some v, some vs => some ((i, v) :: vs)
    | _, _ => none
theorem evos_eval {s : Act} (hs : Holds N l s) {ps : List (Nat × Operand)} : ∀ {vs : List (Nat × Value)}, evos l ps = some vs → ps.map (fun p => (p.1, s.eval p.2)) = vs := by
  induction ps with
  | nil => intro vs h; simp [evos] at h; simp [h]
  | cons p r ih =>
    intro vs h
    obtain ⟨i, x⟩ := p
    simp only [evos] at h
    split at h
    · rename_i v us h1 h2
      cases h
      simp [hs.eval h1, ih h2]
    · cases h

theorem op_build {ps : List (Nat × Operand)} {vs : List (Nat × Value)} {v : Value} (hx : evos l ps = some vs) (hr : ∀ w, (Instr.build T vs.toArray).run P w = .ok v w) (hN : Nat.blt d N.n = true) (k : K ((d, v) :: l) w) :
    OpW P N ⟨some d, .build T ps.toArray, U, pos, aft, g⟩ K Q l w := by
  refine op_val rfl hN (fun s hs => ?_) k
  have e := evos_eval hs hx
  simp only [execOp, List.map_toArray, Sem.run_bind]
  rw [show (List.map (fun (x : Nat × Operand) => match x with | (i, x) => (i, s.eval x)) ps) = vs from e, hr w]
  rfl

theorem op_buildSlice {n e : Nat} {ps : List (Nat × Operand)} {vs : List (Nat × Value)} {cs : Array Value} (hx : evos l ps = some vs)
    (hr : ∀ w, (Instr.buildSlice T n vs.toArray).run P w = .ok (.slice (some ⟨w.heap.size, 0, none⟩) n n) { w with heap := w.heap.push (.cells cs e) }) (hN : Nat.blt d N.n = true)
    (k : ∀ w' b, New w w' b (.cells cs e) → K ((d, .slice (some ⟨b, 0, none⟩) n n) :: l) w') :
    OpW P N ⟨some d, .buildSlice T n ps.toArray, U, pos, aft, g⟩ K Q l w := by
  refine op_val rfl hN (fun s hs => ?_) (k _ _ (new_push w _)) (dk_new (new_push w _))
  have e := evos_eval hs hx
  simp only [execOp, List.map_toArray, Sem.run_bind]
  rw [show (List.map (fun (x : Nat × Operand) => match x with | (i, x) => (i, s.eval x)) ps) = vs from e, hr w]
  rfl

theorem op_nilCheck_p {a : Addr} (hx : evo l x = some (.pointer (some a))) (hN : Nat.blt d N.n = true) (k : K ((d, .pointer (some a)) :: l) w) :
    OpW P N ⟨some d, .nilCheck x, U, pos, aft, g⟩ K Q l w :=
  op_val rfl hN (fun s hs => by simp [execOp, hs.eval hx]) k

theorem op_convert {src dst : TypeId} {vx v : Value} (hx : evo l x = some vx) (hr : ∀ w, (convert src dst vx).run P w = .ok v w) (hN : Nat.blt d N.n = true) (k : K ((d, v) :: l) w) :
    OpW P N ⟨some d, .convert src dst x, U, pos, aft, g⟩ K Q l w :=
  op_val rfl hN (fun s hs => by simp [execOp, hs.eval hx, hr w]) k

theorem op_index {vx vi v : Value} (hx : evo l x = some vx) (hy : evo l y = some vi) (hr : ∀ w, (Instr.index T vx vi).run P w = .ok v w) (hN : Nat.blt d N.n = true) (k : K ((d, v) :: l) w) :
    OpW P N ⟨some d, .index T x y, U, pos, aft, g⟩ K Q l w :=
  op_val rfl hN (fun s hs => by simp [execOp, hs.eval hx, hs.eval hy, hr w]) k

theorem op_field {vx v : Value} {f : Nat} (hx : evo l x = some vx) (hr : ∀ w, (Instr.field T vx f).run P w = .ok v w) (hN : Nat.blt d N.n = true) (k : K ((d, v) :: l) w) :
    OpW P N ⟨some d, .field T x f, U, pos, aft, g⟩ K Q l w :=
  op_val rfl hN (fun s hs => by simp [execOp, hs.eval hx, hr w]) k

/-! calls -/
def evl (l : Fr) : List Operand → Option (List Value)
  | [] => some []
  | x :: r => match evo l x, evl l r with
    | some v, some vs => some (v :: vs)
    | _, _ => none
theorem evl_eval {s : Act} (hs : Holds N l s) {ps : List Operand} : ∀ {vs : List Value}, evl l ps = some vs → ps.map s.eval = vs := by
  induction ps with
  | nil => intro vs h; simp [evl] at h; simp [h]
  | cons x r ih =>
    intro vs h
    simp only [evl] at h
    split at h
    · rename_i v us h1 h2
      cases h
      simp [hs.eval h1, ih h2]
    · cases h

theorem calls_FW {ro : Option Nat} {n : Nat} {f : FuncId} {args : Array Value} {R : Ending → World → Prop} (h : Calls P f args w R) : CallsIn (FW ro) n P f args w R := by
  have h' : CallsIn Fence.wide n P f args w R := callsIn_wide.2 h
  cases ro with
  | none => exact h'
  | some l => exact h'.inRound l

theorem op_enter {o : Oper} {f : FuncId} {args : Array Value} {R : Value → World → Prop} (hd : o.dst = some d) (hN : Nat.blt d N.n = true)
    (hrun : ∀ a, Holds N l a → (execOp a.eval o).run P w = .ok (.enter f args) w) (hc : Ret P f args w R) (k : ∀ v w', R v w' → K ((d, v) :: l) w') (hf : nodef o = true := by rfl) : OpW P N o K Q l w := by
  intro a ha hg
  refine ⟨fun _ _ => trivial, ?_⟩
  show o.uponIn (FW N.ro) 0 P a _ _ ((o.semAt N.ro a.eval).run P w)
  rw [semAt_nodef hf, hrun a ha, Oper.uponIn_enter]
  refine ⟨(fun h => by simp [FW] at h), CallsIn.mono (calls_FW hc) ?_⟩
  rintro e w' ⟨v, rfl, hdk, hR⟩
  rw [hd]
  exact ⟨_, ha.put (by simpa [Nat.blt_eq] using hN) v, hg.step rfl hdk.1.some hdk.2, k v w' hR⟩

theorem op_call {f : FuncId} {xs : List Operand} {vs : List Value} {ts : Array TypeId} {R : Value → World → Prop} (hf : Enters P f) (hx : evl l xs = some vs) (hc : Ret P f vs.toArray w R) (hN : Nat.blt d N.n = true)
    (k : ∀ v w', R v w' → K ((d, v) :: l) w') : OpW P N ⟨some d, .call ⟨.value (.func f), xs.toArray, ts⟩, U, pos, aft, g⟩ K Q l w := by
  refine op_enter rfl hN (fun s hs => ?_) hc k
  have e := evl_eval hs hx
  simp [execOp, resolve, Deferred.ofValue, Act.eval, invoke, e, hf _ w]

theorem op_callv {f : FuncId} {fx : Operand} {first caps : Array Value} {xs : List Operand} {vs : List Value} {ts : Array TypeId} {args : Array Value} {R : Value → World → Prop} (hfx : evo l fx = some (.func (.func f) first caps)) (hf : Enters P f) (hx : evl l xs = some vs) (ha : first ++ vs.toArray ++ caps = args) (hc : Ret P f args w R) (hN : Nat.blt d N.n = true)
    (k : ∀ v w', R v w' → K ((d, v) :: l) w') : OpW P N ⟨some d, .call ⟨.value fx, xs.toArray, ts⟩, U, pos, aft, g⟩ K Q l w := by
  subst ha
  refine op_enter rfl hN (fun s hs => ?_) hc k
  have e := evl_eval hs hx
  simp [execOp, resolve, Deferred.ofValue, hs.eval hfx, invoke, e, hf _ w]

theorem op_makeFunc {fn : Fn} {fs cs : List Operand} {us vs : List Value} (h1 : evl l fs = some us) (h2 : evl l cs = some vs) (hN : Nat.blt d N.n = true) (k : K ((d, .func fn us.toArray vs.toArray) :: l) w) :
    OpW P N ⟨some d, .makeFunc fn fs.toArray cs.toArray, U, pos, aft, g⟩ K Q l w := by
  refine op_val rfl hN (fun s hs => ?_) k
  simp [execOp, Instr.makeFunc, evl_eval hs h1, evl_eval hs h2]

end
end Go.Eng
