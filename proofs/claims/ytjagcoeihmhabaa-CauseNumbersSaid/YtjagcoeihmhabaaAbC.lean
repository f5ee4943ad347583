/- Lemmas for a law of the seat: what functions of the program do, each stated as a contract of its own (module AbC). -/
import Derived.Test.YtjagcoeihmhabaaAbB
set_option linter.unusedVariables false
set_option linter.unusedSimpArgs false
namespace Go.Ab
open Go.RowKit Go.Shelf Go.Proofs Go.Eng

/-- What a type is: an aggregate or not, how many cells. -/
def TyS (P : Program) (T : Nat) (b : Bool) (n : Nat) : Prop := AggT P T b ∧ Sz P T n

theorem CellsM.cells {e w : World} {m : Mem} {f : Frag} {b o : Nat} {us : List Value} (h : CellsM m b o us) (hs : SH e w m f) : Cells w b o us := by
  intro j v hj
  obtain ⟨cs, T, fr, h1, h2⟩ := h j v hj
  exact cell_blk (hs.fz _ _ h1) h2

/-- An element's cells among all. -/
theorem RowsC.at {m : Mem} {t : Ty} {x : List t.den} {vs : List Value} (h : RowsC m t x vs) {z : Nat} {y : t.den} (hz : x[z]? = some y) : ∃ u, RC m t y u ∧ ∀ j v, u[j]? = some v → vs[z * t.cells + j]? = some v := by
  obtain ⟨us, h1, rfl, h3⟩ := h
  have hzl := (List.getElem?_eq_some_iff.1 hz).1
  obtain ⟨w, hw⟩ : ∃ w, us[z]? = some w := ⟨_, List.getElem?_eq_getElem (by omega)⟩
  refine ⟨w, h3 z y _ hz hw, ?_⟩
  have hall : ∀ u ∈ us, u.length = t.cells := by
    intro u hu
    obtain ⟨i, hi, rfl⟩ := List.getElem_of_mem hu
    exact RC.len (h3 i (x[i]'(by omega)) _ (List.getElem?_eq_getElem (by omega)) (List.getElem?_eq_getElem hi))
  clear h3 h1 hz hzl
  induction us generalizing z with
  | nil => simp at hw
  | cons u us ih =>
    intro j v hj
    have hu : u.length = t.cells := hall u (by simp)
    rw [List.flatten_cons]
    cases z with
    | zero =>
      simp only [List.getElem?_cons_zero, Option.some.injEq] at hw
      subst hw
      have hjl := (List.getElem?_eq_some_iff.1 hj).1
      rw [Nat.zero_mul, Nat.zero_add, List.getElem?_append_left hjl]; exact hj
    | succ z =>
      rw [List.getElem?_append_right (by rw [hu, Nat.add_mul]; omega), hu, show (z + 1) * t.cells + j - t.cells = z * t.cells + j by rw [Nat.add_mul]; omega]
      exact ih (by simpa using hw) (fun u hu => hall u (by simp [hu])) j v hj

def ix {α : Type} (x : List α) (z : Int) : Option α := if 0 ≤ z then x[z.toNat]? else none
theorem ix_some {α : Type} {x : List α} {z : Int} {e : α} (h : ix x z = some e) : 0 ≤ z ∧ z.toNat < x.length ∧ x[z.toNat]? = some e := by
  unfold ix at h
  split at h
  · rename_i h0; exact ⟨h0, (List.getElem?_eq_some_iff.1 h).1, h⟩
  · cases h

section
variable {P : Program} {N : Ev} {X : Cx} {Q : APost} {st : AS}
variable {d : Nat} {T U T' : TypeId} {pos : String} {aft : Array Edge} {g : Option (Nat × Bool)} {x y : Operand} {k ky : IntKind} {a b : Int}

theorem Conc.obj {fr : Fr} {w : World} {m : Mem} {ρ : List Value} {φ : List Frag} (hc : Conc X st fr w m ρ φ) {i : Nat} {h : Value} (hi : ρ[i]? = some h) : ∃ f, φ[i]? = some f ∧ ORep m ρ (st.H.get i) h f ∧ ∀ p ∈ f, w.heap[p.1]? = some p.2 := by
  have hl := (List.getElem?_eq_some_iff.1 hi).1
  have hf : φ[i]? = some (φ[i]'(by rw [hc.nφ, ← hc.nρ]; exact hl)) := List.getElem?_eq_getElem _
  refine ⟨_, hf, hc.objs i h _ hi hf, fun p hp => hc.sh.own p (List.mem_append.2 (.inl (List.mem_flatten.2 ⟨_, List.mem_of_getElem? hf, hp⟩)))⟩

theorem av_move {v : AV} (hx : aev st.l x = some v) (hN : Nat.blt d N.n = true := by rfl) : AOpV P N X ⟨some d, .move x, T, pos, aft, g⟩ v st :=
  av_of rfl fun Q fr w m ρ φ hc => let ⟨u, h1, h2⟩ := hc.ev hx; ⟨u, h2, fun K hk => op_move h1 hN hk⟩
theorem av_assign {v : AV} (hx : aev st.l x = some v) (hN : Nat.blt d N.n = true := by rfl) : AOpV P N X ⟨some d, .assign x, T, pos, aft, g⟩ v st :=
  av_of rfl fun Q fr w m ρ φ hc => let ⟨u, h1, h2⟩ := hc.ev hx; ⟨u, h2, fun K hk => op_assign h1 hN hk⟩

theorem rep_int {m : Mem} {ρ : List Value} {z : Int} : RepA m ρ (.int k z) (.int k z) := by simp only [RepA]
theorem rep_bool {m : Mem} {ρ : List Value} {z : Bool} : RepA m ρ (.bool z) (.bool z) := by simp only [RepA]
theorem rep_str {m : Mem} {ρ : List Value} {z : Str} : RepA m ρ (.str z) (.string (bstr z)) := by simp only [RepA]

theorem av_bin {op : BinOp} {ax ay r : AV} (hx : aev st.l x = some ax) (hy : aev st.l y = some ay) (h : ∀ m ρ vx vy, RepA m ρ ax vx → RepA m ρ ay vy → ∃ v, RepA m ρ r v ∧ (∀ w, (eqGuard op T x y vx vy).run P w = .ok () w) ∧ ∀ w, (binOp op T vx vy).run P w = .ok v w)
    (hN : Nat.blt d N.n = true) : AOpV P N X ⟨some d, .binOp op T x y T', U, pos, aft, g⟩ r st :=
  av_of rfl fun Q fr w m ρ φ hc => by
    obtain ⟨vx, h1, h2⟩ := hc.ev hx
    obtain ⟨vy, h3, h4⟩ := hc.ev hy
    obtain ⟨v, h5, h6, h7⟩ := h m ρ vx vy h2 h4
    exact ⟨v, h5, fun K hk => op_bin h1 h3 h6 h7 hN hk⟩
theorem av_ii {op : BinOp} {r : AV} (hx : aev st.l x = some (.int k a)) (hy : aev st.l y = some (.int ky b)) (h : ∀ m ρ, ∃ v, RepA m ρ r v ∧ ∀ w, (binOp op T (.int k a) (.int ky b)).run P w = .ok v w)
    (hN : Nat.blt d N.n = true) : AOpV P N X ⟨some d, .binOp op T x y T', U, pos, aft, g⟩ r st :=
  av_bin hx hy (fun m ρ vx vy h1 h2 => by
    simp only [RepA] at h1 h2; subst h1 h2
    obtain ⟨v, h3, h4⟩ := h m ρ
    exact ⟨v, h3, fun w => by cases op <;> simp [eqGuard], h4⟩) hN

theorem av_add (hx : aev st.l x = some (.int k a)) (hy : aev st.l y = some (.int k b)) (hN : Nat.blt d N.n = true := by rfl) : AOpV P N X ⟨some d, .binOp .add T x y T', U, pos, aft, g⟩ (.int k (k.wrap (a + b))) st :=
  av_ii hx hy (fun m ρ => ⟨_, rep_int, fun w => by simp [binOp, Op.intArith]⟩) hN
theorem av_sub (hx : aev st.l x = some (.int k a)) (hy : aev st.l y = some (.int k b)) (hN : Nat.blt d N.n = true := by rfl) : AOpV P N X ⟨some d, .binOp .sub T x y T', U, pos, aft, g⟩ (.int k (k.wrap (a - b))) st :=
  av_ii hx hy (fun m ρ => ⟨_, rep_int, fun w => by simp [binOp, Op.intArith]⟩) hN
theorem av_mul (hx : aev st.l x = some (.int k a)) (hy : aev st.l y = some (.int k b)) (hN : Nat.blt d N.n = true := by rfl) : AOpV P N X ⟨some d, .binOp .mul T x y T', U, pos, aft, g⟩ (.int k (k.wrap (a * b))) st :=
  av_ii hx hy (fun m ρ => ⟨_, rep_int, fun w => by simp [binOp, Op.intArith]⟩) hN
theorem av_quo (hx : aev st.l x = some (.int k a)) (hy : aev st.l y = some (.int k b)) (hb : decide (b = 0) = false) (hN : Nat.blt d N.n = true := by rfl) : AOpV P N X ⟨some d, .binOp .quo T x y T', U, pos, aft, g⟩ (.int k (k.wrap (a.tdiv b))) st :=
  av_ii hx hy (fun m ρ => ⟨_, rep_int, fun w => by have hb : b ≠ 0 := by simpa using hb
                                                   simp [binOp, Op.intDiv, hb]⟩) hN
theorem av_rem (hx : aev st.l x = some (.int k a)) (hy : aev st.l y = some (.int k b)) (hb : decide (b = 0) = false) (hN : Nat.blt d N.n = true := by rfl) : AOpV P N X ⟨some d, .binOp .rem T x y T', U, pos, aft, g⟩ (.int k (a.tmod b)) st :=
  av_ii hx hy (fun m ρ => ⟨_, rep_int, fun w => by have hb : b ≠ 0 := by simpa using hb
                                                   simp [binOp, Op.intDiv, hb]⟩) hN
theorem av_lss (hx : aev st.l x = some (.int k a)) (hy : aev st.l y = some (.int k b)) (hN : Nat.blt d N.n = true := by rfl) : AOpV P N X ⟨some d, .binOp .lss T x y T', U, pos, aft, g⟩ (.bool (decide (a < b))) st :=
  av_ii hx hy (fun m ρ => ⟨_, rep_bool, fun w => by simp [binOp, Op.intCmp]⟩) hN
theorem av_leq (hx : aev st.l x = some (.int k a)) (hy : aev st.l y = some (.int k b)) (hN : Nat.blt d N.n = true := by rfl) : AOpV P N X ⟨some d, .binOp .leq T x y T', U, pos, aft, g⟩ (.bool (decide (a ≤ b))) st :=
  av_ii hx hy (fun m ρ => ⟨_, rep_bool, fun w => by simp [binOp, Op.intCmp]⟩) hN
theorem av_gtr (hx : aev st.l x = some (.int k a)) (hy : aev st.l y = some (.int k b)) (hN : Nat.blt d N.n = true := by rfl) : AOpV P N X ⟨some d, .binOp .gtr T x y T', U, pos, aft, g⟩ (.bool (decide (b < a))) st :=
  av_ii hx hy (fun m ρ => ⟨_, rep_bool, fun w => by simp [binOp, Op.intCmp]⟩) hN
theorem av_geq (hx : aev st.l x = some (.int k a)) (hy : aev st.l y = some (.int k b)) (hN : Nat.blt d N.n = true := by rfl) : AOpV P N X ⟨some d, .binOp .geq T x y T', U, pos, aft, g⟩ (.bool (decide (b ≤ a))) st :=
  av_ii hx hy (fun m ρ => ⟨_, rep_bool, fun w => by simp [binOp, Op.intCmp]⟩) hN
theorem av_eql (hx : aev st.l x = some (.int k a)) (hy : aev st.l y = some (.int k b)) (hN : Nat.blt d N.n = true := by rfl) : AOpV P N X ⟨some d, .binOp .eql T x y T', U, pos, aft, g⟩ (.bool (decide (a = b))) st :=
  av_ii hx hy (fun m ρ => ⟨_, rep_bool, fun w => by simp [binOp, Op.intCmp]; rfl⟩) hN
theorem av_neq (hx : aev st.l x = some (.int k a)) (hy : aev st.l y = some (.int k b)) (hN : Nat.blt d N.n = true := by rfl) : AOpV P N X ⟨some d, .binOp .neq T x y T', U, pos, aft, g⟩ (.bool (!decide (a = b))) st :=
  av_ii hx hy (fun m ρ => ⟨_, rep_bool, fun w => by simp [binOp, Op.intCmp]; rfl⟩) hN
theorem av_and (hx : aev st.l x = some (.int k a)) (hy : aev st.l y = some (.int k b)) (hN : Nat.blt d N.n = true := by rfl) : AOpV P N X ⟨some d, .binOp .and T x y T', U, pos, aft, g⟩ (.int k (k.wrap (BitVec.ofInt k.bits a &&& BitVec.ofInt k.bits b).toNat)) st :=
  av_ii hx hy (fun m ρ => ⟨_, rep_int, fun w => by simp only [binOp, Op.intBits]; rw [if_neg (by simp)]; rfl⟩) hN
theorem av_or (hx : aev st.l x = some (.int k a)) (hy : aev st.l y = some (.int k b)) (hN : Nat.blt d N.n = true := by rfl) : AOpV P N X ⟨some d, .binOp .or T x y T', U, pos, aft, g⟩ (.int k (k.wrap (BitVec.ofInt k.bits a ||| BitVec.ofInt k.bits b).toNat)) st :=
  av_ii hx hy (fun m ρ => ⟨_, rep_int, fun w => by simp only [binOp, Op.intBits]; rw [if_neg (by simp)]; rfl⟩) hN
theorem av_xor (hx : aev st.l x = some (.int k a)) (hy : aev st.l y = some (.int k b)) (hN : Nat.blt d N.n = true := by rfl) : AOpV P N X ⟨some d, .binOp .xor T x y T', U, pos, aft, g⟩ (.int k (k.wrap (BitVec.ofInt k.bits a ^^^ BitVec.ofInt k.bits b).toNat)) st :=
  av_ii hx hy (fun m ρ => ⟨_, rep_int, fun w => by simp only [binOp, Op.intBits]; rw [if_neg (by simp)]; rfl⟩) hN
theorem av_shl (hx : aev st.l x = some (.int k a)) (hy : aev st.l y = some (.int ky b)) (hb : decide (b < 0) = false) (hN : Nat.blt d N.n = true := by rfl) : AOpV P N X ⟨some d, .binOp .shl T x y T', U, pos, aft, g⟩ (.int k (k.wrap (a * 2 ^ min b.toNat k.bits))) st :=
  av_ii hx hy (fun m ρ => ⟨_, rep_int, fun w => by have hb : ¬ b < 0 := by simpa using hb
                                                   simp [binOp, Op.shift, hb]⟩) hN
theorem av_shr (hx : aev st.l x = some (.int k a)) (hy : aev st.l y = some (.int ky b)) (hb : decide (b < 0) = false) (hN : Nat.blt d N.n = true := by rfl) : AOpV P N X ⟨some d, .binOp .shr T x y T', U, pos, aft, g⟩ (.int k (a.fdiv (2 ^ min b.toNat k.bits))) st :=
  av_ii hx hy (fun m ρ => ⟨_, rep_int, fun w => by have hb : ¬ b < 0 := by simpa using hb
                                                   simp [binOp, Op.shift, hb]⟩) hN

/-! strings -/
theorem bstr_toList (s : Str) : (bstr s).toList = s := by rw [ByteArray.toList_eq]; simp [bstr]
def slt : Str → Str → Bool := Op.bytesLess
theorem av_ss {op : BinOp} {r : AV} {s t : Str} (hx : aev st.l x = some (.str s)) (hy : aev st.l y = some (.str t)) (h : ∀ m ρ, ∃ v, RepA m ρ r v ∧ ∀ w, (Op.stringOp op (bstr s) (bstr t)).run P w = .ok v w)
    (hop : op ≠ .shl ∧ op ≠ .shr := by decide) (hN : Nat.blt d N.n = true) : AOpV P N X ⟨some d, .binOp op T x y T', U, pos, aft, g⟩ r st :=
  av_bin hx hy (fun m ρ vx vy h1 h2 => by
    simp only [RepA] at h1 h2; subst h1 h2
    obtain ⟨v, h3, h4⟩ := h m ρ
    exact ⟨v, h3, fun w => by cases op <;> simp [eqGuard], fun w => by rw [← h4 w]; cases op <;> rfl⟩) hN
theorem beq_str (s t : Str) : (s == t) = decide (s = t) := by
  by_cases h : s = t <;> simp [h]
theorem av_eqls {s t : Str} (hx : aev st.l x = some (.str s)) (hy : aev st.l y = some (.str t)) (hN : Nat.blt d N.n = true := by rfl) : AOpV P N X ⟨some d, .binOp .eql T x y T', U, pos, aft, g⟩ (.bool (decide (s = t))) st :=
  av_ss hx hy (fun m ρ => ⟨_, rep_bool, fun w => by simp only [Op.stringOp, bstr_toList, beq_str]; rfl⟩) (by decide) hN
theorem av_neqs {s t : Str} (hx : aev st.l x = some (.str s)) (hy : aev st.l y = some (.str t)) (hN : Nat.blt d N.n = true := by rfl) : AOpV P N X ⟨some d, .binOp .neq T x y T', U, pos, aft, g⟩ (.bool (!decide (s = t))) st :=
  av_ss hx hy (fun m ρ => ⟨_, rep_bool, fun w => by simp only [Op.stringOp, bstr_toList, beq_str]; rfl⟩) (by decide) hN
theorem av_lsss {s t : Str} (hx : aev st.l x = some (.str s)) (hy : aev st.l y = some (.str t)) (hN : Nat.blt d N.n = true := by rfl) : AOpV P N X ⟨some d, .binOp .lss T x y T', U, pos, aft, g⟩ (.bool (slt s t)) st :=
  av_ss hx hy (fun m ρ => ⟨_, rep_bool, fun w => by simp only [Op.stringOp, bstr_toList, beq_str]; rfl⟩) (by decide) hN
theorem av_leqs {s t : Str} (hx : aev st.l x = some (.str s)) (hy : aev st.l y = some (.str t)) (hN : Nat.blt d N.n = true := by rfl) : AOpV P N X ⟨some d, .binOp .leq T x y T', U, pos, aft, g⟩ (.bool (slt s t || decide (s = t))) st :=
  av_ss hx hy (fun m ρ => ⟨_, rep_bool, fun w => by simp only [Op.stringOp, bstr_toList, beq_str]; rfl⟩) (by decide) hN
theorem av_gtrs {s t : Str} (hx : aev st.l x = some (.str s)) (hy : aev st.l y = some (.str t)) (hN : Nat.blt d N.n = true := by rfl) : AOpV P N X ⟨some d, .binOp .gtr T x y T', U, pos, aft, g⟩ (.bool (!(slt s t || decide (s = t)))) st :=
  av_ss hx hy (fun m ρ => ⟨_, rep_bool, fun w => by simp only [Op.stringOp, bstr_toList, beq_str]; rfl⟩) (by decide) hN
theorem av_geqs {s t : Str} (hx : aev st.l x = some (.str s)) (hy : aev st.l y = some (.str t)) (hN : Nat.blt d N.n = true := by rfl) : AOpV P N X ⟨some d, .binOp .geq T x y T', U, pos, aft, g⟩ (.bool (!slt s t)) st :=
  av_ss hx hy (fun m ρ => ⟨_, rep_bool, fun w => by simp only [Op.stringOp, bstr_toList, beq_str]; rfl⟩) (by decide) hN
theorem bstr_app (s t : Str) : bstr s ++ bstr t = bstr (s ++ t) := by
  have : (bstr s ++ bstr t).data = (bstr (s ++ t)).data := by simp [bstr, ByteArray.data_append]
  cases h : bstr s ++ bstr t; rw [h] at this; simp only at this; subst this; rfl
/-- A text that a machine may bear. -/
def strOk (n : Nat) : Bool := Nat.ble n cap47
theorem av_adds {s t : Str} (hx : aev st.l x = some (.str s)) (hy : aev st.l y = some (.str t)) (hb : strOk (s.length + t.length) = true) (hN : Nat.blt d N.n = true := by rfl) : AOpV P N X ⟨some d, .binOp .add T x y T', U, pos, aft, g⟩ (.str (s ++ t)) st :=
  av_ss hx hy (fun m ρ => ⟨_, rep_str, fun w => by
    have hb := Nat.le_of_ble_eq_true hb
    have hc : cap47 = 140737488355328 := rfl
    simp only [Op.stringOp, bstr_size]
    rw [if_neg (by simp only [IntKind.max, IntKind.bits, IntKind.signed]; simp; omega), bstr_app]; rfl⟩) (by decide) hN

/-! bools -/
theorem av_eqlb {p q : Bool} (hU : Und P T .bool) (hx : aev st.l x = some (.bool p)) (hy : aev st.l y = some (.bool q)) (hN : Nat.blt d N.n = true := by rfl) : AOpV P N X ⟨some d, .binOp .eql T x y T', U, pos, aft, g⟩ (.bool (decide (p = q))) st :=
  av_of rfl fun Q fr w m ρ φ hc => ⟨_, rep_bool, fun K hk => op_eqlb hU (hc.bool hx) (hc.bool hy) hN hk⟩
theorem av_neqb {p q : Bool} (hU : Und P T .bool) (hx : aev st.l x = some (.bool p)) (hy : aev st.l y = some (.bool q)) (hN : Nat.blt d N.n = true := by rfl) : AOpV P N X ⟨some d, .binOp .neq T x y T', U, pos, aft, g⟩ (.bool (!decide (p = q))) st :=
  av_of rfl fun Q fr w m ρ φ hc => ⟨_, rep_bool, fun K hk => op_neqb hU (hc.bool hx) (hc.bool hy) hN hk⟩
theorem av_not {c : Bool} (hx : aev st.l x = some (.bool c)) (hN : Nat.blt d N.n = true := by rfl) : AOpV P N X ⟨some d, .unOp .not T x, U, pos, aft, g⟩ (.bool (!c)) st :=
  av_of rfl fun Q fr w m ρ φ hc => ⟨_, rep_bool, fun K hk => op_not (hc.bool hx) hN hk⟩
theorem av_neg (hx : aev st.l x = some (.int k a)) (hN : Nat.blt d N.n = true := by rfl) : AOpV P N X ⟨some d, .unOp .neg T x, U, pos, aft, g⟩ (.int k (k.wrap (-a))) st :=
  av_of rfl fun Q fr w m ρ φ hc => ⟨_, rep_int, fun K hk => op_val rfl hN (fun s hs => by simp [execOp, hs.eval (hc.int hx), Op.unary, Op.intArith]) hk⟩

/-! structs held against one another, fields that are whole numbers, texts, truth values -/
def flatB : AV → Bool
  | .int _ _ => true
  | .bool _ => true
  | .str _ => true
  | _ => false
def flatV : AV → Value
  | .int k z => .int k z
  | .bool b => .bool b
  | .str s => .string (bstr s)
  | _ => undef
theorem flat_rep {m : Mem} {ρ : List Value} {a : AV} {v : Value} (hf : flatB a = true) (h : RepA m ρ a v) : v = flatV a := by
  cases a <;> simp [flatB] at hf <;> simpa only [RepA, flatV] using h
theorem flat_repL {m : Mem} {ρ : List Value} : ∀ {as' : List AV} {vs : List Value}, (as'.all flatB) = true → RepL m ρ as' vs → vs = as'.map flatV := by
  intro as'
  induction as' with
  | nil => intro vs _ h; cases vs with
    | nil => rfl
    | cons => simp [RepL] at h
  | cons a as' ih => intro vs hf h; cases vs with
    | nil => simp [RepL] at h
    | cons v vs =>
      simp only [RepL] at h
      simp only [List.all_cons, Bool.and_eq_true] at hf
      rw [flat_rep hf.1 h.1, ih hf.2 h.2, List.map_cons]
def eqA : AV → AV → Bool
  | .int _ x, .int _ y => decide (x = y)
  | .bool x, .bool y => decide (x = y)
  | .str x, .str y => decide (x = y)
  | _, _ => false
def eqAs : List AV → List AV → Bool
  | [a], [b] => eqA a b
  | a :: as', b :: bs => eqA a b && eqAs as' bs
  | _, _ => true
theorem av_eqlA {cs ds : List AV} {Xs Ys : List Value} {r : Bool} (h : EqT P T Xs Ys) (hx : aev st.l x = some (.agg cs)) (hy : aev st.l y = some (.agg ds)) (hf : (cs.all flatB && ds.all flatB) = true) (hX : cs.map flatV = Xs) (hY : ds.map flatV = Ys) (hr : andAll (eqCells Xs Ys) = r) (hN : Nat.blt d N.n = true := by rfl) :
    AOpV P N X ⟨some d, .binOp .eql T x y T', U, pos, aft, g⟩ (.bool r) st :=
  av_of rfl fun Q fr w m ρ φ hc => ⟨_, rep_bool, fun K hk => by
    obtain ⟨v, h1, h2⟩ := hc.ev hx
    obtain ⟨u, h3, h4⟩ := hc.ev hy
    simp only [RepA] at h2 h4
    obtain ⟨vs, rfl, h5, _⟩ := h2
    obtain ⟨us, rfl, h6, _⟩ := h4
    simp only [Bool.and_eq_true] at hf
    rw [flat_repL hf.1 h5, hX] at h1
    rw [flat_repL hf.2 h6, hY] at h3
    exact op_eqlA h1 h3 h hr hN hk⟩
theorem av_neqA {cs ds : List AV} {Xs Ys : List Value} {r : Bool} (h : EqT P T Xs Ys) (hx : aev st.l x = some (.agg cs)) (hy : aev st.l y = some (.agg ds)) (hf : (cs.all flatB && ds.all flatB) = true) (hX : cs.map flatV = Xs) (hY : ds.map flatV = Ys) (hr : andAll (eqCells Xs Ys) = r) (hN : Nat.blt d N.n = true := by rfl) :
    AOpV P N X ⟨some d, .binOp .neq T x y T', U, pos, aft, g⟩ (.bool (!r)) st :=
  av_of rfl fun Q fr w m ρ φ hc => ⟨_, rep_bool, fun K hk => by
    obtain ⟨v, h1, h2⟩ := hc.ev hx
    obtain ⟨u, h3, h4⟩ := hc.ev hy
    simp only [RepA] at h2 h4
    obtain ⟨vs, rfl, h5, _⟩ := h2
    obtain ⟨us, rfl, h6, _⟩ := h4
    simp only [Bool.and_eq_true] at hf
    rw [flat_repL hf.1 h5, hX] at h1
    rw [flat_repL hf.2 h6, hY] at h3
    exact op_neqA h1 h3 h hr hN hk⟩

/-! lengths -/
def lenI (n : Nat) : Int := (n : Int)
theorem av_len_sl {t : Ty} {xs : List t.den} {e : Nat} {ts : Array TypeId} {cl : Array Operand} (hc : cl = #[x]) (ht : ts = #[T]) (hU : Und P T (.slice e)) (hx : aev st.l x = some (.sl t xs)) (hN : Nat.blt d N.n = true := by rfl) :
    AOpV P N X ⟨some d, .call ⟨.builtin .len, cl, ts⟩, U, pos, aft, g⟩ (.int .i64 (xs.length : Int)) st :=
  av_of rfl fun Q fr w m ρ φ hcc => by
    obtain ⟨v, h1, h2⟩ := hcc.ev hx
    simp only [RepA, RC] at h2
    obtain ⟨A, n, c, h3, h4, _⟩ := h2
    cases h3
    rw [h4]
    exact ⟨_, rep_int, fun K hk => op_len_slice hc ht hU h1 hN hk⟩
theorem av_len_nils {e : Nat} {ts : Array TypeId} {cl : Array Operand} (hc : cl = #[x]) (ht : ts = #[T]) (hU : Und P T (.slice e)) (hx : aev st.l x = some .nils) (hN : Nat.blt d N.n = true := by rfl) :
    AOpV P N X ⟨some d, .call ⟨.builtin .len, cl, ts⟩, U, pos, aft, g⟩ (.int .i64 0) st :=
  av_of rfl fun Q fr w m ρ φ hcc => by
    obtain ⟨v, h1, h2⟩ := hcc.ev hx
    simp only [RepA] at h2
    subst h2
    exact ⟨_, rep_int, fun K hk => op_len_slice hc ht hU h1 hN hk⟩
theorem av_len_osl {i : Nat} {t : Ty} {xs : List t.den} {e E : Nat} {ts : Array TypeId} {cl : Array Operand} (hc : cl = #[x]) (ht : ts = #[T]) (hU : Und P T (.slice e)) (hx : aev st.l x = some (.osl i)) (hH : st.H.get i = .sl E t xs) (hN : Nat.blt d N.n = true := by rfl) :
    AOpV P N X ⟨some d, .call ⟨.builtin .len, cl, ts⟩, U, pos, aft, g⟩ (.int .i64 (xs.length : Int)) st :=
  av_of rfl fun Q fr w m ρ φ hcc => by
    obtain ⟨v, h1, h2⟩ := hcc.ev hx
    simp only [RepA] at h2
    obtain ⟨f, _, ho, _⟩ := hcc.obj h2.1
    rw [hH] at ho
    obtain ⟨_, ⟨rfl, rfl, _⟩ | ⟨b, c, cs, vs, rfl, _⟩⟩ := ho
    · exact ⟨_, rep_int, fun K hk => op_len_slice hc ht hU h1 hN hk⟩
    · exact ⟨_, rep_int, fun K hk => op_len_slice hc ht hU h1 hN hk⟩
theorem av_len_str {s : Str} {ts : Array TypeId} {cl : Array Operand} (hc : cl = #[x]) (ht : ts = #[T]) (hU : Und P T .string) (hx : aev st.l x = some (.str s)) (hN : Nat.blt d N.n = true := by rfl) :
    AOpV P N X ⟨some d, .call ⟨.builtin .len, cl, ts⟩, U, pos, aft, g⟩ (.int .i64 (s.length : Int)) st :=
  av_of rfl fun Q fr w m ρ φ hcc => ⟨_, rep_int, fun K hk => op_len_str hc ht hU (hcc.str hx) hN (by rw [bstr_size]; exact hk)⟩
theorem av_min {ts : Array TypeId} {cl : Array Operand} (hc : cl = #[x, y]) (hx : aev st.l x = some (.int k a)) (hy : aev st.l y = some (.int k b)) (hN : Nat.blt d N.n = true := by rfl) :
    AOpV P N X ⟨some d, .call ⟨.builtin .min, cl, ts⟩, U, pos, aft, g⟩ (.int k (min a b)) st :=
  av_of rfl fun Q fr w m ρ φ hcc => ⟨_, rep_int, fun K hk => op_min hc (hcc.int hx) (hcc.int hy) hN (by rw [show (if b < a then b else a) = min a b by split <;> omega]; exact hk)⟩
theorem av_max {ts : Array TypeId} {cl : Array Operand} (hc : cl = #[x, y]) (hx : aev st.l x = some (.int k a)) (hy : aev st.l y = some (.int k b)) (hN : Nat.blt d N.n = true := by rfl) :
    AOpV P N X ⟨some d, .call ⟨.builtin .max, cl, ts⟩, U, pos, aft, g⟩ (.int k (max a b)) st :=
  av_of rfl fun Q fr w m ρ φ hcc => ⟨_, rep_int, fun K hk => op_max hc (hcc.int hx) (hcc.int hy) hN (by rw [show (if b > a then b else a) = max a b by split <;> omega]; exact hk)⟩

/-! memory that is read -/
theorem RepL.one1 {m : Mem} {ρ : List Value} {a : AV} {r : List AV} {us : List Value} (h : RepL m ρ (a :: r) us) : ∃ u us', us = u :: us' ∧ RepA m ρ a u ∧ RepL m ρ r us' := by
  cases us with
  | nil => simp [RepL] at h
  | cons u us => simp only [RepL] at h; exact ⟨u, us, rfl, h.1, h.2⟩

theorem av_load_rp {v : AV} {r : List AV} (hT : TyS P T false 1) (hx : aev st.l x = some (.rp (v :: r))) (hN : Nat.blt d N.n = true := by rfl) : AOpV P N X ⟨some d, .load T x, U, pos, aft, g⟩ v st :=
  av_of rfl fun Q fr w m ρ φ hc => by
    obtain ⟨p, h1, h2⟩ := hc.ev hx
    simp only [RepA] at h2
    obtain ⟨b, o, us, rfl, h3, h4, h5⟩ := h2
    obtain ⟨u, us', rfl, h6, _⟩ := h3.one1
    exact ⟨u, h6, fun K hk => op_load1 h1 hT.1 ((h4.cells hc.sh).head) hN hk⟩
theorem av_load_rpN {n : Nat} {cs ds : List AV} (hT : TyS P T true n) (hx : aev st.l x = some (.rp cs)) (hd : cs.take n = ds) (hl : Nat.beq ds.length n = true) (hN : Nat.blt d N.n = true := by rfl) : AOpV P N X ⟨some d, .load T x, U, pos, aft, g⟩ (.agg ds) st :=
  av_of rfl fun Q fr w m ρ φ hc => by
    obtain ⟨p, h1, h2⟩ := hc.ev hx
    simp only [RepA] at h2
    obtain ⟨b, o, us, rfl, h3, h4, h5⟩ := h2
    have hl' := Nat.eq_of_beq_eq_true hl
    subst hd
    have h6 := h3.take n
    refine ⟨.agg (us.take n).toArray, ?_, fun K hk => op_loadN h1 hT.1 hT.2 ?_ ?_ hN hk⟩
    · simp only [RepA]; exact ⟨_, rfl, h6, fun u hu => h5 u (List.mem_of_mem_take hu)⟩
    · rw [h6.len]; exact hl'
    · exact cells_sub (h4.cells hc.sh) 0 _ (by simp)
theorem own_cells {m : Mem} {ρ : List Value} {φ : List Frag} {fr : Fr} {w : World} (hc : Conc X st fr w m ρ φ) {i o : Nat} {T' : TypeId} {cs : List AV} {v : Value} (hv : RepA m ρ (.ptr i o) v) (hH : st.H.get i = .var T' cs) : ∃ b us, v = .pointer (some ⟨b, o, none⟩) ∧ w.heap[b]? = some (.cells us.toArray T' (0, 0)) ∧ RepL m ρ cs us ∧ (∀ u ∈ us, u.oneCell' = true) := by
  simp only [RepA] at hv
  obtain ⟨b, h1, rfl⟩ := hv
  obtain ⟨f, _, ho, hw⟩ := hc.obj h1
  rw [hH] at ho
  obtain ⟨b', us, h2, rfl, h3, h4⟩ := ho
  cases h2
  exact ⟨b, us, rfl, hw (b, _) (List.mem_singleton.2 rfl), h3, h4⟩
theorem av_load_ptr {i o : Nat} {cs : List AV} {v : AV} {r : List AV} (hT : TyS P T false 1) (hx : aev st.l x = some (.ptr i o)) (hH : st.H.get i = .var T' cs) (hd : cs.drop o = v :: r) (hN : Nat.blt d N.n = true := by rfl) : AOpV P N X ⟨some d, .load T x, U, pos, aft, g⟩ v st :=
  av_of rfl fun Q fr w m ρ φ hc => by
    obtain ⟨p, h1, h2⟩ := hc.ev hx
    obtain ⟨b, us, rfl, h3, h4, _⟩ := own_cells hc h2 hH
    have h5 := h4.drop o
    rw [hd] at h5
    obtain ⟨u, us', h6, h7, _⟩ := h5.one1
    refine ⟨u, h7, fun K hk => op_load1 h1 hT.1 (cell_blk h3 ?_) hN hk⟩
    have : (us.drop o)[0]? = some u := by rw [h6]; rfl
    rw [List.getElem?_drop] at this
    simpa using this
theorem av_load_ptrN {n i o : Nat} {cs ds : List AV} (hT : TyS P T true n) (hx : aev st.l x = some (.ptr i o)) (hH : st.H.get i = .var T' cs) (hd : (cs.drop o).take n = ds) (hl : Nat.beq ds.length n = true) (hN : Nat.blt d N.n = true := by rfl) : AOpV P N X ⟨some d, .load T x, U, pos, aft, g⟩ (.agg ds) st :=
  av_of rfl fun Q fr w m ρ φ hc => by
    obtain ⟨p, h1, h2⟩ := hc.ev hx
    obtain ⟨b, us, rfl, h3, h4, h5⟩ := own_cells hc h2 hH
    have hl' := Nat.eq_of_beq_eq_true hl
    subst hd
    have h6 := (h4.drop o).take n
    refine ⟨.agg ((us.drop o).take n).toArray, ?_, fun K hk => op_loadN h1 hT.1 hT.2 ?_ ?_ hN hk⟩
    · simp only [RepA]; exact ⟨_, rfl, h6, fun u hu => h5 u (List.mem_of_mem_drop (List.mem_of_mem_take hu))⟩
    · rw [h6.len]; exact hl'
    · intro j v hj
      refine cell_blk h3 ?_
      rw [List.getElem?_take] at hj
      split at hj
      · rw [List.getElem?_drop] at hj; simpa using hj
      · cases hj
/-- An element of what is owned. -/
theorem own_elem {m : Mem} {ρ : List Value} {φ : List Frag} {fr : Fr} {w : World} (hc : Conc X st fr w m ρ φ) {i z o : Nat} {E : TypeId} {t : Ty} {xs : List t.den} {e : t.den} {v : Value} (hv : RepA m ρ (.ep i t.cells z o) v) (hH : st.H.get i = .sl E t xs) (he : xs[z]? = some e) :
    ∃ b us, v = .pointer (some ⟨b, z * t.cells + o, none⟩) ∧ RC m t e us ∧ Cells w b (z * t.cells) us := by
  simp only [RepA] at hv
  obtain ⟨b, n, c, h1, rfl⟩ := hv
  obtain ⟨f, _, ho, hw⟩ := hc.obj h1
  rw [hH] at ho
  obtain ⟨_, ⟨_, h2, _⟩ | ⟨b', c', cs, vs, h2, rfl, h3, h4, h5, h6, h7⟩⟩ := ho
  · cases h2
  · cases h2
    obtain ⟨u, h8, h9⟩ := h6.at he
    refine ⟨b, u, rfl, h8, fun j v hj => cell_blk (hw (b, _) (List.mem_singleton.2 rfl)) ?_⟩
    have := h9 j v hj
    rw [← h7, List.getElem?_take] at this
    split at this
    · simpa using this
    · cases this
theorem av_load_ep {i z o sz : Nat} {E : TypeId} {t : Ty} {xs : List t.den} {e : t.den} {v : AV} {r : List AV} (hT : TyS P T false 1) (hx : aev st.l x = some (.ep i sz z o)) (hH : st.H.get i = .sl E t xs) (hsz : sz = t.cells) (he : xs[z]? = some e) (hd : (expl t e).drop o = v :: r) (hN : Nat.blt d N.n = true := by rfl) : AOpV P N X ⟨some d, .load T x, U, pos, aft, g⟩ v st :=
  av_of rfl fun Q fr w m ρ φ hc => by
    subst hsz
    obtain ⟨p, h1, h2⟩ := hc.ev hx
    obtain ⟨b, us, rfl, h3, h4⟩ := own_elem hc h2 hH he
    have h5 := (rc_expl (ρ := ρ) h3).drop o
    rw [hd] at h5
    obtain ⟨u, us', h6, h7, _⟩ := h5.one1
    refine ⟨u, h7, fun K hk => op_load1 h1 hT.1 (h4 o u ?_) hN hk⟩
    have : (us.drop o)[0]? = some u := by rw [h6]; rfl
    rw [List.getElem?_drop] at this
    simpa using this
theorem av_load_epN {n i z o sz : Nat} {E : TypeId} {t : Ty} {xs : List t.den} {e : t.den} {ds : List AV} (hT : TyS P T true n) (hx : aev st.l x = some (.ep i sz z o)) (hH : st.H.get i = .sl E t xs) (hsz : sz = t.cells) (he : xs[z]? = some e) (hd : ((expl t e).drop o).take n = ds) (hl : Nat.beq ds.length n = true) (hN : Nat.blt d N.n = true := by rfl) : AOpV P N X ⟨some d, .load T x, U, pos, aft, g⟩ (.agg ds) st :=
  av_of rfl fun Q fr w m ρ φ hc => by
    subst hsz
    obtain ⟨p, h1, h2⟩ := hc.ev hx
    obtain ⟨b, us, rfl, h3, h4⟩ := own_elem hc h2 hH he
    have hl' := Nat.eq_of_beq_eq_true hl
    subst hd
    have h6 := ((rc_expl (ρ := ρ) h3).drop o).take n
    refine ⟨.agg ((us.drop o).take n).toArray, ?_, fun K hk => op_loadN h1 hT.1 hT.2 ?_ ?_ hN hk⟩
    · simp only [RepA]; exact ⟨_, rfl, h6, fun u hu => h3.one u (List.mem_of_mem_drop (List.mem_of_mem_take hu))⟩
    · rw [h6.len]; exact hl'
    · intro j v hj
      rw [List.getElem?_take] at hj
      split at hj
      · rw [List.getElem?_drop] at hj
        have := h4 (o + j) v hj
        rw [Nat.add_assoc]; exact this
      · cases hj

theorem av_fa_rp {f off : Nat} {cs ds : List AV} (hf : FieldAt P T f off) (hx : aev st.l x = some (.rp cs)) (hd : cs.drop off = ds) (hN : Nat.blt d N.n = true := by rfl) : AOpV P N X ⟨some d, .fieldAddr T x f, U, pos, aft, g⟩ (.rp ds) st :=
  av_of rfl fun Q fr w m ρ φ hc => by
    obtain ⟨p, h1, h2⟩ := hc.ev hx
    simp only [RepA] at h2
    obtain ⟨b, o, us, rfl, h3, h4, h5⟩ := h2
    subst hd
    refine ⟨_, ?_, fun K hk => op_fieldAddr h1 hf hN hk⟩
    simp only [RepA]
    refine ⟨b, o + off, us.drop off, rfl, h3.drop off, ?_, fun u hu => h5 u (List.mem_of_mem_drop hu)⟩
    intro j v hj
    rw [List.getElem?_drop] at hj
    have := h4 (off + j) v hj
    rw [Nat.add_assoc]; exact this
theorem av_fa_ptr {f off i o o' : Nat} (hf : FieldAt P T f off) (hx : aev st.l x = some (.ptr i o)) (ho : o + off = o') (hN : Nat.blt d N.n = true := by rfl) : AOpV P N X ⟨some d, .fieldAddr T x f, U, pos, aft, g⟩ (.ptr i o') st :=
  av_of rfl fun Q fr w m ρ φ hc => by
    obtain ⟨p, h1, h2⟩ := hc.ev hx
    simp only [RepA] at h2
    obtain ⟨b, h3, rfl⟩ := h2
    subst ho
    exact ⟨_, by simp only [RepA]; exact ⟨b, h3, rfl⟩, fun K hk => op_fieldAddr h1 hf hN hk⟩
theorem av_fa_ep {f off i sz z o o' : Nat} (hf : FieldAt P T f off) (hx : aev st.l x = some (.ep i sz z o)) (ho : o + off = o') (hN : Nat.blt d N.n = true := by rfl) : AOpV P N X ⟨some d, .fieldAddr T x f, U, pos, aft, g⟩ (.ep i sz z o') st :=
  av_of rfl fun Q fr w m ρ φ hc => by
    obtain ⟨p, h1, h2⟩ := hc.ev hx
    simp only [RepA] at h2
    obtain ⟨b, n, c, h3, rfl⟩ := h2
    subst ho
    exact ⟨_, by simp only [RepA]; exact ⟨b, n, c, h3, rfl⟩, fun K hk => op_fieldAddr h1 hf hN (by rw [Nat.add_assoc]; exact hk)⟩

theorem av_ia_sl {t : Ty} {xs : List t.den} {e : t.den} {E : Nat} (hU : Und P T (.slice E)) (hS : Sz P E t.cells) (hx : aev st.l x = some (.sl t xs)) (hy : aev st.l y = some (.int k a)) (he : ix xs a = some e) (hN : Nat.blt d N.n = true := by rfl) : AOpV P N X ⟨some d, .indexAddr T x y, U, pos, aft, g⟩ (.rp (expl t e)) st :=
  av_of rfl fun Q fr w m ρ φ hc => by
    obtain ⟨p, h1, h2⟩ := hc.ev hx
    simp only [RepA, RC] at h2
    obtain ⟨A, n, c, h3, h4, h5, h6, b, o, h7, h8⟩ := h2
    cases h3
    obtain ⟨g1, g2, g3⟩ := ix_some he
    obtain ⟨us, h9, h10⟩ := h8 _ _ g3
    refine ⟨_, ?_, fun K hk => op_indexAddr (j := a.toNat) h1 (hc.int hy) hU hS (h7 (by omega)) (by omega) (by omega) hN hk⟩
    simp only [RepA]
    exact ⟨b, _, us, rfl, rc_expl h9, h10, h9.one⟩
theorem av_ia_osl {i : Nat} {t : Ty} {xs : List t.den} {E E' : Nat} {e : t.den} (hU : Und P T (.slice E)) (hS : Sz P E t.cells) (hx : aev st.l x = some (.osl i)) (hy : aev st.l y = some (.int k a)) (hH : st.H.get i = .sl E' t xs) (he : ix xs a = some e) (hN : Nat.blt d N.n = true := by rfl) : AOpV P N X ⟨some d, .indexAddr T x y, U, pos, aft, g⟩ (.ep i t.cells a.toNat 0) st :=
  av_of rfl fun Q fr w m ρ φ hc => by
    obtain ⟨g1, g2, g3⟩ := ix_some he
    obtain ⟨p, h1, h2⟩ := hc.ev hx
    simp only [RepA] at h2
    obtain ⟨f, _, ho, hw⟩ := hc.obj h2.1
    rw [hH] at ho
    obtain ⟨_, ⟨rfl, rfl, _⟩ | ⟨b', c', cs, vs, rfl, rfl, h3, h4, h5, h6, h7⟩⟩ := ho
    · simp at g2
    · refine ⟨_, ?_, fun K hk => op_indexAddr (b := b') (o := 0) (j := a.toNat) h1 (hc.int hy) hU hS rfl (by omega) (by omega) hN hk⟩
      simp only [RepA]
      exact ⟨b', _, c', h2.1, by simp⟩
theorem ix_at {α : Type} {xs : List α} {z : Int} {e : α} (h : ix xs z = some e) : xs[z.toNat]? = some e := (ix_some h).2.2
theorem av_nilCheck_rp {cs : List AV} (hx : aev st.l x = some (.rp cs)) (hN : Nat.blt d N.n = true := by rfl) : AOpV P N X ⟨some d, .nilCheck x, U, pos, aft, g⟩ (.rp cs) st :=
  av_of rfl fun Q fr w m ρ φ hc => by
    obtain ⟨p, h1, h2⟩ := hc.ev hx
    have h2' := h2
    simp only [RepA] at h2
    obtain ⟨b, o, us, rfl, _⟩ := h2
    exact ⟨_, h2', fun K hk => op_nilCheck_p h1 hN hk⟩
theorem av_nilCheck_ptr {i o : Nat} (hx : aev st.l x = some (.ptr i o)) (hN : Nat.blt d N.n = true := by rfl) : AOpV P N X ⟨some d, .nilCheck x, U, pos, aft, g⟩ (.ptr i o) st :=
  av_of rfl fun Q fr w m ρ φ hc => by
    obtain ⟨p, h1, h2⟩ := hc.ev hx
    have h2' := h2
    simp only [RepA] at h2
    obtain ⟨b, _, rfl⟩ := h2
    exact ⟨_, h2', fun K hk => op_nilCheck_p h1 hN hk⟩
theorem av_nilCheck_ep {i sz z o : Nat} (hx : aev st.l x = some (.ep i sz z o)) (hN : Nat.blt d N.n = true := by rfl) : AOpV P N X ⟨some d, .nilCheck x, U, pos, aft, g⟩ (.ep i sz z o) st :=
  av_of rfl fun Q fr w m ρ φ hc => by
    obtain ⟨p, h1, h2⟩ := hc.ev hx
    have h2' := h2
    simp only [RepA] at h2
    obtain ⟨b, _, _, _, rfl⟩ := h2
    exact ⟨_, h2', fun K hk => op_nilCheck_p h1 hN hk⟩
end
end Go.Ab
