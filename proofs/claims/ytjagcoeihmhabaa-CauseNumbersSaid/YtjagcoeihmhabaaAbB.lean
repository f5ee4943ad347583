/- Lemmas for a law of the seat: what functions of the program do, each stated as a contract of its own (module AbB). -/
import Derived.Test.YtjagcoeihmhabaaAbA
set_option linter.unusedVariables false
set_option linter.unusedSimpArgs false
namespace Go.Ab
open Go.RowKit Go.Shelf Go.Proofs Go.Eng

/-! what the walk knows -/
abbrev AFr := List (Nat × AV)
def AFr.look : AFr → Nat → Option AV
  | [], _ => none
  | (d, v) :: l, t => bif Nat.beq d t then some v else AFr.look l t
abbrev AH := List (Nat × AO)
def AH.get : AH → Nat → AO
  | [], _ => .dead
  | (d, v) :: l, t => bif Nat.beq d t then v else AH.get l t
structure AS where
  l : AFr
  H : AH
  n : Nat
def AS.put (st : AS) (d : Nat) (a : AV) : AS := ⟨(d, a) :: st.l, st.H, st.n⟩

def aev (l : AFr) : Operand → Option AV
  | .tmp t => l.look t
  | .const v => some (ofV v)
  | .func f => some (.fn f [] [])
  | .global _ => none

/-- What the call came with: streams, what was read alone, the first handles, what is not its own. -/
structure Cx where
  e : World
  m : Mem
  ρ : List Value
  F : Frag

structure Conc (X : Cx) (st : AS) (fr : Fr) (w : World) (m : Mem) (ρ : List Value) (φ : List Frag) : Prop where
  mle : X.m.le m
  pre : ∀ (i : Nat) (h : Value), X.ρ[i]? = some h → ρ[i]? = some h
  nρ : ρ.length = st.n
  nφ : φ.length = st.n
  slots : ∀ t a, st.l.look t = some a → ∃ v, fr.look t = some v ∧ RepA m ρ a v
  objs : ∀ (i : Nat) (h : Value) (f : Frag), ρ[i]? = some h → φ[i]? = some f → ORep m ρ (st.H.get i) h f
  sh : SH X.e w m (φ.flatten ++ X.F)

abbrev APost := Exit → AS → Prop
def upQ (X : Cx) (Q : APost) : Post := fun e fr w => ∃ st m ρ φ, Conc X st fr w m ρ φ ∧ Q e st
def upK (X : Cx) (K : AS → Prop) : Fr → World → Prop := fun fr w => ∃ st m ρ φ, Conc X st fr w m ρ φ ∧ K st
def athen (K : AS → Prop) (Q : APost) : APost
  | .normal, st => K st
  | e, st => Q e st
def ablock (id : Nat) (Q : APost) : APost
  | .exit id', st => bif Nat.beq id' id then Q .normal st else Q (.exit id') st
  | e, st => Q e st

def AWC (P : Program) (N : Ev) (X : Cx) (c : Code) (Q : APost) (st : AS) : Prop := ∀ fr w m ρ φ, Conc X st fr w m ρ φ → WC P N c (upQ X Q) fr w
def AWL (P : Program) (N : Ev) (X : Cx) (ops : Array Oper) (Q : APost) (rest : List Oper) (st : AS) : Prop := ∀ fr w m ρ φ, Conc X st fr w m ρ φ → WL P N ops (upQ X Q) rest fr w
/-- One operation. -/
def AOp (P : Program) (N : Ev) (X : Cx) (o : Oper) (K : AS → Prop) (st : AS) : Prop := ∀ (Q : Post) fr w m ρ φ, Conc X st fr w m ρ φ → OpW P N o (upK X K) Q fr w
/-- One operation that gives a value and turns nothing that was there. -/
def AOpV (P : Program) (N : Ev) (X : Cx) (o : Oper) (a : AV) (st : AS) : Prop := ∀ (Q : Post) fr w m ρ φ, Conc X st fr w m ρ φ →
  OpW P N o (fun fr' w' => ∃ d v, o.dst = some d ∧ fr' = (d, v) :: fr ∧ Below w.heap.size w w' ∧ ∃ m', m.le m' ∧ SH X.e w' m' (φ.flatten ++ X.F) ∧ RepA m' ρ a v) Q fr w

section
variable {P : Program} {N : Ev} {X : Cx} {Q : APost} {st : AS}

theorem AFr.look_cons (d : Nat) (v : AV) (l : AFr) (t : Nat) : AFr.look ((d, v) :: l) t = if d = t then some v else AFr.look l t := by
  simp only [AFr.look]
  by_cases h : d = t
  · subst h; simp
  · have : Nat.beq d t = false := by
      rw [Bool.eq_false_iff]; intro hc; exact h (Nat.eq_of_beq_eq_true hc)
    simp [this, h]
theorem AH.get_cons (d : Nat) (v : AO) (l : AH) (t : Nat) : AH.get ((d, v) :: l) t = if d = t then v else AH.get l t := by
  simp only [AH.get]
  by_cases h : d = t
  · subst h; simp
  · have : Nat.beq d t = false := by
      rw [Bool.eq_false_iff]; intro hc; exact h (Nat.eq_of_beq_eq_true hc)
    simp [this, h]

theorem Conc.put {fr : Fr} {w : World} {m : Mem} {ρ : List Value} {φ : List Frag} (h : Conc X st fr w m ρ φ) {d : Nat} {a : AV} {v : Value} (ha : RepA m ρ a v) : Conc X (st.put d a) ((d, v) :: fr) w m ρ φ := by
  refine ⟨h.mle, h.pre, h.nρ, h.nφ, ?_, h.objs, h.sh⟩
  intro t b hb
  simp only [AS.put, AFr.look_cons] at hb
  rw [Fr.look_cons]
  split
  · rename_i e; rw [if_pos e] at hb; cases hb; exact ⟨v, rfl, ha⟩
  · rename_i e; rw [if_neg e] at hb; exact h.slots t b hb

theorem Conc.grow {fr : Fr} {w w' : World} {m m' : Mem} {ρ : List Value} {φ : List Frag} (h : Conc X st fr w m ρ φ) (hm : m.le m') (hs : SH X.e w' m' (φ.flatten ++ X.F)) : Conc X st fr w' m' ρ φ :=
  ⟨h.mle.trans hm, h.pre, h.nρ, h.nφ, fun t a ha => let ⟨v, h1, h2⟩ := h.slots t a ha; ⟨v, h1, RepA.mono hm (fun _ _ h => h) a h2⟩, fun i hd f h1 h2 => (h.objs i hd f h1 h2).mono hm (fun _ _ h => h), hs⟩

theorem Conc.ev {fr : Fr} {w : World} {m : Mem} {ρ : List Value} {φ : List Frag} (h : Conc X st fr w m ρ φ) {x : Operand} {a : AV} (hx : aev st.l x = some a) : ∃ v, evo fr x = some v ∧ RepA m ρ a v := by
  cases x with
  | tmp t => exact h.slots t a hx
  | const v => simp only [aev, Option.some.injEq] at hx; subst hx; exact ⟨v, rfl, rep_ofV m ρ v⟩
  | func f => simp only [aev, Option.some.injEq] at hx; subst hx; exact ⟨_, rfl, by simp only [RepA]; exact ⟨[], [], rfl, by simp [RepL], by simp [RepL]⟩⟩
  | global g => simp [aev] at hx

theorem awc_mono {c : Code} {Q' : APost} (hq : ∀ e st, Q e st → Q' e st) (h : AWC P N X c Q st) : AWC P N X c Q' st :=
  fun fr w m ρ φ hc => WC.mono (fun e l w ⟨st, m, ρ, φ, h1, h2⟩ => ⟨st, m, ρ, φ, h1, hq _ _ h2⟩) (h fr w m ρ φ hc)

theorem awc_seq {c d : Code} (h : AWC P N X c (athen (AWC P N X d Q) Q) st) : AWC P N X (.seq c d) Q st := by
  intro fr w m ρ φ hc
  refine wc_seq (WC.mono ?_ (h fr w m ρ φ hc))
  rintro e l w ⟨st, m, ρ, φ, h1, h2⟩
  cases e with
  | normal => exact h2 _ _ _ _ _ h1
  | _ => exact ⟨st, m, ρ, φ, h1, h2⟩
theorem awc_skip (h : Q .normal st) : AWC P N X .skip Q st := fun fr w m ρ φ hc => wc_skip ⟨st, m, ρ, φ, hc, h⟩
theorem awc_label {n : Nat} (h : Q .normal st) : AWC P N X (.label n) Q st := fun fr w m ρ φ hc => wc_label ⟨st, m, ρ, φ, hc, h⟩
theorem awc_exit {id : Nat} (h : Q (.exit id) st) : AWC P N X (.exit id) Q st := fun fr w m ρ φ hc => wc_exit ⟨st, m, ρ, φ, hc, h⟩
theorem awc_ret (h : Q .ret st) : AWC P N X .ret Q st := fun fr w m ρ φ hc => wc_ret ⟨st, m, ρ, φ, hc, h⟩
theorem awc_block {id : Nat} {c : Code} (h : AWC P N X c (ablock id Q) st) : AWC P N X (.block id c) Q st := by
  intro fr w m ρ φ hc
  refine wc_block (WC.mono ?_ (h fr w m ρ φ hc))
  rintro e l w ⟨st, m, ρ, φ, h1, h2⟩
  cases e with
  | exit id' =>
    simp only [blockQ, ablock] at h2 ⊢
    cases hb : Nat.beq id' id
    · rw [hb] at h2; exact ⟨st, m, ρ, φ, h1, h2⟩
    · rw [hb] at h2; exact ⟨st, m, ρ, φ, h1, h2⟩
  | _ => exact ⟨st, m, ρ, φ, h1, h2⟩
theorem awc_cond {c : Operand} {x y : Code} {b : Bool} (hc : aev st.l c = some (.bool b)) (ht : b = true → AWC P N X x Q st) (hf : b = false → AWC P N X y Q st) : AWC P N X (.cond c x y) Q st := by
  intro fr w m ρ φ h
  obtain ⟨v, h1, h2⟩ := h.ev hc
  simp only [RepA] at h2
  subst h2
  exact wc_cond h1 (fun hb => ht hb fr w m ρ φ h) (fun hb => hf hb fr w m ρ φ h)
theorem awc_scope : True := trivial

theorem athen_norm {K : AS → Prop} (h : K st) : athen K Q .normal st := h
theorem athen_exit {K : AS → Prop} {i : Nat} (h : Q (.exit i) st) : athen K Q (.exit i) st := h
theorem athen_ret {K : AS → Prop} (h : Q .ret st) : athen K Q .ret st := h
theorem ablock_norm {id : Nat} (h : Q .normal st) : ablock id Q .normal st := h
theorem ablock_ret {id : Nat} (h : Q .ret st) : ablock id Q .ret st := h
theorem ablock_here {id : Nat} (h : Q .normal st) : ablock id Q (.exit id) st := by simp [ablock]; exact h
theorem ablock_far {id i : Nat} (hne : Nat.beq i id = false) (h : Q (.exit i) st) : ablock id Q (.exit i) st := by simp only [ablock, hne]; exact h

/-! regions in the text's order -/
theorem awc_region {id : Nat} {ops : List Oper} (h : AWL P N X ops.toArray Q ops st) : AWC P N X (.region id ops.toArray false) Q st := fun fr w m ρ φ hc => wc_region (h fr w m ρ φ hc)
theorem awl_nil {ops : Array Oper} (h : Q .normal st) : AWL P N X ops Q [] st := fun fr w m ρ φ hc => wl_done ⟨st, m, ρ, φ, hc, h⟩
theorem awl_op {ops : Array Oper} {o : Oper} {rest : List Oper} (h : AOp P N X o (AWL P N X ops Q rest) st) (hg : o.guard = none := by rfl) : AWL P N X ops Q (o :: rest) st := by
  intro fr w m ρ φ hc
  refine wl_op hg ?_
  have := h (upQ X Q) fr w m ρ φ hc
  intro a ha hgd
  refine Oper.wpIn_mono ?_ (this a ha hgd)
  rintro a w ⟨l', hl', g', ⟨st', m', ρ', φ', h1, h2⟩⟩
  exact ⟨l', hl', g', h2 _ _ _ _ _ h1⟩
theorem aop_v {o : Oper} {a : AV} {K : AS → Prop} {d : Nat} (h : AOpV P N X o a st) (k : K (st.put d a)) (hd : o.dst = some d := by rfl) : AOp P N X o K st := by
  intro Q fr w m ρ φ hc a' ha hgd
  refine Oper.wpIn_mono ?_ (h Q fr w m ρ φ hc a' ha hgd)
  rintro a w' ⟨l', hl', g', ⟨d', v, hd', rfl, hb, m', hm, hs, hr⟩⟩
  rw [hd] at hd'; cases hd'
  exact ⟨_, hl', g', ⟨_, m', ρ, φ, (hc.grow hm hs).put hr, k⟩⟩
theorem awl_v {ops : Array Oper} {o : Oper} {rest : List Oper} {a : AV} {d : Nat} (h : AOpV P N X o a st) (k : AWL P N X ops Q rest (st.put d a)) (hd : o.dst = some d := by rfl) (hg : o.guard = none := by rfl) : AWL P N X ops Q (o :: rest) st :=
  awl_op (aop_v h k hd) hg

/-- A value out of the operands alone. -/
theorem av_of {o : Oper} {a : AV} {d : Nat} (hd : o.dst = some d) (h : ∀ (Q : Post) fr w m ρ φ, Conc X st fr w m ρ φ → ∃ v, RepA m ρ a v ∧ ∀ K : Fr → World → Prop, K ((d, v) :: fr) w → OpW P N o K Q fr w) : AOpV P N X o a st := by
  intro Q fr w m ρ φ hc
  obtain ⟨v, h1, h2⟩ := h Q fr w m ρ φ hc
  exact h2 _ ⟨d, v, hd, rfl, Below.refl _ _, m, Mem.le_refl _, hc.sh, h1⟩
end

/-! reading operands -/
section
variable {X : Cx} {st : AS} {fr : Fr} {w : World} {m : Mem} {ρ : List Value} {φ : List Frag}
theorem Conc.int {x : Operand} {k : IntKind} {z : Int} (h : Conc X st fr w m ρ φ) (hx : aev st.l x = some (.int k z)) : evo fr x = some (.int k z) := by
  obtain ⟨v, h1, h2⟩ := h.ev hx; simp only [RepA] at h2; subst h2; exact h1
theorem Conc.bool {x : Operand} {b : Bool} (h : Conc X st fr w m ρ φ) (hx : aev st.l x = some (.bool b)) : evo fr x = some (.bool b) := by
  obtain ⟨v, h1, h2⟩ := h.ev hx; simp only [RepA] at h2; subst h2; exact h1
theorem Conc.str {x : Operand} {s : Str} (h : Conc X st fr w m ρ φ) (hx : aev st.l x = some (.str s)) : evo fr x = some (.string (bstr s)) := by
  obtain ⟨v, h1, h2⟩ := h.ev hx; simp only [RepA] at h2; subst h2; exact h1
theorem Conc.evl {xs : List Operand} {as' : List AV} (h : Conc X st fr w m ρ φ) (hx : (xs.map (aev st.l)) = as'.map some) : ∃ vs, evl fr xs = some vs ∧ RepL m ρ as' vs := by
  induction xs generalizing as' with
  | nil => cases as' with
    | nil => exact ⟨[], rfl, by simp [RepL]⟩
    | cons => simp at hx
  | cons x xs ih => cases as' with
    | nil => simp at hx
    | cons a as' =>
      simp only [List.map_cons, List.cons.injEq] at hx
      obtain ⟨v, h1, h2⟩ := h.ev hx.1
      obtain ⟨vs, h3, h4⟩ := ih hx.2
      exact ⟨v :: vs, by simp [Eng.evl, h1, h3], by simp only [RepL]; exact ⟨h2, h4⟩⟩
end
end Go.Ab
