/- Lemmas for a law of the seat: what functions of the program do, each stated as a contract of its own (Ab2). -/
import Derived.Test.YtigjjobjdajkfaaDoorAb1
import Derived.Sort.Grow
import Derived.Sort.Row
import Derived.Scope
import Derived.Test.YtigjjobjdajkfaaDoorEng
set_option linter.unusedVariables false
set_option linter.unusedSimpArgs false
namespace Go.Ab
open Go.RowKit Go.Shelf Go.Proofs Go.Eng

section
variable {P : Program} {N : Ev}
end
section
variable {P : Program} {N : Ev} {X : Cx} {Q : APost} {st : AS}
end
end Go.Ab


set_option linter.unusedVariables false
set_option linter.unusedSimpArgs false
namespace Go.Ab
open Go.RowKit Go.Shelf Go.Proofs Go.Eng

theorem buildS_of {P : Program} {T E : Nat} {t : Ty} {z : Value} (h1 : P.underlying T = some (.slice E)) (h2 : (P.info? E).map (fun i => (i.zero, i.size)) = some (some z, t.cells)) (hz : z.cells.toList = zeroV t) : BuildS P T E t := by
  cases hi : P.info? E with
  | none => rw [hi] at h2; cases h2
  | some i => rw [hi] at h2; simp at h2; exact ⟨h1, i, z, hi, h2.1, h2.2, hz⟩

/-! what a function comes to: its text -/
abbrev w64 (z : Int) : Int := IntKind.wrap .i64 z
theorem chk_some {α : Type} {c : Bool} {a : Option α} {r : α} (h : (bif c then a else none) = some r) : c = true ∧ a = some r := by
  cases c with
  | true => exact ⟨rfl, h⟩
  | false => cases h
theorem bnd_some {α β : Type} {o : Option α} {f : α → Option β} {r : β} (h : o.bind f = some r) : ∃ x, o = some x ∧ f x = some r := Option.bind_eq_some_iff.1 h
theorem if_t {α : Type} {c : Bool} {a b : Option α} {r : α} (hc : c = true) (h : (bif c then a else b) = some r) : a = some r := by subst hc; exact h
theorem if_f {α : Type} {c : Bool} {a b : Option α} {r : α} (hc : c = false) (h : (bif c then a else b) = some r) : b = some r := by subst hc; exact h
/-- What is asked about under a guard. -/
theorem imp_g {g c : Bool} (h : (!g || c) = true) (hg : g = true) : c = true := by subst hg; simpa using h
theorem get_g {α : Type} [Inhabited α] {g : Bool} {o : Option α} (h : (!g || o.isSome) = true) (hg : g = true) : o = some (o.getD default) := by
  subst hg
  cases o with
  | none => simp at h
  | some x => rfl

/-- Rounds of an index. -/
def rng {S R : Type} (g : Int → S → Option (S ⊕ R)) : Nat → Int → S → Option (S ⊕ R)
  | 0, _, s => some (.inl s)
  | k + 1, i, s => (g i s).bind fun o => match o with
    | .inl s' => rng g k (i + 1) s'
    | .inr r => some (.inr r)
/-- One round as the machine goes it. -/
def rb {S R : Type} (n : Int) (g : Int → S → Option (S ⊕ R)) (p : Int × S) : Option ((Int × S) ⊕ (S ⊕ R)) :=
  bif decide (p.1 < n) then (g p.1 p.2).bind fun o => match o with
    | .inl s' => some (.inl (w64 (p.1 + 1), s'))
    | .inr r => some (.inr (.inr r))
  else some (.inr (.inl p.2))
theorem rng_lrun {S R : Type} {n : Int} {g : Int → S → Option (S ⊕ R)} (hn : n ≤ 9223372036854775807) : ∀ (k : Nat) (i : Int) (s : S) (o : S ⊕ R), (n - i).toNat = k → 0 ≤ i → rng g k i s = some o → lrun (rb n g) (k + 1) (i, s) = some o := by
  intro k
  induction k with
  | zero =>
    intro i s o hk h0 h
    simp only [rng, Option.some.injEq] at h
    subst h
    have : decide (i < n) = false := by simp; omega
    simp [lrun, rb, this]
  | succ k ih =>
    intro i s o hk h0 h
    simp only [rng] at h
    obtain ⟨q, hq, h⟩ := bnd_some h
    have hlt : decide (i < n) = true := by simp; omega
    have hw : w64 (i + 1) = i + 1 := wrap_i64 (by omega)
    rw [lrun, rb, hlt, cond_true, hq]
    cases q with
    | inl s' => simp only [Option.bind_some, hw]; exact ih (i + 1) s' o (by omega) (by omega) h
    | inr r => simpa using h

def joinQ {S R : Type} (X : Cx) (M : S → AS) (Qx : R → APost) : S ⊕ R → APost
  | .inl s, .normal, st => Wk X st (M s)
  | .inl _, _, _ => False
  | .inr _, .normal, _ => False
  | .inr r, e, st => Qx r e st

section
variable {P : Program} {N : Ev} {X : Cx} {Q : APost} {st : AS}
/-- What goes on in one way behind several. -/
theorem awc_join {S R : Type} {c d : Code} (M : S → AS) (Qx : R → APost) {p : Option (S ⊕ R)} {o : S ⊕ R} (hp : p = some o) (h1 : p = some o → AWC P N X c (joinQ X M Qx o) st) (h2 : ∀ s, o = .inl s → AWC P N X d Q (M s)) (h3 : ∀ r, o = .inr r → ∀ e st, e ≠ .normal → Qx r e st → Q e st) : AWC P N X (.seq c d) Q st := by
  refine awc_seq (awc_mono ?_ (h1 hp))
  intro e st' hq
  cases o with
  | inl s =>
    cases e with
    | normal => exact awc_wk hq (h2 s rfl)
    | _ => exact hq.elim
  | inr r =>
    cases e with
    | normal => exact hq.elim
    | ret => exact h3 r rfl _ _ (by simp) hq
    | exit i => exact h3 r rfl _ _ (by simp) hq
    | goto i => exact h3 r rfl _ _ (by simp) hq
    | panic i => exact h3 r rfl _ _ (by simp) hq
    | outgrown => exact h3 r rfl _ _ (by simp) hq

/-- A loop over an index. -/
theorem awc_range {S R : Type} {c : Code} (n : Int) (g : Int → S → Option (S ⊕ R)) (Inv : Int × S → AS) (Qx : S ⊕ R → APost) {s : S} {o : S ⊕ R} (hn : n ≤ 9223372036854775807) (hr : rng g n.toNat 0 s = some o) (hi : Wk X st (Inv (0, s))) (hQ : ∀ e st, Qx o e st → Q e st)
    (body : ∀ i s o, rb n g (i, s) = some o → AWC P N X c (loopQ X Inv Qx o) (Inv (i, s))) : AWC P N X (.loop c) Q st :=
  awc_loop Inv (rb n g) Qx (rng_lrun hn n.toNat 0 s o (by omega) (Int.le_refl _) hr) hi hQ fun p o h => body p.1 p.2 o h
theorem rb_t {S R : Type} {n i : Int} {g : Int → S → Option (S ⊕ R)} {s : S} {o : (Int × S) ⊕ (S ⊕ R)} (hc : decide (i < n) = true) (h : rb n g (i, s) = some o) : ∃ q, g i s = some q ∧ o = match q with
    | .inl s' => .inl (w64 (i + 1), s')
    | .inr r => .inr (.inr r) := by
  unfold rb at h
  simp only [hc, cond_true] at h
  obtain ⟨q, hq, h⟩ := bnd_some h
  refine ⟨q, hq, ?_⟩
  cases q with
  | inl s' => simp at h; exact h.symm
  | inr r => simp at h; exact h.symm
theorem rb_f {S R : Type} {n i : Int} {g : Int → S → Option (S ⊕ R)} {s : S} {o : (Int × S) ⊕ (S ⊕ R)} (hc : decide (i < n) = false) (h : rb n g (i, s) = some o) : o = .inr (.inl s) := by
  unfold rb at h
  simp only [hc, cond_false] at h
  simp at h; exact h.symm

/-- How long a slice is at most. -/
theorem awc_len {c : Code} {t : Nat} {ty : Ty} {x : List ty.den} (hx : st.l.look t = some (.sl ty x)) (k : x.length ≤ cap47 → AWC P N X c Q st) : AWC P N X c Q st := by
  intro fr w m ρ φ hc
  obtain ⟨v, h1, h2⟩ := hc.slots t _ hx
  simp only [RepA] at h2
  obtain ⟨_, _, _, _, h3, _⟩ := rc_slice h2
  exact k h3 fr w m ρ φ hc
theorem awc_lenO {c : Code} {i : Nat} {E : TypeId} {ty : Ty} {x : List ty.den} (hH : st.H.get i = .sl E ty x) (hn : Nat.blt i st.n = true) (k : x.length ≤ cap47 → AWC P N X c Q st) : AWC P N X c Q st := by
  intro fr w m ρ φ hc
  have hi : i < ρ.length := by rw [hc.nρ]; simpa using hn
  obtain ⟨f, _, ho, _⟩ := hc.obj (List.getElem?_eq_getElem hi)
  rw [hH] at ho
  exact k ho.1 fr w m ρ φ hc
theorem len_ok {n : Nat} (h : n ≤ cap47) : ((n : Nat) : Int) ≤ 9223372036854775807 := by
  have : cap47 = 140737488355328 := rfl
  omega

/-- Rows of the call's own are read alone from now on. -/
theorem frz_conc {fr : Fr} {w : World} {m : Mem} {ρ : List Value} {φ : List Frag} (hc : Conc X st fr w m ρ φ) {i : Nat} {E : TypeId} {ty : Ty} {x : List ty.den} (hH : st.H.get i = .sl E ty x) {v : Value} (hv : RepA m ρ (.osl i) v) :
    ∃ m', m.le m' ∧ Conc X (st.upd i .dead) fr w m' ρ (φ.set i []) ∧ RepA m' ρ (.sl ty x) v := by
  simp only [RepA] at hv
  obtain ⟨f, hf, ho, hw⟩ := hc.obj hv.1
  rw [hH] at ho
  have hfr := hc.front hf
  have hz := hfr.frz
  have hle := Mem.le_add m f
  have h2 : Conc X (st.upd i .dead) fr w (m.add f) ρ (φ.set i []) := by
    refine ⟨hc.mle.trans hle, hc.pre, hc.nρ, by rw [List.length_set]; exact hc.nφ, fun t a ha => let ⟨v, h3, h4⟩ := hc.slots t a ha; ⟨v, h3, RepA.mono hle (fun _ _ h => h) a h4⟩, ?_, ?_⟩
    · intro j hd g hj hg
      simp only [AS.upd, AH.get_cons]
      by_cases e : i = j
      · subst e
        rw [if_pos rfl]
        rw [List.getElem?_set_self (List.getElem?_eq_some_iff.1 hf).1] at hg
        cases hg; rfl
      · rw [if_neg e]
        rw [List.getElem?_set_ne e] at hg
        exact (hc.objs j hd g hj hg).mono hle (fun _ _ h => h)
    · refine hz.perm ?_
      exact ((frag_split hf []).2.append_right _).symm
  refine ⟨m.add f, hle, h2, ?_⟩
  simp only [RepA]
  have hnd := hfr.nd
  rw [List.map_append, List.nodup_append] at hnd
  obtain ⟨h0, ⟨rfl, rfl, rfl⟩ | ⟨b, c, cs, vs, h3, h4, q1, q2, q3, q4, q5⟩⟩ := ho
  · simp only [RC]; exact ⟨none, 0, 0, rfl, rfl, Nat.le_refl _, Nat.zero_le _, 0, 0, fun h => absurd h (by omega), fun i y hy => by simp at hy⟩
  · subst h4
    rw [h3]
    exact rows_slice (add_get (o := .cells cs E (0, 0)) hnd.1 (List.mem_singleton.2 rfl) (hfr.dis (b, .cells cs E (0, 0)) (by simp))) (q4.mono hle) q5 q1 h0
def putAll (l : AFr) (a : AV) : List Nat → AFr
  | [] => l
  | t :: r => (t, a) :: putAll l a r
theorem wk_frz (ts : List Nat) (i : Nat) {E : TypeId} {ty : Ty} {x : List ty.den} (hi : Nat.blt i st.n = true) (hH : st.H.get i = .sl E ty x) (ht : ts.map st.l.look = ts.map fun _ => some (.osl i)) : Wk X st ⟨putAll st.l (.sl ty x) ts, (i, .dead) :: st.H, st.n⟩ := by
  intro fr w m ρ φ hc
  cases ts with
  | nil =>
    have hil : i < ρ.length := by rw [hc.nρ]; simpa using hi
    obtain ⟨f, hf, ho, _⟩ := hc.obj (List.getElem?_eq_getElem hil)
    rw [hH] at ho
    have hone : (ρ[i]'hil).oneCell' = true := by
      obtain ⟨_, ⟨_, h, _⟩ | ⟨_, _, _, _, h, _⟩⟩ := ho <;> rw [h] <;> rfl
    obtain ⟨m', _, h, _⟩ := frz_conc hc hH (v := ρ[i]'hil) (by simp only [RepA]; exact ⟨List.getElem?_eq_getElem hil, hone⟩)
    exact ⟨m', ρ, _, h⟩
  | cons t r =>
    have h0 : st.l.look t = some (.osl i) := by simp at ht; exact ht.1
    obtain ⟨v, h1, h2⟩ := hc.slots t _ h0
    obtain ⟨m', h3, h4, h5⟩ := frz_conc hc hH h2
    simp only [RepA] at h2
    refine ⟨m', ρ, _, h4.mle, h4.pre, h4.nρ, h4.nφ, ?_, h4.objs, h4.sh⟩
    have key : ∀ (us : List Nat), (us.map st.l.look = us.map fun _ => some (.osl i)) → ∀ q a, (putAll st.l (.sl ty x) us).look q = some a → ∃ u, fr.look q = some u ∧ RepA m' ρ a u := by
      intro us
      induction us with
      | nil => intro _ q a hq; exact h4.slots q a hq
      | cons s us ih =>
        intro hs q a hq
        simp only [List.map_cons, List.cons.injEq] at hs
        simp only [putAll, AFr.look_cons] at hq
        split at hq
        · rename_i e; subst e; cases hq
          obtain ⟨u, g1, g2⟩ := hc.slots s _ hs.1
          simp only [RepA] at g2
          have : u = v := by have := g2.1.symm.trans h2.1; exact Option.some.inj this
          subst this
          exact ⟨_, g1, h5⟩
        · exact ih hs.2 q a hq
    exact key _ ht

end
/-! a call that reads what the caller owns -/
section
variable {P : Program} {N : Ev} {X : Cx} {Q : APost} {st : AS}
variable {d : Nat} {T U T' : TypeId} {pos : String} {aft : Array Edge} {g : Option (Nat × Bool)} {x y : Operand}
theorem allM_nil {w : World} {b : Nat} {o : Obj} (h : w.heap[b]? = some o) (hc : ctl o = false) : allM w [] b = some o := by unfold allM; simp [h, Option.filter, hc]
theorem of_allM {w : World} {b : Nat} {o : Obj} (h : allM w [] b = some o) : w.heap[b]? = some o ∧ ctl o = false := by
  unfold allM at h
  simp only [List.map_nil, List.contains_nil, Bool.false_eq_true, if_false] at h
  have := Option.filter_eq_some_iff.1 h
  exact ⟨this.1, by simpa using this.2⟩
theorem bor_rep {fr : Fr} {w : World} {m : Mem} {ρ : List Value} {φ : List Frag} (hc : Conc X st fr w m ρ φ) {a : AV} {v : Value} (h : RepA m ρ a v) : RepA (allM w []) [] (coeA st.H [] 4 a) v := by
  have hle : m.le (allM w []) := fun b o hb => allM_nil (hc.sh.fz b o hb) (hc.sh.mctl b o hb)
  refine coe_rep (φ := φ) hle (fun i j h hp => by simp [posN] at hp) (fun i h _ hi => ?_) 4 h
  obtain ⟨f, hf, h1, hw⟩ := hc.obj hi
  exact ⟨f, h1, fun p hp => allM_nil (hw p hp) (hc.sh.noctl p (List.mem_append.2 (.inl (List.mem_flatten.2 ⟨f, List.mem_of_getElem? hf, hp⟩))))⟩
theorem bor_repL {fr : Fr} {w : World} {m : Mem} {ρ : List Value} {φ : List Frag} (hc : Conc X st fr w m ρ φ) : ∀ {as' : List AV} {vs : List Value}, RepL m ρ as' vs → RepL (allM w []) [] (as'.map (coeA st.H [] 4)) vs := by
  intro as'
  induction as' with
  | nil => intro vs h; cases vs with
    | nil => simp [RepL]
    | cons => simp [RepL] at h
  | cons a as' ih => intro vs h; cases vs with
    | nil => simp [RepL] at h
    | cons v vs => simp only [List.map_cons, RepL] at h ⊢; exact ⟨bor_rep hc h.1, ih h.2⟩
def flatT : AV → Bool
  | .tup vs => vs.all flatB
  | a => flatB a
theorem flatT_rep {m m' : Mem} {ρ ρ' : List Value} {a : AV} {v : Value} (hf : flatT a = true) (h : RepA m ρ a v) : RepA m' ρ' a v := by
  have hflat : ∀ {a : AV} {v : Value}, flatB a = true → RepA m ρ a v → RepA m' ρ' a v := by
    intro a v hf h
    cases a <;> simp [flatB] at hf <;> simpa only [RepA] using h
  have hL : ∀ {as' : List AV} {vs : List Value}, (as'.all flatB) = true → RepL m ρ as' vs → RepL m' ρ' as' vs := by
    intro as'
    induction as' with
    | nil => intro vs _ h; cases vs with
      | nil => simp [RepL]
      | cons => simp [RepL] at h
    | cons a as' ih => intro vs hf h; cases vs with
      | nil => simp [RepL] at h
      | cons v vs => simp only [List.all_cons, Bool.and_eq_true] at hf; simp only [RepL] at h ⊢; exact ⟨hflat hf.1 h.1, ih hf.2 h.2⟩
  cases a with
  | tup vs => simp only [flatT] at hf; simp only [RepA] at h ⊢; obtain ⟨us, h1, h2⟩ := h; exact ⟨us, h1, hL hf h2⟩
  | int => exact hflat hf h
  | bool => exact hflat hf h
  | str => exact hflat hf h
  | _ => simp [flatT, flatB] at hf
/-- A call that owns nothing, of arguments seen more weakly. -/
theorem le_allM {e w : World} {m : Mem} {f : Frag} (h : SH e w m f) : m.le (allM w []) := fun b o hb => allM_nil (h.fz b o hb) (h.mctl b o hb)
theorem av_callN {f : FuncId} {xs : List Operand} {as' bs rs : List AV} {ts : Array TypeId} {r : AV} (hr : RunsM X.m P f bs [] fun r H' => r = rs ∧ H' = []) (hf : Enters P f) (hx : xs.map (aev st.l) = as'.map some) (hcv : cvL bs as') (hrs : tupA rs = r) (hcl : renL [] bs = bs := by rfl) (hN : Nat.blt d N.n = true := by rfl) :
    AOpV P N X ⟨some d, .call ⟨.value (.func f), xs.toArray, ts⟩, U, pos, aft, g⟩ r st := by
  intro Q fr w m ρ φ hc
  obtain ⟨vs, h1, h2⟩ := hc.evl hx
  subst hrs
  refine op_call hf h1 (ret_pure hr hcl hc (cvL_rep hcv h2)) hN ?_
  rintro v w' ⟨hb, m', h3, h4, h5⟩
  exact ⟨d, v, rfl, rfl, hb, m', h3, h4, h5⟩
theorem av_callB {f : FuncId} {xs : List Operand} {as' bs rs : List AV} {ts : Array TypeId} {r : AV} (hr : RunsM X.m P f bs [] fun r H' => r = rs ∧ H' = []) (hf : Enters P f) (hx : xs.map (aev st.l) = as'.map some) (hbs : cvL bs (as'.map (coeA st.H [] 4))) (hrs : tupA rs = r) (hfl : flatT r = true) (hN : Nat.blt d N.n = true := by rfl) :
    AOpV P N X ⟨some d, .call ⟨.value (.func f), xs.toArray, ts⟩, U, pos, aft, g⟩ r st := by
  intro Q fr w m ρ φ hc
  obtain ⟨vs, h1, h2⟩ := hc.evl hx
  subst hrs
  have hv : RepL (allM w []) [] bs vs := cvL_rep hbs (bor_repL hc h2)
  have hsh : SH X.e w (allM w []) [] := ⟨hc.sh.os, hc.sh.tape, hc.sh.output, fun b o hb => (of_allM hb).1, fun p hp => by simp at hp, by simp, fun p hp => by simp at hp, fun p hp => by simp at hp, fun b o hb => (of_allM hb).2⟩
  have hret : Ret P f vs.toArray w fun v w' => Below w.heap.size w w' ∧ RepA m ρ (tupA rs) v := by
    refine Calls.mono (hr X.e w _ [] [] [] vs (hc.mle.trans (le_allM hc.sh)) hv ⟨rfl, rfl, fun i o h f hi => by simp at hi⟩ (by simpa using hsh)) ?_
    rintro e w' ⟨v, he, hd, rs', H', m', ρ', φ', ⟨rfl, rfl⟩, hm, _, _, ho, hs, us, hu, rfl⟩
    have hφ : φ' = [] := List.eq_nil_of_length_eq_zero ho.nφ
    subst hφ
    exact ⟨_, he, hd, below_all hsh (by simpa using hs) hm hd.2 hd.1, flatT_rep hfl (rep_tup hu)⟩
  refine op_call hf h1 hret hN ?_
  rintro v w' ⟨hb, h5⟩
  exact ⟨d, v, rfl, rfl, hb, m, Mem.le_refl _, hc.sh.ext hb, h5⟩
/-! a function value that came in -/
/-- What holds of a function value that came in: that it is one of the program's. -/
structure FnIn (P : Program) (f : FuncId) (caps : List AV) : Prop where
  ent : Enters P f
theorem ret_pure0 {f : FuncId} {as' rs : List AV} {fr : Fr} {w : World} {m : Mem} {ρ : List Value} {φ : List Frag} {vs : List Value} (hr : RunsM X.m P f as' [] fun r H' => r = rs ∧ H' = []) (hc : Conc X st fr w m ρ φ) (hv : RepL m [] as' vs) :
    Ret P f vs.toArray w fun v w' => Below w.heap.size w w' ∧ ∃ m', m.le m' ∧ SH X.e w' m' (φ.flatten ++ X.F) ∧ RepA m' ρ (tupA rs) v := by
  obtain ⟨h1, h2⟩ := sh_all hc.sh
  have := hr X.e w _ [] [] (φ.flatten ++ X.F) vs (hc.mle.trans h2) (RepL.mono h2 (fun _ _ h => h) _ hv) ⟨rfl, rfl, fun i o h f hi => by simp at hi⟩ (by simpa using h1)
  refine Calls.mono this ?_
  rintro e w' ⟨v, he, hd, rs', H', m', ρ', φ', ⟨rfl, rfl⟩, hm, _, _, ho, hs, us, hu, rfl⟩
  have hρ : ρ' = [] := List.eq_nil_of_length_eq_zero ho.nρ
  have hφ : φ' = [] := List.eq_nil_of_length_eq_zero ho.nφ
  subst hρ hφ
  have hs' : SH X.e w' m' (φ.flatten ++ X.F) := by simpa using hs
  exact ⟨_, he, hd, below_all h1 hs' hm hd.2 hd.1, m', h2.trans hm, hs', RepA.mono (Mem.le_refl _) (fun i h hi => by simp at hi) _ (rep_tup hu)⟩
theorem rep_clo_fn {m : Mem} {ρ : List Value} {f : FuncId} {caps : List AV} {v : Value} (h : RepA m ρ (.clo (.fn f [] caps)) v) : ∃ ws : List Value, v = .func (.func f) #[] ws.toArray ∧ RepL m [] caps ws := by
  simp only [RepA] at h
  obtain ⟨us, ws, rfl, h5, h6⟩ := h
  cases us with
  | nil => exact ⟨ws, rfl, h6⟩
  | cons => simp [RepL] at h5
theorem av_callq {f : FuncId} {fx : Operand} {caps : List AV} {xs : List Operand} {as' rs : List AV} {ts : Array TypeId} {r : AV} (hfx : aev st.l fx = some (.clo (.fn f [] caps))) (hr : RunsM X.m P f (as' ++ caps) [] fun r H' => r = rs ∧ H' = []) (hf : FnIn P f caps) (hx : xs.map (aev st.l) = as'.map some) (hrs : tupA rs = r) (hcl : renL [] as' = as') (hN : Nat.blt d N.n = true := by rfl) :
    AOpV P N X ⟨some d, .call ⟨.value fx, xs.toArray, ts⟩, U, pos, aft, g⟩ r st := by
  intro Q fr w m ρ φ hc
  obtain ⟨vs, h1, h2⟩ := hc.evl hx
  obtain ⟨v, h3, h4⟩ := hc.ev hfx
  obtain ⟨ws, rfl, h6⟩ := rep_clo_fn h4
  subst hrs
  have h2' : RepL m [] as' vs := by
    refine renL_fwd (σ := []) (ρ := ρ) (fun i j u hi _ => by simp at hi) as' ?_
    rw [hcl]; exact h2
  refine op_callv (args := (vs ++ ws).toArray) h3 hf.ent h1 (by simp) (ret_pure0 hr hc (h2'.app h6)) hN ?_
  rintro v w' ⟨hb, m', h7, h8, h9⟩
  exact ⟨d, v, rfl, rfl, hb, m', h7, h8, h9⟩
end
end Go.Ab


set_option linter.unusedVariables false
set_option linter.unusedSimpArgs false
namespace Go.Ab
open Go.RowKit Go.Shelf Go.Proofs Go.Eng

/-! regions whose order is drawn, with a tail that waits for the rest by way of others -/
/-- In the tail each operation waits for the one ahead. -/
def Consec (m : Nat) (ops : List Oper) : Prop := ∀ (i : Nat) (o : Oper), m < i → ops[i]? = some o → ∃ e ∈ o.after, Region.binds .any e = true ∧ e.on = i - 1
/-- What is listed has what it waits for listed. -/
def Shut (ops : List Oper) (listed : Array Bool) : Prop := ∀ (i : Nat) (o : Oper), ops[i]? = some o → listed[i]? = some true → ∀ e ∈ o.after, Region.binds .any e = true → listed[e.on]? = some true
/-- Of each operation one that waits for it, towards the tail. -/
def nextOk (m : Nat) (ops : List Oper) (nx : List Nat) : Bool := (nx.zipIdx).all (fun (q, j) => Nat.blt j q && Nat.ble q m && (match ops[q]? with
  | some o => o.after.toList.any fun e => Region.binds .any e && Nat.beq e.on j
  | none => false)) && Nat.beq nx.length m
theorem next_all {m : Nat} {ops : List Oper} {nx : List Nat} (h : nextOk m ops nx = true) {listed : Array Bool} (hs : listed.size = ops.length) (hcl : Shut ops listed) {k : Nat} {o : Oper} (hk : m ≤ k) (ho : ops[k]? = some o) (hrd : ∀ e ∈ o.after, Region.binds .any e = true → listed[e.on]? = some true) (hcons : Consec m ops) :
    ∀ j, j < m → listed[j]? = some true := by
  simp only [nextOk, Bool.and_eq_true, List.all_eq_true] at h
  obtain ⟨h1, h2⟩ := h
  have h2 := Nat.eq_of_beq_eq_true h2
  -- the tail's first operation is listed, or it is this one
  have hm : m = k ∨ listed[m]? = some true := by
    have key : ∀ d, m + d = k → m = k ∨ listed[m]? = some true := by
      intro d hd
      by_cases e : d = 0
      · left; omega
      · right
        have : ∀ q, q < d → listed[k - 1 - q]? = some true := by
          intro q
          induction q with
          | zero =>
            intro _
            obtain ⟨e, he, hb, hon⟩ := hcons k o (by omega) ho
            have := hrd e he hb
            rw [hon] at this; simpa using this
          | succ q ih =>
            intro hq
            have h3 := ih (by omega)
            have hlt := (Array.getElem?_eq_some_iff.1 h3).1
            have ho' : ops[k - 1 - q]? = some (ops[k - 1 - q]'(by omega)) := List.getElem?_eq_getElem _
            obtain ⟨e, he, hb, hon⟩ := hcons _ _ (by omega) ho'
            have := hcl _ _ ho' h3 e he hb
            rw [hon] at this
            rw [show k - 1 - (q + 1) = k - 1 - q - 1 by omega]; exact this
        have := this (d - 1) (by omega)
        rwa [show k - 1 - (d - 1) = m by omega] at this
    exact key (k - m) (by omega)
  have key : ∀ d j, m - j ≤ d → j < m → listed[j]? = some true := by
    intro d
    induction d with
    | zero => intro j h1 h2; omega
    | succ d ih =>
      intro j hd hj
      obtain ⟨q, hq⟩ : ∃ q, nx[j]? = some q := ⟨_, List.getElem?_eq_getElem (by omega)⟩
      have h3 := h1 (q, j) (by rw [List.mem_zipIdx_iff_getElem?]; simpa using hq)
      simp only [Bool.and_eq_true, Nat.blt_eq] at h3
      obtain ⟨⟨h4, h5⟩, h6⟩ := h3
      have h5 := Nat.le_of_ble_eq_true h5
      split at h6
      · rename_i o' ho'
        rw [List.any_eq_true] at h6
        obtain ⟨e, he, hb⟩ := h6
        simp only [Bool.and_eq_true] at hb
        have hon := Nat.eq_of_beq_eq_true hb.2
        have hq' : (∀ e ∈ o'.after, Region.binds .any e = true → listed[e.on]? = some true) := by
          rcases Nat.lt_or_ge q m with h7 | h7
          · exact hcl q o' ho' (ih q (by omega) h7)
          · have hqm : q = m := by omega
            subst hqm
            rcases hm with rfl | hm
            · rw [ho] at ho'; cases ho'; exact hrd
            · exact hcl _ o' ho' hm
        rw [← hon]; exact hq' e (Array.mem_toList_iff.1 he) hb.1
      · cases h6
  exact fun j hj => key m j (by omega) hj
theorem shut_set {ops : List Oper} {listed : Array Bool} (hcl : Shut ops listed) (hs : listed.size = ops.length) {i : Nat} {o : Oper} (ho : ops[i]? = some o) (hrd : ∀ e ∈ o.after, Region.binds .any e = true → listed[e.on]? = some true) : Shut ops (listed.setIfInBounds i true) := by
  have hset : ∀ (j : Nat), listed[j]? = some true → (listed.setIfInBounds i true)[j]? = some true := by
    intro j hj
    by_cases e : i = j
    · subst e; rw [Array.getElem?_setIfInBounds_self_of_lt (Array.getElem?_eq_some_iff.1 hj).1]
    · rw [Array.getElem?_setIfInBounds_ne e]; exact hj
  intro j o' ho' hj e he hb
  by_cases e1 : i = j
  · subst e1
    rw [ho] at ho'; cases ho'
    exact hset _ (hrd e he hb)
  · rw [Array.getElem?_setIfInBounds_ne e1] at hj
    exact hset _ (hcl j o' ho' hj e he hb)

section
variable {P : Program} {N : Ev} {Q : Post} {l : Fr} {w : World}
theorem ready_tail2 {ops : List Oper} {m : Nat} (hch : Consec m ops) (hback : ∀ (i : Nat) (o : Oper), ops[i]? = some o → ∀ e ∈ o.after, Region.binds .any e = true → e.on < i) {listed : Array Bool} (hs : listed.size = ops.length) {k : Nat} (hk : m ≤ k)
    (hl : ∀ j, j < ops.length → listed[j]? = some (decide (j < k))) : Region.ready .any ops.toArray listed = if k < ops.length then [k] else [] := by
  have hmem : ∀ i, i ∈ Region.ready .any ops.toArray listed ↔ i < ops.length ∧ i = k := by
    intro i
    simp only [Region.ready, List.mem_filter, List.mem_range, List.size_toArray]
    constructor
    · rintro ⟨hi, h⟩
      refine ⟨hi, ?_⟩
      rw [Bool.and_eq_true] at h
      obtain ⟨h1, h2⟩ := h
      have ho0 : ops[i]? = some (ops[i]'hi) := List.getElem?_eq_getElem hi
      have ho : ops.toArray[i]? = some (ops[i]'hi) := by simp
      have hik : ¬ i < k := by
        intro hik
        simp [Array.getD_eq_getD_getElem?, hl i hi, hik] at h1
      rcases Nat.lt_or_ge k i with h3 | h3
      · exfalso
        obtain ⟨e, he, hb, hon⟩ := hch i _ (by omega) ho0
        simp only [ho, Option.map_some, Option.getD_some, Array.all_eq_true'] at h2
        have := h2 e he
        have hkl : i - 1 < ops.length := by omega
        have hnk : ¬ i - 1 < k := by omega
        simp [hb, hon, Array.getD_eq_getD_getElem?, hl (i - 1) hkl] at this
        omega
      · omega
    · rintro ⟨hi, rfl⟩
      refine ⟨hi, ?_⟩
      have ho0 : ops[i]? = some (ops[i]'hi) := List.getElem?_eq_getElem hi
      have ho : ops.toArray[i]? = some (ops[i]'hi) := by simp
      rw [Bool.and_eq_true]
      refine ⟨by simp [Array.getD_eq_getD_getElem?, hl i hi], ?_⟩
      simp only [ho, Option.map_some, Option.getD_some, Array.all_eq_true']
      intro e he
      by_cases hb : Region.binds .any e = true
      · have hlt := hback i _ ho0 e he hb
        simp [hb, Array.getD_eq_getD_getElem?, hl e.on (by omega), hlt]
      · simp [hb]
  have hnd : (Region.ready .any ops.toArray listed).Nodup := by
    unfold Region.ready
    exact List.Pairwise.filter _ List.nodup_range
  generalize Region.ready .any ops.toArray listed = r at hmem hnd
  match r, hmem, hnd with
  | [], hmem, _ =>
    by_cases h : k < ops.length
    · have := (hmem k).2 ⟨h, rfl⟩; cases this
    · rw [if_neg h]
  | [x], hmem, _ =>
    have := (hmem x).1 (by simp)
    obtain ⟨h1, rfl⟩ := this
    rw [if_pos h1]
  | x :: y :: r, hmem, hnd =>
    have h1 := (hmem x).1 (by simp)
    have h2 := (hmem y).1 (by simp)
    have hxy : x = y := by omega
    subst hxy
    simp at hnd

theorem tail_any2 {ops : List Oper} {m : Nat} (hch : Consec m ops) (hback : ∀ (i : Nat) (o : Oper), ops[i]? = some o → ∀ e ∈ o.after, Region.binds .any e = true → e.on < i) :
    ∀ (fuel k : Nat) (listed : Array Bool) (a : Act) (W : World), m ≤ k → k + fuel ≥ ops.length → k ≤ ops.length → listed.size = ops.length → (∀ j, j < ops.length → listed[j]? = some (decide (j < k))) →
      wpListIn (FW N.ro) 0 P ops.toArray (up N Q) (ops.drop k) a W → wpAnyIn (FW N.ro) 0 P .any ops.toArray (up N Q) fuel listed a W := by
  intro fuel
  induction fuel with
  | zero =>
    intro k listed a W hmk hkf hkl hs hl h
    have hk : k = ops.length := by omega
    subst hk
    rw [List.drop_length] at h
    refine ⟨?_, h⟩
    rw [ready_tail2 hch hback hs hmk hl, if_neg (by omega)]
  | succ fuel ih =>
    intro k listed a W hmk hkf hkl hs hl h
    by_cases hk : k < ops.length
    · refine ⟨fun hr => ?_, ?_⟩
      · rw [ready_tail2 hch hback hs hmk hl, if_pos hk] at hr; cases hr
      · intro i hi
        rw [ready_tail2 hch hback hs hmk hl, if_pos hk] at hi
        simp only [List.mem_singleton] at hi
        subst hi
        rw [List.drop_eq_getElem_cons hk] at h
        have ho : ops.toArray[i]? = some (ops[i]'hk) := by simp [List.getElem?_eq_getElem hk]
        have hl' : ∀ j, j < ops.length → (listed.setIfInBounds i true)[j]? = some (decide (j < i + 1)) := by
          intro j hj
          by_cases e : i = j
          · subst e
            rw [Array.getElem?_setIfInBounds_self_of_lt (by omega)]; simp
          · rw [Array.getElem?_setIfInBounds_ne e, hl j hj]
            congr 1
            by_cases h1 : j < i
            · simp [h1]; omega
            · simp [h1]; omega
        have hnext : ∀ a' W', wpListIn (FW N.ro) 0 P ops.toArray (up N Q) (ops.drop (i + 1)) a' W' → wpAnyIn (FW N.ro) 0 P .any ops.toArray (up N Q) fuel (listed.setIfInBounds i true) a' W' :=
          fun a' W' h' => ih (i + 1) _ a' W' (by omega) (by omega) (by omega) (by simp [hs]) hl' h'
        unfold wpOpIn
        rw [ho]
        simp only []
        unfold wpListIn at h
        split
        · rename_i hw
          rw [if_pos hw] at h
          exact Oper.wpIn_mono hnext h
        · rename_i hw
          rw [if_neg hw] at h
          exact ⟨h.1, hnext _ _ h.2⟩
    · have hk' : k = ops.length := by omega
      subst hk'
      rw [List.drop_length] at h
      refine ⟨fun _ => h, ?_⟩
      intro i hi
      rw [ready_tail2 hch hback hs hmk hl, if_neg hk] at hi
      cases hi

theorem draw_tail2 {S : World → World → Prop} (hS : SR S) {ops : List Oper} {m : Nat} (hm : m ≤ ops.length) {Φ : List VP} {dep : List (List Nat)} {lb : Fr} (hok : drawOk N.n (ops.take m) dep lb = true) (hch : Consec m ops) {nx : List Nat} (hnx : nextOk m ops nx = true) (hback : ∀ (i : Nat) (o : Oper), ops[i]? = some o → ∀ e ∈ o.after, Region.binds .any e = true → e.on < i)
    (hΦ : Φ.length = m) (hmono : Monos S Φ) (hob : Obs P N S (ops.take m) Φ Q lb w (ops.take m) Φ dep)
    (hfin : ∀ a W listed, Mid N S (ops.take m) Φ lb w listed a W → (∀ i, i < m → listed[i]? = some true) → wpListIn (FW N.ro) 0 P ops.toArray (up N Q) (ops.drop m) a W) :
    ∀ (fuel : Nat) (listed : Array Bool) (a : Act) (W : World), Mid N S (ops.take m) Φ lb w listed a W → listed.size = ops.length → Shut ops listed → (∀ j, m ≤ j → j < ops.length → listed[j]? = some false) → (listed.toList.filter (! ·)).length ≤ fuel →
      wpAnyIn (FW N.ro) 0 P .any ops.toArray (up N Q) fuel listed a W := by
  have hlen : (ops.take m).length = m := by simp; omega
  have htk : ∀ (k : Nat) (o : Oper), (ops.take m)[k]? = some o → ops.toArray[k]? = some o := by
    intro k o h
    rw [List.getElem?_take] at h
    split at h
    · simpa using h
    · cases h
  intro fuel
  induction fuel with
  | zero =>
    intro listed a W hmid hs hcl hB hf
    have hnil : ∀ i, i < ops.length → listed[i]? = some true := by
      intro i hi
      have hfl : listed.toList.filter (! ·) = [] := List.eq_nil_of_length_eq_zero (by omega)
      rw [List.filter_eq_nil_iff] at hfl
      have hlt : i < listed.size := by omega
      have hm := hfl listed[i] (by simp)
      rw [Array.getElem?_eq_getElem hlt]
      simpa using hm
    have hmn : m = ops.length := by
      rcases Nat.lt_or_ge m ops.length with h | h
      · have h1 := hnil m h
        rw [hB m (Nat.le_refl _) h] at h1; cases h1
      · omega
    refine tail_any2 hch hback 0 ops.length listed a W (by omega) (by omega) (by omega) hs (fun j hj => by rw [hnil j hj]; simp [hj]) ?_
    have := hfin a W listed hmid (fun i hi => hnil i (by omega))
    rwa [hmn] at this
  | succ fuel ih =>
    intro listed a W hmid hs hcl hB hf
    by_cases hall : ∀ i, i < m → listed[i]? = some true
    · -- the line begins
      have hl : ∀ j, j < ops.length → listed[j]? = some (decide (j < m)) := by
        intro j hj
        by_cases h : j < m
        · rw [hall j h]; simp [h]
        · rw [hB j (by omega) hj]; simp [h]
      have hcnt : ops.length - m ≤ (listed.toList.filter (! ·)).length := by
        have e : listed.toList = listed.toList.take m ++ listed.toList.drop m := (List.take_append_drop m _).symm
        rw [e, List.filter_append, List.length_append]
        have e2 : (listed.toList.drop m).filter (! ·) = listed.toList.drop m := by
          rw [List.filter_eq_self]
          intro x hx
          obtain ⟨j, hj, rfl⟩ := List.getElem_of_mem hx
          simp only [List.length_drop, Array.length_toList] at hj
          have := hB (m + j) (by omega) (by omega)
          rw [Array.getElem?_eq_getElem (by omega)] at this
          simp only [Option.some.injEq] at this
          simp [this]
        rw [e2]; simp; omega
      exact tail_any2 hch hback (fuel + 1) m listed a W (Nat.le_refl _) (by omega) hm hs hl (hfin a W listed hmid hall)
    · refine ⟨fun hr => ?_, ?_⟩
      · -- something of the first part is ready
        exfalso
        apply hall
        intro i
        induction i using Nat.strongRecOn with
        | _ i ihi =>
          intro him
          rcases hli : listed[i]? with _ | b
          · simp at hli; omega
          · cases b with
            | true => rfl
            | false =>
              exfalso
              have hi : i < ops.length := by omega
              have : i ∈ Region.ready .any ops.toArray listed := by
                simp only [Region.ready, List.mem_filter, List.mem_range, List.size_toArray]
                refine ⟨hi, ?_⟩
                simp only [Array.getD_eq_getD_getElem?, hli, Option.getD_some, Bool.not_false, Bool.true_and]
                have ho0 : ops[i]? = some (ops[i]'hi) := List.getElem?_eq_getElem hi
                have ho : ops.toArray[i]? = some (ops[i]'hi) := by simp
                simp only [ho, Option.map_some, Option.getD_some, Array.all_eq_true']
                intro e he
                by_cases hb : Region.binds .any e = true
                · have hlt := hback i _ ho0 e he hb
                  simp only [hb, Bool.not_true, Bool.false_or]
                  rw [ihi e.on hlt (by omega)]; rfl
                · simp [hb]
              rw [hr] at this
              cases this
      · intro i hi
        simp only [Region.ready, List.mem_filter, List.mem_range, List.size_toArray] at hi
        obtain ⟨hlt, hi⟩ := hi
        rw [Bool.and_eq_true] at hi
        obtain ⟨hun, hrd⟩ := hi
        have ho : ops[i]? = some (ops[i]'hlt) := List.getElem?_eq_getElem hlt
        have ho' : ops.toArray[i]? = some (ops[i]'hlt) := by simp
        have hrd' : ∀ e ∈ (ops[i]'hlt).after, Region.binds .any e = true → listed[e.on]? = some true := by
          intro e he hb
          rw [ho'] at hrd
          simp only [Option.map_some, Option.getD_some, Array.all_eq_true'] at hrd
          have := hrd e he
          simp only [hb, Bool.not_true, Bool.false_or] at this
          rcases hlj : listed[e.on]? with _ | b
          · simp [Array.getD_eq_getD_getElem?, hlj] at this
          · simp [Array.getD_eq_getD_getElem?, hlj] at this; rw [this]
        have him : i < m := by
          rcases Nat.lt_or_ge i m with h | h
          · exact h
          · exfalso
            exact hall fun j hj => next_all hnx hs hcl h ho hrd' hch j hj
        have hun' : listed[i]? = some false := by
          have hlt' : i < listed.size := by omega
          rw [Array.getElem?_eq_getElem hlt']
          simp only [Array.getD_eq_getD_getElem?, Array.getElem?_eq_getElem hlt', Option.getD_some] at hun
          simpa using hun
        have hcount : ((listed.setIfInBounds i true).toList.filter (! ·)).length ≤ fuel := by
          have hlt' : i < listed.toList.length := by simp; omega
          have e1 : (listed.setIfInBounds i true).toList = listed.toList.set i true := by simp
          rw [e1]
          have e2 : listed.toList = listed.toList.take i ++ false :: listed.toList.drop (i + 1) := by
            have hg : listed.toList[i] = false := by
              have := hun'
              rw [Array.getElem?_eq_getElem (by simpa using hlt')] at this
              simpa using this
            rw [← hg, ← List.drop_eq_getElem_cons hlt']; simp
          have e3 : listed.toList.set i true = listed.toList.take i ++ true :: listed.toList.drop (i + 1) := by
            rw [List.set_eq_take_append_cons_drop, if_pos hlt']
          rw [e3]
          rw [e2] at hf
          simp only [List.filter_append, List.length_append, List.filter_cons, Bool.not_false, Bool.not_true, if_true, List.length_cons] at hf ⊢
          simp at hf ⊢
          omega
        have hot : (ops.take m)[i]? = some (ops[i]'hlt) := by rw [List.getElem?_take, if_pos him]; exact ho
        refine mid_step hS hok (by rw [hlen]; exact hΦ) hmono hob hmid hot hrd' (fun a' W' hm' => ih _ a' W' hm' (by simp [hs]) (shut_set hcl hs ho hrd') ?_ hcount) htk
        intro j hj hjl
        rw [Array.getElem?_setIfInBounds_ne (by omega)]
        exact hB j hj hjl

def consecOk (m : Nat) (ops : List Oper) : Bool := (ops.zipIdx).all fun (o, i) => Nat.ble i m || o.after.toList.any fun e => Region.binds .any e && Nat.beq e.on (i - 1)
theorem consec_of {m : Nat} {ops : List Oper} (h : consecOk m ops = true) : Consec m ops := by
  intro i o hi ho
  simp only [consecOk, List.all_eq_true] at h
  have := h (o, i) (by rw [List.mem_zipIdx_iff_getElem?]; simpa using ho)
  simp only [Bool.or_eq_true, List.any_eq_true, Bool.and_eq_true] at this
  rcases this with h1 | ⟨e, he, hb, hon⟩
  · have := Nat.le_of_ble_eq_true h1; omega
  · exact ⟨e, Array.mem_toList_iff.1 he, hb, Nat.eq_of_beq_eq_true hon⟩
theorem wc_draw_tail2 {id : Nat} {ops : List Oper} (m : Nat) (nx : List Nat) (hm : P.follows .mixedOrders = true) (lb : Fr) (hlb : Sub lb l) (Φ : List VP) (dep : List (List Nat)) (live : List Nat)
    (hml : Nat.ble m ops.length = true) (hok : drawOk N.n (ops.take m) dep lb = true) (hch : consecOk m ops = true) (hnx : nextOk m ops nx = true) (hback : backOk ops = true) (hΦ : Nat.beq Φ.length m = true) (hlive : (live.all fun i => Nat.blt i m) = true) (hmono : Monos (fun w W => Below w.heap.size w W) Φ) (hob : Obs P N (fun w W => Below w.heap.size w W) (ops.take m) Φ Q lb w (ops.take m) Φ dep)
    (hfin : ∀ W, Below w.heap.size w W → Gather (depAt (ops.take m) Φ live) lb W fun l' => WL P N ops.toArray Q (ops.drop m) l' W) : WC P N (.region id ops.toArray true) Q l w := by
  intro a ha hg
  refine wpIn_region_any hm ?_
  have hΦ' := Nat.eq_of_beq_eq_true hΦ
  have hml' := Nat.le_of_ble_eq_true hml
  refine draw_tail2 sr_below (w := { w with drawn := w.drawn + 1 }) hml' hok (consec_of hch) hnx (back_of hback) hΦ' hmono (hob.drawn sr_below) ?_ _ _ _ _ ?_ (by simp) ?_ ?_ ?_
  · intro a' W listed hmid hall
    obtain ⟨l', hl', h⟩ := Gather.use (hfin W (sr_below.drawn _ _ _ hmid.below)) hmid.base (live_told hmid (m := m) (by simp; omega) (by omega) hlive hall)
    exact h a' hl' hmid.good
  · refine ⟨sr_below.refl _, ha.sub hlb, hg.step rfl (fun _ _ h _ _ => h) (Nat.le_refl _), ?_⟩
    intro i o φ _ _ hi
    simp [Array.getElem?_replicate] at hi
  · intro i o _ hi
    simp [Array.getElem?_replicate] at hi
  · intro j hj hjl
    simp [Array.getElem?_replicate, hjl]
  · simp
end
section
variable {P : Program} {N : Ev} {X : Cx} {Q : APost} {st : AS}
theorem awc_draw_tail2 {id : Nat} {ops : List Oper} (q : Nat) (nx : List Nat) (hm : P.follows .mixedOrders = true) (ks : List Nat) (Ts : List TT) (dep : List (List Nat)) (live : List Nat) (hks : (ks.all fun t => (st.l.look t).isSome) = true) (hq : Nat.ble q ops.length = true) (hok : drawOkK N.n (ops.take q) dep ks = true) (hch : (consecOk q ops && nextOk q ops nx) = true) (hback : backOk ops = true) (hTs : Nat.beq Ts.length q = true) (hlv : (live.all fun i => Nat.blt i q) = true) (hdp : depsOk (ops.take q) (live :: dep) = true)
    (hob : AObs P N X (ops.take q) Ts (keepF st.l ks) st.H st.n (ops.take q) Ts dep) (hall : ∀ j ∈ live, (ttAt Ts j).1 = true) (k : AWL P N X ops.toArray Q (ops.drop q) ⟨depF (ops.take q) Ts live (keepF st.l ks), st.H, st.n⟩) : AWC P N X (.region id ops.toArray true) Q st := by
  intro fr w m ρ φ hc
  obtain ⟨lb, h1, h2, h3⟩ := keep_conc hc hks
  have hq' := Nat.le_of_ble_eq_true hq
  have hl : Ts.length = (ops.take q).length := by rw [Nat.eq_of_beq_eq_true hTs, List.length_take]; omega
  simp only [depsOk, List.all_cons, Bool.and_eq_true] at hdp
  rw [Bool.and_eq_true] at hch
  refine wc_draw_tail2 q nx hm lb h2 (Ts.map (phi X.e m ρ (φ.flatten ++ X.F))) dep live hq (draw_keys (by rw [h1]; exact hok)) hch.1 hch.2 hback (by rw [List.length_map]; exact hTs) hlv (monos_phi Ts) (obs_of hl h3 hdp.2 hob) ?_
  intro W hW
  refine gather_df (phi_at hl) hdp.1 fun l' hl' => ?_
  obtain ⟨m', h4, h5⟩ := conc_df hl' (Mem.le_refl _) (h3.grow (Mem.le_refl _) (h3.sh.ext hW)) hall
  exact k _ _ _ _ _ h5

variable {d : Nat} {T U T' : TypeId} {pos : String} {aft : Array Edge} {g : Option (Nat × Bool)} {x y : Operand}
/-! a slice against nil: what a list does not tell -/
theorem aop_eqnil {t : Ty} {xs : List t.den} {K : AS → Prop} {E : Nat} (hU : Und P T (.slice E)) (hx : aev st.l x = some (.sl t xs)) (hy : aev st.l y = some .nils) (k : ∀ b : Bool, (b = true → xs = []) → K (st.put d (.bool b))) (hN : Nat.blt d N.n = true := by rfl) : AOp P N X ⟨some d, .binOp .eql T x y T', U, pos, aft, g⟩ K st :=
  aop_of fun Q fr w m ρ φ hc K' hK => by
    obtain ⟨v, h1, h2⟩ := hc.ev hx
    obtain ⟨u, h3, h4⟩ := hc.ev hy
    simp only [RepA] at h2 h4
    subst h4
    obtain ⟨A, c, rfl, h5, h6, h7⟩ := rc_slice h2
    refine op_val (v := .bool A.isNone) rfl hN (fun ac ha => ?_) (hK _ _ _ _ _ _ (hc.put (d := d) (a := .bool A.isNone) rep_bool) (k _ (fun hb => ?_)))
    · have he : (Op.equal T (.slice A xs.length c) (.slice none 0 0)).run P w = .ok A.isNone w := by
        unfold Op.equal
        rw [show Op.maxDepth = 9999 + 1 from rfl]
        unfold Op.equalIn
        cases A <;> simp [run_underlying hU]
      simp [execOp, eqGuard, binOp, ha.eval h1, ha.eval h3, he]
    · rcases h7 with h7 | ⟨b, o, vs, rfl, _⟩
      · exact h7
      · simp at hb
end
end Go.Ab


set_option linter.unusedVariables false
set_option linter.unusedSimpArgs false
namespace Go.Ab
open Go.RowKit Go.Shelf Go.Proofs Go.Eng

/-! calls that turn what is handed to them -/
theorem nodup_ne {α : Type} {l : List α} (h : l.Nodup) {i j : Nat} (hij : i < j) (hj : j < l.length) : l[i]? ≠ l[j]? := by
  rw [List.getElem?_eq_getElem (by omega), List.getElem?_eq_getElem hj]
  have := List.pairwise_iff_getElem.1 h i j (by omega) hj hij
  simpa using this
theorem nodup_of_ne {α : Type} {l : List α} (h : ∀ i j, i < j → j < l.length → l[i]? ≠ l[j]?) : l.Nodup := by
  refine List.pairwise_iff_getElem.2 fun i j hi hj hij => ?_
  have := h i j hij hj
  rw [List.getElem?_eq_getElem hi, List.getElem?_eq_getElem hj] at this
  simpa using this
theorem flatMap_eq {α β : Type} {l : List α} {f g : α → List β} (h : ∀ a ∈ l, f a = g a) : l.flatMap f = l.flatMap g := by
  induction l with
  | nil => rfl
  | cons a l ih => rw [List.flatMap_cons, List.flatMap_cons, h a (by simp), ih (fun b hb => h b (by simp [hb]))]
def updH : Nat → List Nat → List AO → AH → AH
  | _, [], _, H => H
  | _, _, [], H => H
  | k, i :: σ, o :: os, H => (i, o) :: updH k σ os H
/-- The numbers behind n. -/
def fromN : Nat → Nat → List Nat
  | _, 0 => []
  | n, k + 1 => n :: fromN (n + 1) k
theorem fromN_get : ∀ {k n i : Nat}, i < k → (fromN n k)[i]? = some (n + i) := by
  intro k
  induction k with
  | zero => intro n i h; omega
  | succ k ih =>
    intro n i h
    cases i with
    | zero => simp [fromN]
    | succ i => simp only [fromN, List.getElem?_cons_succ]; rw [ih (by omega)]; congr 1; omega
theorem fromN_len : ∀ {k n : Nat}, (fromN n k).length = k := by
  intro k
  induction k with
  | zero => intro n; rfl
  | succ k ih => intro n; simp [fromN, ih]
theorem updH_get : ∀ {σ : List Nat} {os : List AO} {H : AH} {k : Nat}, σ.Nodup → os.length = σ.length → (∀ (j i : Nat) (o : AO), σ[j]? = some i → os[j]? = some o → AH.get (updH k σ os H) i = o) ∧ (∀ i, i ∉ σ → AH.get (updH k σ os H) i = AH.get H i) := by
  intro σ
  induction σ with
  | nil => intro os H k _ _; exact ⟨fun j i o h => by simp at h, fun i _ => rfl⟩
  | cons a σ ih =>
    intro os H k hn hl
    cases os with
    | nil => simp at hl
    | cons o os =>
      rw [List.nodup_cons] at hn
      obtain ⟨h1, h2⟩ := ih (H := H) (k := k) hn.2 (by simpa using hl)
      refine ⟨fun j i q hj hq => ?_, fun i hi => ?_⟩
      · simp only [updH, AH.get_cons]
        cases j with
        | zero => simp at hj hq; subst hj hq; simp
        | succ j =>
          have hj' : σ[j]? = some i := by simpa using hj
          rw [if_neg (by intro e; rw [e] at hn; exact hn.1 (List.mem_of_getElem? hj'))]
          exact h1 j i q hj' (by simpa using hq)
      · simp only [List.mem_cons, not_or] at hi
        simp only [updH, AH.get_cons]
        rw [if_neg (fun e => hi.1 e.symm)]
        exact h2 i hi.2

section
variable {P : Program} {N : Ev} {X : Cx} {Q : APost} {st : AS}
variable {d : Nat} {T U T' : TypeId} {pos : String} {aft : Array Edge} {g : Option (Nat × Bool)} {x y : Operand}

/-- Behind a call: the objects σ turned, new ones behind them. -/
theorem conc_call {fr : Fr} {w w' : World} {m m' : Mem} {ρ ρ1' : List Value} {φ φ1' : List Frag} {σ : List Nat} {H' : List AO} {v : Value} {av : AV} (hc : Conc X st fr w m ρ φ) (hnd : σ.Nodup) (hlt : ∀ i ∈ σ, i < st.n) (hm : m.le m') (hk : σ.length ≤ H'.length)
    (hpre : ∀ (i j : Nat) (h : Value), σ[i]? = some j → ρ[j]? = some h → ρ1'[i]? = some h) (ho : OsRep m' ρ1' H' φ1')
    (hs : SH X.e w' m' (φ1'.flatten ++ (((List.range st.n).filter fun i => !σ.contains i).flatMap (fun i => φ.getD i []) ++ X.F)))
    (hav : ∀ ρ', (∀ (i : Nat) (u : Value), ρ1'[i]? = some u → ∃ j, (σ ++ fromN st.n (H'.length - σ.length))[i]? = some j ∧ ρ'[j]? = some u) → RepA m' ρ' av v) :
    ∃ ρ' φ', Conc X ⟨(d, av) :: st.l, updH 0 (σ ++ fromN st.n (H'.length - σ.length)) (H'.map (AO.ren (σ ++ fromN st.n (H'.length - σ.length)))) st.H, st.n + (H'.length - σ.length)⟩ ((d, v) :: fr) w' m' ρ' φ' := by
  obtain ⟨τ, hτ⟩ : ∃ τ, τ = σ ++ fromN st.n (H'.length - σ.length) := ⟨_, rfl⟩
  have hτl : τ.length = H'.length := by rw [hτ, List.length_append, fromN_len]; omega
  have hfr : ∀ i, i ∈ fromN st.n (H'.length - σ.length) ↔ st.n ≤ i ∧ i < st.n + (H'.length - σ.length) := by
    intro i
    rw [List.mem_iff_getElem?]
    constructor
    · rintro ⟨j, hj⟩
      have hjl := (List.getElem?_eq_some_iff.1 hj).1
      rw [fromN_len] at hjl
      rw [fromN_get hjl] at hj
      cases hj; omega
    · rintro ⟨h1, h2⟩
      exact ⟨i - st.n, by rw [fromN_get (by omega)]; congr 1; omega⟩
  have hfnd : (fromN st.n (H'.length - σ.length)).Nodup := by
    refine nodup_of_ne fun i j hij hjl => ?_
    rw [fromN_len] at hjl
    rw [fromN_get (by omega), fromN_get hjl]
    intro e; simp at e; omega
  have hτn : τ.Nodup := by
    rw [hτ, List.nodup_append]
    refine ⟨hnd, hfnd, fun a ha b hb e => ?_⟩
    subst e
    have := hlt a ha
    have := ((hfr a).1 hb).1
    omega
  have hτlt : ∀ i ∈ τ, i < st.n + (H'.length - σ.length) := by
    intro i hi
    rw [hτ, List.mem_append] at hi
    rcases hi with hi | hi
    · have := hlt i hi; omega
    · exact ((hfr i).1 hi).2
  -- the handles, the fragments
  let pos : Nat → Option Nat := posN τ
  let ρ' : List Value := (List.range (st.n + (H'.length - σ.length))).map fun i => match posN τ i with
    | some j => ρ1'.getD j undef
    | none => ρ.getD i undef
  let φ' : List Frag := (List.range (st.n + (H'.length - σ.length))).map fun i => match posN τ i with
    | some j => φ1'.getD j []
    | none => φ.getD i []
  have posτ : ∀ {j i : Nat}, τ[j]? = some i → posN τ i = some j := by
    intro j i hj
    cases hp : posN τ i with
    | none => exact absurd (List.mem_of_getElem? hj) (posN_none hp)
    | some q =>
      have h1 := posN_get hp
      by_cases e : q = j
      · rw [e]
      · exfalso
        rcases Nat.lt_or_ge q j with h | h
        · exact nodup_ne hτn h (List.getElem?_eq_some_iff.1 hj).1 (by rw [h1, hj])
        · exact nodup_ne hτn (show j < q by omega) (List.getElem?_eq_some_iff.1 h1).1 (by rw [h1, hj])
  have hρτ : ∀ {j i : Nat} {u : Value}, τ[j]? = some i → ρ1'[j]? = some u → ρ'[i]? = some u := by
    intro j i u hj hu
    simp only [ρ', List.getElem?_map, List.getElem?_range (hτlt i (List.mem_of_getElem? hj)), Option.map_some, posτ hj, List.getD_eq_getElem?_getD, hu, Option.getD_some]
  have hρold : ∀ (i : Nat) (h : Value), ρ[i]? = some h → ρ'[i]? = some h := by
    intro i h hi
    have hil : i < st.n := by rw [← hc.nρ]; exact (List.getElem?_eq_some_iff.1 hi).1
    simp only [ρ', List.getElem?_map, List.getElem?_range (show i < st.n + (H'.length - σ.length) by omega), Option.map_some]
    cases hp : posN τ i with
    | none => simp [List.getD_eq_getElem?_getD, hi]
    | some j =>
      have h1 := posN_get hp
      have hjσ : j < σ.length := by
        rcases Nat.lt_or_ge j σ.length with h2 | h2
        · exact h2
        · exfalso
          rw [hτ, List.getElem?_append_right h2] at h1
          have := ((hfr i).1 (List.mem_of_getElem? h1)).1
          omega
      rw [hτ, List.getElem?_append_left hjσ] at h1
      have := hpre j i h h1 hi
      simp [List.getD_eq_getElem?_getD, this]
  have hbwd : ∀ (i : Nat) (u : Value), ρ1'[i]? = some u → ∃ j, τ[i]? = some j ∧ ρ'[j]? = some u := by
    intro i u hi
    have hil : i < τ.length := by rw [hτl, ← ho.nρ]; exact (List.getElem?_eq_some_iff.1 hi).1
    exact ⟨τ[i], List.getElem?_eq_getElem hil, hρτ (List.getElem?_eq_getElem hil) hi⟩
  refine ⟨ρ', φ', hc.mle.trans hm, fun i h hi => hρold i h (hc.pre i h hi), by simp [ρ'], by simp [φ'], ?_, ?_, ?_⟩
  · intro t b hb
    simp only [AFr.look_cons] at hb
    rw [Fr.look_cons]
    split
    · rename_i e; rw [if_pos e] at hb; cases hb; exact ⟨v, rfl, hav ρ' (by rw [← hτ]; exact hbwd)⟩
    · rename_i e; rw [if_neg e] at hb
      obtain ⟨u, h1, h2⟩ := hc.slots t b hb
      exact ⟨u, h1, RepA.mono hm hρold b h2⟩
  · intro i h f hi hf
    rw [← hτ]
    have hil : i < st.n + (H'.length - σ.length) := by
      have := (List.getElem?_eq_some_iff.1 hi).1
      simpa [ρ'] using this
    obtain ⟨g1, g2⟩ := updH_get (σ := τ) (os := H'.map (AO.ren τ)) (H := st.H) (k := 0) hτn (by simp [hτl])
    simp only [ρ', List.getElem?_map, List.getElem?_range hil, Option.map_some, Option.some.injEq] at hi
    simp only [φ', List.getElem?_map, List.getElem?_range hil, Option.map_some, Option.some.injEq] at hf
    cases hp : posN τ i with
    | some j =>
      rw [hp] at hi hf
      simp only at hi hf
      have h1 := posN_get hp
      have hjl : j < H'.length := by rw [← hτl]; exact (List.getElem?_eq_some_iff.1 h1).1
      have hH : H'[j]? = some (H'[j]'hjl) := List.getElem?_eq_getElem hjl
      have h2 : ρ1'[j]? = some h := by
        have : ρ1'[j]? = some (ρ1'[j]'(by rw [ho.nρ]; exact hjl)) := List.getElem?_eq_getElem _
        rw [List.getD_eq_getElem?_getD, this] at hi
        rw [this]; simpa using hi
      have h3 : φ1'[j]? = some f := by
        have : φ1'[j]? = some (φ1'[j]'(by rw [ho.nφ]; exact hjl)) := List.getElem?_eq_getElem _
        rw [List.getD_eq_getElem?_getD, this] at hf
        rw [this]; simpa using hf
      rw [g1 j i _ h1 (by rw [List.getElem?_map, hH]; rfl)]
      exact (ho.at_ j _ h f hH h2 h3).bwd hbwd
    | none =>
      rw [hp] at hi hf
      simp only at hi hf
      have hni := posN_none hp
      rw [g2 i hni]
      have hin : i < st.n := by
        rcases Nat.lt_or_ge i st.n with h1 | h1
        · exact h1
        · exfalso
          apply hni
          rw [hτ, List.mem_append]
          exact .inr ((hfr i).2 ⟨h1, hil⟩)
      have h2 : ρ[i]? = some h := by
        have : ρ[i]? = some (ρ[i]'(by rw [hc.nρ]; exact hin)) := List.getElem?_eq_getElem _
        rw [List.getD_eq_getElem?_getD, this] at hi
        rw [this]; simpa using hi
      have h3 : φ[i]? = some f := by
        have : φ[i]? = some (φ[i]'(by rw [hc.nφ]; exact hin)) := List.getElem?_eq_getElem _
        rw [List.getD_eq_getElem?_getD, this] at hf
        rw [this]; simpa using hf
      exact (hc.objs i h f h2 h3).mono hm hρold
  · refine hs.perm ?_
    rw [← List.append_assoc]
    refine List.Perm.append_right _ ?_
    have h1 : φ'.flatten = (List.range (st.n + (H'.length - σ.length))).flatMap fun i => match posN τ i with
        | some j => φ1'.getD j []
        | none => φ.getD i [] := by rw [List.flatMap_def]
    rw [h1]
    refine List.Perm.symm (((range_split hτn hτlt).flatMap_right _).trans ?_)
    rw [List.flatMap_append]
    have h2 : (τ.flatMap fun i => match posN τ i with
        | some j => φ1'.getD j []
        | none => φ.getD i []) = φ1'.flatten := by
      rw [flatten_range, ho.nφ, ← hτl]
      have : τ = (List.range τ.length).map fun j => τ.getD j 0 := by
        apply List.ext_getElem?
        intro j
        rw [List.getElem?_map]
        rcases Nat.lt_or_ge j τ.length with h | h
        · rw [List.getElem?_range h, Option.map_some, List.getD_eq_getElem?_getD, List.getElem?_eq_getElem h]; rfl
        · rw [List.getElem?_eq_none h, List.getElem?_eq_none (by simpa using h)]; rfl
      have this2 : ∀ g : Nat → Frag, τ.flatMap g = ((List.range τ.length).map fun j => τ.getD j 0).flatMap g := fun g => by rw [← this]
      rw [this2, List.flatMap_map]
      refine flatMap_eq fun j hj => ?_
      rw [List.mem_range] at hj
      have h3 : τ[j]? = some (τ.getD j 0) := by rw [List.getD_eq_getElem?_getD, List.getElem?_eq_getElem hj]; rfl
      rw [posτ h3]
    rw [h2]
    refine List.Perm.append_left _ ?_
    -- what no name of the call's reaches
    have h4 : ((List.range (st.n + (H'.length - σ.length))).filter fun i => !τ.contains i) = (List.range st.n).filter fun i => !σ.contains i := by
      rw [List.range_add, List.filter_append]
      have h5 : ((List.range (H'.length - σ.length)).map (st.n + ·)).filter (fun i => !τ.contains i) = [] := by
        rw [List.filter_eq_nil_iff]
        intro a ha
        obtain ⟨q, hq, rfl⟩ := List.mem_map.1 ha
        rw [List.mem_range] at hq
        simp only [List.contains_eq_mem, Bool.not_eq_true', decide_eq_false_iff_not, Decidable.not_not]
        rw [hτ, List.mem_append]
        exact .inr ((hfr _).2 ⟨by omega, by omega⟩)
      rw [h5, List.append_nil]
      refine List.filter_congr fun a ha => ?_
      rw [List.mem_range] at ha
      congr 1
      simp only [List.contains_eq_mem]
      rw [hτ]
      simp only [List.mem_append, decide_eq_decide]
      constructor
      · rintro (h | h)
        · exact h
        · have := ((hfr a).1 h).1; omega
      · exact .inl
    rw [h4]
    refine List.Perm.of_eq (flatMap_eq fun i hi => ?_)
    simp only [List.mem_filter, List.mem_range, Bool.not_eq_true', List.contains_eq_mem, decide_eq_false_iff_not] at hi
    have : posN τ i = none := by
      cases hp : posN τ i with
      | none => rfl
      | some j =>
        have h5 := List.mem_of_getElem? (posN_get hp)
        rw [hτ, List.mem_append] at h5
        rcases h5 with h5 | h5
        · exact absurd h5 hi.2
        · have := ((hfr i).1 h5).1; omega
    rw [this]

theorem ret_own {f : FuncId} {as1 : List AV} {H1 : List AO} {R : List AV → List AO → Prop} {σ : List Nat} {fr : Fr} {w : World} {m : Mem} {ρ : List Value} {φ : List Frag} {vs : List Value} (hr : RunsM X.m P f as1 H1 R) (hc : Conc X st fr w m ρ φ) (hσ : (nodupB σ && σ.all fun i => Nat.blt i st.n) = true) (hH : σ.map st.H.get = H1.map (AO.ren σ)) (hv : RepL m ρ (renL σ as1) vs) :
    Ret P f vs.toArray w fun v w' => ∃ rs H' m' ρ1' φ1', R rs H' ∧ m.le m' ∧ σ.length ≤ H'.length ∧ (∀ (i j : Nat) (h : Value), σ[i]? = some j → ρ[j]? = some h → ρ1'[i]? = some h) ∧ OsRep m' ρ1' H' φ1' ∧
      SH X.e w' m' (φ1'.flatten ++ (((List.range st.n).filter fun i => !σ.contains i).flatMap (fun i => φ.getD i []) ++ X.F)) ∧ ∃ us, RepL m' ρ1' rs us ∧ v = tupleOf us := by
  rw [Bool.and_eq_true] at hσ
  have hnd := nodup_of hσ.1
  have hlt : ∀ i ∈ σ, i < st.n := by
    intro i hi
    have := hσ.2
    rw [List.all_eq_true] at this
    simpa using this i hi
  have hlen : σ.length = H1.length := by simpa using congrArg List.length hH
  let ρ1 : List Value := σ.map fun i => ρ.getD i undef
  let φ1 : List Frag := σ.map fun i => φ.getD i []
  have hfwd : ∀ (i j : Nat) (u : Value), σ[i]? = some j → ρ[j]? = some u → ρ1[i]? = some u := by
    intro i j u hi hj
    simp only [ρ1, List.getElem?_map, hi, Option.map_some, List.getD_eq_getElem?_getD, hj, Option.getD_some]
  have hsh : SH X.e w m (φ1.flatten ++ (((List.range st.n).filter fun i => !σ.contains i).flatMap (fun i => φ.getD i []) ++ X.F)) := by
    refine hc.sh.perm ?_
    rw [← List.append_assoc]
    refine List.Perm.append_right _ ?_
    rw [flatten_range, hc.nφ]
    refine ((range_split hnd hlt).flatMap_right _).trans ?_
    rw [List.flatMap_append]
    refine List.Perm.of_eq ?_
    show _ = φ1.flatten ++ _
    rw [show φ1.flatten = σ.flatMap fun i => φ.getD i [] from flatMap_getD φ σ]
  have hos : OsRep m ρ1 H1 φ1 := by
    refine ⟨by simp [ρ1, hlen], by simp [φ1, hlen], fun i o h f hi hh hf => ?_⟩
    have hil : i < σ.length := by rw [hlen]; exact (List.getElem?_eq_some_iff.1 hi).1
    have hσi : σ[i]? = some (σ[i]'hil) := List.getElem?_eq_getElem hil
    have hn := hlt _ (List.getElem_mem hil)
    have e1 := congrArg (fun l => l[i]?) hH
    simp only [List.getElem?_map, hσi, hi, Option.map_some, Option.some.injEq] at e1
    have hρi : ρ[σ[i]'hil]? = some (ρ[σ[i]'hil]'(by rw [hc.nρ]; exact hn)) := List.getElem?_eq_getElem _
    have hφi : φ[σ[i]'hil]? = some (φ[σ[i]'hil]'(by rw [hc.nφ]; exact hn)) := List.getElem?_eq_getElem _
    have h1 := hc.objs _ _ _ hρi hφi
    rw [e1] at h1
    have h2 := h1.fwd hfwd
    have eh : h = ρ[σ[i]'hil]'(by rw [hc.nρ]; exact hn) := by
      have := hfwd i _ _ hσi hρi
      rw [this] at hh; exact (Option.some.inj hh).symm
    have ef : f = φ[σ[i]'hil]'(by rw [hc.nφ]; exact hn) := by
      simp only [φ1, List.getElem?_map, hσi, Option.map_some, List.getD_eq_getElem?_getD, hφi, Option.getD_some, Option.some.injEq] at hf
      exact hf.symm
    rw [eh, ef]; exact h2
  refine Ret.mono (hr X.e w m ρ1 φ1 _ vs hc.mle (renL_fwd hfwd as1 hv) hos hsh) ?_
  rintro v w' ⟨rs, H', m', ρ1', φ1', h1, h2, h3, h4, h5, h6, h7⟩
  exact ⟨rs, H', m', ρ1', φ1', h1, h2, by rw [hlen]; exact h4, fun i j h hi hj => h3 i h (hfwd i j h hi hj), h5, h6, h7⟩

/-- A call that turns what is handed to it. -/
theorem aop_callO {f : FuncId} {xs : List Operand} {as1 as' rs : List AV} {H1 H' : List AO} {σ : List Nat} {ts : Array TypeId} {K : AS → Prop} {r : AV} (hr : RunsM X.m P f as1 H1 fun q Hq => q = rs ∧ Hq = H') (hf : Enters P f) (hx : xs.map (aev st.l) = as'.map some) (hcv : cvL (renL σ as1) as') (hσ : (nodupB σ && σ.all fun i => Nat.blt i st.n) = true) (hH : σ.map st.H.get = H1.map (AO.ren σ))
    (hrs : tupA (renL (σ ++ fromN st.n (H'.length - σ.length)) rs) = r) (k : K ⟨(d, r) :: st.l, updH 0 (σ ++ fromN st.n (H'.length - σ.length)) (H'.map (AO.ren (σ ++ fromN st.n (H'.length - σ.length)))) st.H, st.n + (H'.length - σ.length)⟩) (hN : Nat.blt d N.n = true := by rfl) :
    AOp P N X ⟨some d, .call ⟨.value (.func f), xs.toArray, ts⟩, U, pos, aft, g⟩ K st :=
  aop_of fun Q fr w m ρ φ hc K' hK => by
    obtain ⟨vs, h1, h2⟩ := hc.evl hx
    have hσ' := hσ
    rw [Bool.and_eq_true] at hσ'
    refine op_call hf h1 (ret_own hr hc hσ hH (cvL_rep hcv h2)) hN ?_
    rintro v w' ⟨rs', H'', m', ρ1', φ1', ⟨rfl, rfl⟩, g1, g2, g3, g4, g5, us, g6, rfl⟩
    subst hrs
    obtain ⟨ρ', φ', hcc⟩ := conc_call (d := d) (av := tupA (renL (σ ++ fromN st.n (H''.length - σ.length)) rs')) (v := tupleOf us) hc (nodup_of hσ'.1) (fun i hi => by have := hσ'.2; rw [List.all_eq_true] at this; simpa using this i hi) g1 g2 g3 g4 g5 (fun ρ' hb => rep_tup (renL_bwd hb _ g6))
    exact hK _ _ _ _ _ _ hcc k
end

/-- A function that ends with what was handed to it. -/
theorem ret_o {P : Program} {X : Cx} {rs : List ResultVar} {k n : Nat} {st : AS} {as' r : List AV} {l' : AFr} {Hs : AH} {H' : List AO} (h : Wk X st ⟨l', Hs, n⟩) (hr : as' = r) (hH : (List.range n).map (AH.get Hs) = H') (hk : Nat.ble k n = true) (ho : AOuts P l' rs as') : retW P X rs k (fun q Hq => q = r ∧ Hq = H') .ret st :=
  ⟨⟨l', Hs, n⟩, h, as', _, ho, hH, hk, hr, rfl⟩
end Go.Ab


set_option linter.unusedVariables false
set_option linter.unusedSimpArgs false
namespace Go.Ab
open Go.RowKit Go.Shelf Go.Proofs Go.Eng

/-! loops over functions -/
/-- What a call does in worlds of which 'c' holds. -/
def RunsL (c : World → Prop) (P : Program) (f : FuncId) (args : List AV) (H : List AO) (R : List AV → List AO → Prop) : Prop :=
  ∀ (e w : World) (m : Mem) (ρ : List Value) (φ : List Frag) (F : Frag) (vs : List Value), c w → RepL m ρ args vs → OsRep m ρ H φ → SH e w m (φ.flatten ++ F) →
    Ret P f vs.toArray w fun v w' => ∃ rs H' m' ρ' φ', R rs H' ∧ m.le m' ∧ (∀ (i : Nat) (h : Value), ρ[i]? = some h → ρ'[i]? = some h) ∧ H.length ≤ H'.length ∧ OsRep m' ρ' H' φ' ∧ SH e w' m' (φ'.flatten ++ F) ∧ ∃ us, RepL m' ρ' rs us ∧ v = tupleOf us

theorem args_conc {e w : World} {m : Mem} {ρ : List Value} {φ : List Frag} {F : Frag} {vs : List Value} {args : List AV} {H : List AO} (hv : RepL m ρ args vs) (ho : OsRep m ρ H φ) (hs : SH e w m (φ.flatten ++ F)) : Conc ⟨e, m, ρ, F⟩ ⟨argA 0 args, zipH 0 H, H.length⟩ (argFr 0 vs) w m ρ φ := by
  refine ⟨Mem.le_refl _, fun _ _ h => h, ho.nρ, ho.nφ, arg_rep hv, ?_, hs⟩
  intro i hd f hi hf
  have hil : i < H.length := by rw [← ho.nρ]; exact (List.getElem?_eq_some_iff.1 hi).1
  have hH : H[i]? = some (H[i]'hil) := List.getElem?_eq_getElem hil
  have := zipH_get (i := 0) hH
  rw [Nat.zero_add] at this
  show ORep m ρ (AH.get (zipH 0 H) i) hd f
  rw [this]
  exact ho.at_ i _ hd f hH hi hf
theorem outs_conc {P : Program} {X : Cx} {st : AS} {l : Fr} {w w' : World} {m m' : Mem} {ρ' : List Value} {φ' : List Frag} {rs : List ResultVar} {k : Nat} {R : List AV → List AO → Prop} (hc : Conc X st l w' m' ρ' φ') (hq : aretQ P rs k R .normal st) :
    ∃ vs, OutsAt P l w' rs vs ∧ ∃ rs' H' m'' ρ'' φ'', R rs' H' ∧ X.m.le m'' ∧ (∀ (i : Nat) (h : Value), X.ρ[i]? = some h → ρ''[i]? = some h) ∧ k ≤ H'.length ∧ OsRep m'' ρ'' H' φ'' ∧ SH X.e w' m'' (φ''.flatten ++ X.F) ∧ ∃ us, RepL m'' ρ'' rs' us ∧ tupleOf vs = tupleOf us := by
  obtain ⟨as', H', h1, rfl, hk, hR⟩ := hq
  obtain ⟨us, h2, h3⟩ := aouts hc h1
  refine ⟨us, h2, as', _, m', ρ', φ', hR, hc.mle, hc.pre, ?_, ⟨?_, ?_, ?_⟩, hc.sh, us, h3, rfl⟩
  · simpa using Nat.le_of_ble_eq_true hk
  · simpa using hc.nρ
  · simpa using hc.nφ
  · intro i o hd f hi hh hf
    rw [List.getElem?_map] at hi
    obtain ⟨j, hj, rfl⟩ := Option.map_eq_some_iff.1 hi
    have hil := (List.getElem?_eq_some_iff.1 hj).1
    rw [List.getElem?_range (by simpa using hil)] at hj
    cases hj
    exact hc.objs i hd f hh hf

theorem runs_wL {P : Program} {cw : World → Prop} {f : FuncId} {fn : Func} {c : Code} {n : Nat} {args : List AV} {H : List AO} {R : List AV → List AO → Prop} {rs : List ResultVar} (hf : P.funcs[f]? = some fn) (hN : fn.ntmps = n) (hb : fn.body = some c) (hr : fn.results = rs.toArray) (hle : Nat.ble args.length n = true)
    (h : ∀ (w0 : World) (X : Cx), cw w0 → X.ρ.length = H.length → AWC P ⟨n, none, w0, none, false⟩ X c (retW P X rs H.length R) ⟨argA 0 args, zipH 0 H, H.length⟩) : RunsL cw P f args H R := by
  intro e w m ρ φ F vs hcw hv ho hs
  have hl := hv.len
  refine ret_of hf hb hN (by rw [hl]; exact hle) hr ?_
  refine WC.mono ?_ (h w ⟨e, m, ρ, F⟩ hcw ho.nρ _ _ _ _ _ (args_conc hv ho hs))
  rintro ex l w' ⟨st, m', ρ', φ', hc', hq⟩
  cases ex with
  | normal => obtain ⟨st', h3, h4⟩ := hq; obtain ⟨m'', ρ'', φ'', h5⟩ := h3 _ _ _ _ _ hc'; exact outs_conc (w := w) (m := m) h5 h4
  | ret => obtain ⟨st', h3, h4⟩ := hq; obtain ⟨m'', ρ'', φ'', h5⟩ := h3 _ _ _ _ _ hc'; exact outs_conc (w := w) (m := m) h5 h4
  | _ => exact hq.elim

/-- Control blocks alone turn. -/
theorem SH.but {e w w' : World} {m : Mem} {f : Frag} {b : Nat} (h : SH e w m f) (hB : But [] b w w') : SH e w' m f :=
  ⟨hB.os.trans h.os, hB.tape.trans h.tape, hB.output.trans h.output, fun x o hx => hB.same x o (h.fz _ _ hx) (by simp) (.inl (h.mctl _ _ hx)), fun p hp => hB.same _ _ (h.own p hp) (by simp) (.inl (h.noctl p hp)), h.nd, h.dis, h.noctl, h.mctl⟩
theorem Conc.but {X : Cx} {st : AS} {fr : Fr} {w w' : World} {m : Mem} {ρ : List Value} {φ : List Frag} {b : Nat} (h : Conc X st fr w m ρ φ) (hB : But [] b w w') : Conc X st fr w' m ρ φ :=
  ⟨h.mle, h.pre, h.nρ, h.nφ, h.slots, h.objs, h.sh.but hB⟩

/-- A function with loops over functions in it. -/
theorem runs_wM {P : Program} {f : FuncId} {fn : Func} {c : Code} {n : Nat} {args : List AV} {H : List AO} {R : List AV → List AO → Prop} {rs : List ResultVar} (hf : P.funcs[f]? = some fn) (hN : fn.ntmps = n) (hb : fn.body = some c) (hr : fn.results = rs.toArray) (hle : Nat.ble args.length n = true)
    (h : ∀ (w0 : World) (X : Cx), X.ρ.length = H.length → AWC P ⟨n, none, w0, none, true⟩ X c (retW P X rs H.length R) ⟨argA 0 args, zipH 0 H, H.length⟩) : Runs P f args H R := by
  intro e w m ρ φ F vs hv ho hs
  have hl := hv.len
  refine ret_ofM hf hb hN (by rw [hl]; exact hle) hr ?_
  refine WC.mono ?_ (h w ⟨e, m, ρ, F⟩ ho.nρ _ _ _ _ _ (args_conc hv ho hs))
  rintro ex l w' ⟨st, m', ρ', φ', hc', hq⟩
  cases ex with
  | normal => obtain ⟨st', h3, h4⟩ := hq; obtain ⟨m'', ρ'', φ'', h5⟩ := h3 _ _ _ _ _ hc'; exact fun w2 hB _ => outs_conc (w := w) (m := m) (h5.but hB) h4
  | ret => obtain ⟨st', h3, h4⟩ := hq; obtain ⟨m'', ρ'', φ'', h5⟩ := h3 _ _ _ _ _ hc'; exact fun w2 hB _ => outs_conc (w := w) (m := m) (h5.but hB) h4
  | _ => exact hq.elim

/-- What a call of the loop's own function does. -/
def YieldsA (P : Program) (L : Nat) (rec : Obj) (args : List AV) (g g' : Mem → Frag → Prop) : Prop :=
  ∀ (e w : World) (m : Mem) (f F : Frag) (vs : List Value), RepL m [] args vs → w.heap[L]? = some rec → (∃ m0, m0.le m ∧ g m0 f) → SH e w m (f ++ F) →
    YieldAt (FW none) 0 P L vs.toArray w fun en w' => en = .returned (.bool true) ∧ DK none w w' ∧ w.heap.size ≤ w'.heap.size ∧ ∃ m' f', m.le m' ∧ g' m' f' ∧ SH e w' m' (f' ++ F)

section
variable {P : Program} {N : Ev} {X : Cx} {Q : APost} {st : AS}
variable {d : Nat} {T U T' : TypeId} {pos : String} {aft : Array Edge} {g : Option (Nat × Bool)} {x y : Operand}
theorem aop_yield {fx : Operand} {L i : Nat} {rec : Obj} {xs : List Operand} {as' : List AV} {ts : Array TypeId} {p p' : Mem → Frag → Prop} {K : AS → Prop} (hfx : aev st.l fx = some (.yld L)) (hx : xs.map (aev st.l) = as'.map some) (hcl : renL [] as' = as') (hL : N.w0.heap[L]? = some rec) (hrec : ctl rec = true) (hex : N.ex = none) (hH : st.H.get i = .guest p) (hi : Nat.blt i st.n = true) (hY : YieldsA P L rec as' p p')
    (k : K ⟨(d, .bool true) :: st.l, (i, .guest p') :: st.H, st.n⟩) (hN : Nat.blt d N.n = true := by rfl) : AOp P N X ⟨some d, .call ⟨.value fx, xs.toArray, ts⟩, U, pos, aft, g⟩ K st := by
  intro Q fr w m ρ φ hc a ha hgd
  obtain ⟨fv, h1, h2⟩ := hc.ev hfx
  simp only [RepA] at h2
  subst h2
  obtain ⟨vs, h3, h4⟩ := hc.evl hx
  have h4' : RepL m [] as' vs := by
    refine renL_fwd (σ := []) (ρ := ρ) (fun i j u hi _ => by simp at hi) as' ?_
    rw [hcl]; exact h4
  have hin : i < st.n := by simpa using hi
  obtain ⟨h, hh⟩ : ∃ h, ρ[i]? = some h := ⟨_, List.getElem?_eq_getElem (by rw [hc.nρ]; exact hin)⟩
  obtain ⟨f, hf⟩ : ∃ f, φ[i]? = some f := ⟨_, List.getElem?_eq_getElem (by rw [hc.nφ]; exact hin)⟩
  have ho := hc.objs i h f hh hf
  rw [hH] at ho
  have hLw : w.heap[L]? = some rec := hgd.dk L rec hL hrec (by rw [hex]; simp)
  obtain ⟨fn, tm, asg, bd, hy, hR⟩ := hY X.e w m f _ vs h4' hLw ho (hc.front hf)
  refine ⟨fun _ _ => trivial, ?_⟩
  show Oper.uponIn (FW N.ro) 0 P _ a _ _ ((Oper.semAt N.ro a.eval _).run P w)
  have e := evl_eval ha h3
  have hrun : (execOp a.eval ⟨some d, .call ⟨.value fx, xs.toArray, ts⟩, U, pos, aft, g⟩).run P w = .ok (.round L fn tm asg bd) w := by
    simp [execOp, resolve, Deferred.ofValue, ha.eval h1, invoke, e, hy]
  rw [semAt_nodef rfl, hrun, Oper.uponIn_round]
  refine ⟨(fun h => by simp [FW] at h), (roundIn_FW hR).mono ?_⟩
  rintro en w' ⟨rfl, hdk, hsz, m', f', hm, hg', hs'⟩
  refine ⟨_, ha.put (by simpa [Nat.blt_eq] using hN) (.bool true), hgd.step rfl (by rw [hex]; exact hdk) hsz, ⟨_, m', ρ, φ.set i f', ?_, k⟩⟩
  have hc1 : Conc X (st.put d (.bool true)) ((d, .bool true) :: fr) w m ρ φ := hc.put (by simp only [RepA])
  refine ⟨hc1.mle.trans hm, hc1.pre, hc1.nρ, by rw [List.length_set]; exact hc1.nφ, fun t b hb => let ⟨v, q1, q2⟩ := hc1.slots t b hb; ⟨v, q1, RepA.mono hm (fun _ _ h => h) b q2⟩, ?_, ?_⟩
  · intro j hd fj hj hfj
    show ORep m' ρ (AH.get ((i, .guest p') :: st.H) j) hd fj
    rw [AH.get_cons]
    split
    · rename_i ee
      subst ee
      rw [List.getElem?_set_self (by rw [hc.nφ]; exact hin)] at hfj
      cases hfj
      exact ⟨m', Mem.le_refl _, hg'⟩
    · rename_i ee
      rw [List.getElem?_set_ne (fun e => ee e)] at hfj
      exact (hc.objs j hd fj hj hfj).mono hm (fun _ _ h => h)
  · refine hs'.perm ?_
    rw [← List.append_assoc]
    exact List.Perm.append_right _ (frag_split hf f').2.symm

/-- A frame with the loop's variables. -/
def zipA : AFr → List Nat → List AV → AFr
  | l, p :: ps, v :: vs => zipA ((p, v) :: l) ps vs
  | l, _, _ => l
theorem zip_rep {m : Mem} {ρ : List Value} : ∀ {ps : List Nat} {as' : List AV} {vs : List Value} {l : AFr} {fr : Fr}, (∀ t a, l.look t = some a → ∃ v, fr.look t = some v ∧ RepA m ρ a v) → RepL m ρ as' vs → ∀ t a, (zipA l ps as').look t = some a → ∃ v, (zipFr fr ps vs).look t = some v ∧ RepA m ρ a v := by
  intro ps
  induction ps with
  | nil => intro as' vs l fr h _ t a ht; simp only [zipA] at ht; simp only [zipFr]; exact h t a ht
  | cons p ps ih =>
    intro as' vs l fr h hv t a ht
    cases as' with
    | nil => cases vs with
      | nil => simp only [zipA] at ht; simp only [zipFr]; exact h t a ht
      | cons => simp [RepL] at hv
    | cons b as' => cases vs with
      | nil => simp [RepL] at hv
      | cons v vs =>
        simp only [RepL] at hv
        simp only [zipA] at ht
        simp only [zipFr]
        refine ih ?_ hv.2 t a ht
        intro q c hq
        rw [AFr.look_cons] at hq
        rw [Fr.look_cons]
        split
        · rename_i e; rw [if_pos e] at hq; cases hq; exact ⟨v, rfl, hv.1⟩
        · rename_i e; rw [if_neg e] at hq; exact h q c hq

def rangeQ (X : Cx) (H : AH) (n : Nat) : APost
  | .normal, st => Wk X st ⟨[], H, n⟩
  | _, _ => False
/-- The state of the rounds, xs the iterator's caller sees it. -/
def gst (m : Mem) (ρk : List Value) (H : AH) (n : Nat) : Mem → Frag → Prop := fun m1 f => m.le m1 ∧ ∃ (ρ1 : List Value) (φ1 : List Frag), (∀ (i : Nat) (h : Value), ρk[i]? = some h → ρ1[i]? = some h) ∧ ρ1.length = n ∧ φ1.length = n ∧
  (∀ (i : Nat) (h : Value) (f : Frag), ρ1[i]? = some h → φ1[i]? = some f → ORep m1 ρ1 (H.get i) h f) ∧ f = φ1.flatten

theorem closed_at {σ : List Nat} {t : Nat} {a : AV} : ∀ {l : AFr}, l.map (fun p => renA σ p.2) = l.map (·.2) → l.look t = some a → renA σ a = a := by
  intro l
  induction l with
  | nil => intro _ h; simp [AFr.look] at h
  | cons p r ih =>
    intro hcl ht
    obtain ⟨t', b⟩ := p
    rw [AFr.look_cons] at ht
    simp only [List.map_cons, List.cons.injEq] at hcl
    split at ht
    · cases ht; exact hcl.1
    · exact ih hcl.2 ht
theorem awc_rangeF {σ α : Type} {gx : Operand} {ps : List Nat} {assign body : Code} {gf : Nat} {caps : List AV} (k : Nat) (q : σ → α → Option σ) (enc : α → List AV) (l : AFr) (H : σ → AH) (n : Nat) {s0 s1 : σ}
    (hro : N.ro = none) (hmr : N.mr = true) (hg : aev l gx = some (.fn gf [] caps)) (hE : Enters P gf) (hcaps : renL [] caps = caps) (hpn : (ps.all fun p => Nat.blt p N.n) = true) (hps : ∀ x, Nat.beq (enc x).length ps.length = true)
    (hk : Nat.ble k n = true) (hkX : Nat.ble X.ρ.length k = true) (hcl : l.map (fun p => renA (List.range k) p.2) = l.map (·.2))
    (hit : ∀ (L : Nat) (rec : Obj) (G : σ → Mem → Frag → Prop), ctl rec = true → (∀ s x s', q s x = some s' → YieldsA P L rec (enc x) (G s) (G s')) → RunsL (fun w => w.heap[L]? = some rec) P gf (.yld L :: caps) [.guest (G s0)] fun rs H' => rs = [] ∧ H' = [.guest (G s1)])
    (hbody : ∀ (w0 : World) (L : Nat) (X : Cx), X.ρ.length = k → ∀ s x s', q s x = some s' → AWC P ⟨N.n, some L, w0, none, false⟩ X assign (fun e st1 => e = .normal ∧ ∀ w0 : World, AWC P ⟨N.n, some L, w0, none, false⟩ X body (rangeQ X (H s') n) st1) ⟨zipA l ps (enc x), H s, n⟩)
    (hdone : Q .normal ⟨l, H s1, n⟩) : AWC P N X (.rangeFunc gx ps.toArray assign body) Q ⟨l, H s0, n⟩ := by
  intro fr w m ρ φ hc
  have hk' := Nat.le_of_ble_eq_true hk
  have hkX' := Nat.le_of_ble_eq_true hkX
  have hnρ : ρ.length = n := hc.nρ
  have hnφ : φ.length = n := hc.nφ
  obtain ⟨ρk, hρk⟩ : ∃ ρk, ρk = ρ.take k := ⟨_, rfl⟩
  have hρkl : ρk.length = k := by rw [hρk, List.length_take]; omega
  have hρkp : ∀ (i : Nat) (h : Value), ρk[i]? = some h → ρ[i]? = some h := by
    intro i h hi
    rw [hρk, List.getElem?_take] at hi
    split at hi
    · exact hi
    · cases hi
  have hsl : ∀ t a, l.look t = some a → ∃ v, fr.look t = some v ∧ RepA m ρk a v := by
    intro t a ht
    obtain ⟨v, h1, h2⟩ := hc.slots t a ht
    refine ⟨v, h1, ren_fwd (σ := List.range k) (ρ := ρ) ?_ a ?_⟩
    · intro i j u hi hj
      have hil := (List.getElem?_eq_some_iff.1 hi).1
      rw [List.getElem?_range (by simpa using hil)] at hi
      cases hi
      rw [hρk, List.getElem?_take, if_pos (by simpa using hil)]
      exact hj
    · have := closed_at hcl ht
      rw [this]; exact h2
  obtain ⟨gv, hgv, hgr⟩ := hc.ev hg
  simp only [RepA] at hgr
  obtain ⟨us, ws, rfl, hus, hws⟩ := hgr
  have hus' : us = [] := by
    cases us with
    | nil => rfl
    | cons => simp [RepL] at hus
  subst hus'
  have hws' : RepL m [] caps ws := by
    refine renL_fwd (σ := []) (ρ := ρ) (fun i j u hi _ => by simp at hi) caps ?_
    rw [hcaps]; exact hws
  intro a ha hgd
  rw [hro]
  refine wpIn_rangeFunc ?_
  intro fn hfn
  obtain ⟨rec, hrec⟩ : ∃ rec : LoopState → Option Code → Loop, rec = fun st pe => { state := st, pending := pe, fn, tmps := a.tmps, params := ps.toArray, assign, body, defers := w.heap.size } := ⟨_, rfl⟩
  obtain ⟨W1, hW1⟩ : ∃ W1, (w.alloc (.deferred (some []))).alloc (.loop (rec .ready none)) = W1 := ⟨_, rfl⟩
  obtain ⟨L, hL⟩ : ∃ L, L = w.heap.size + 1 := ⟨_, rfl⟩
  have hL1 : W1.heap[L]? = some (.loop (rec .ready none)) := by
    rw [← hW1, hL]; have := World.alloc_heap_new (w.alloc (.deferred (some []))) (.loop (rec .ready none)); rwa [World.size_alloc] at this
  have hK1 : W1.heap[w.heap.size]? = some (.deferred (some [])) := by
    rw [← hW1]; exact (Below.heap_alloc _ _ _ (by simp)).trans (World.alloc_heap_new w _)
  have hb1 : Below w.heap.size w W1 := by
    rw [← hW1]; exact (((Below.refl _ w).alloc (Nat.le_refl _) _).alloc (by simp) _)
  have hs1 : W1.heap.size = w.heap.size + 2 := by rw [← hW1]; simp
  have hwL : w.heap.size ≤ L := by omega
  -- the rounds
  obtain ⟨G, hG⟩ : ∃ G : σ → Mem → Frag → Prop, G = fun s => gst m ρk (H s) n := ⟨_, rfl⟩
  have hyield : ∀ s x s', q s x = some s' → YieldsA P L (.loop (rec .ready none)) (enc x) (G s) (G s') := by
    intro s x s' hq e V m1 f F vs hvs hl ⟨m0, hm0, hg0⟩ hsh
    rw [hG] at hg0
    obtain ⟨hm2, ρ1, φ1, hp1, hn1, hn2, ho1, rfl⟩ := hg0
    have hy := run_yield (P := P) (args := vs.toArray) hl (by
      rw [hrec]
      have h1 := Nat.eq_of_beq_eq_true (hps x)
      have h2 := hvs.len
      simp only [List.size_toArray]
      omega)
    rw [hrec] at hy
    have hcb : Conc ⟨e, m1, ρk, F⟩ ⟨zipA l ps (enc x), H s, n⟩ (zipFr fr ps vs) V m1 ρ1 φ1 := by
      refine ⟨Mem.le_refl _, hp1, hn1, hn2, zip_rep (fun t a ht => ?_) (RepL.mono (Mem.le_refl _) (fun i h hi => by simp at hi) _ hvs), fun i h f h1 h2 => (ho1 i h f h1 h2).mono hm0 (fun _ _ h => h), hsh⟩
      obtain ⟨v, h1, h2⟩ := hsl t a ht
      exact ⟨v, h1, RepA.mono (hm2.trans hm0) hp1 a h2⟩
    have hst := hbody V L ⟨e, m1, ρk, F⟩ hρkl s x s' hq _ _ _ _ _ hcb { tmps := (ps.toArray.zip vs.toArray).foldl (fun t (p, v) => t.setIfInBounds p v) a.tmps, defers := [] } (by
        have := zip_hold (N := ⟨N.n, some L, V, none, false⟩) (ps := ps) (vs := vs) (l := fr) (tm := a.tmps) (ds := []) hpn ⟨ha.size, ha.slot⟩
        simpa using this)
      ⟨DK.refl, Nat.le_refl _, (fun _ h => by cases h), ⟨[], rfl, fun _ => rfl, List.nodup_nil, fun D h => by cases h⟩, fun l0 h0 => by cases h0; exact ⟨by simp, _, hl⟩⟩
    refine ⟨fn, _, assign, body, hy, roundIn_of_wpIn (F := FW none) hfn (wpIn_mono hst ?_)⟩
    rintro ex a1 V1 ⟨l1, hl1, g1, st1, m3, ρ3, φ3, hc3, rfl, q1⟩
    have hr1 : V1.heap[L]? = some (.loop (rec .ready none)) := g1.dk L _ hl rfl (by simp)
    have hbr := run_beginRound (P := P) hr1 (by rw [hrec])
    obtain ⟨V2, hV2⟩ : ∃ V2, V1.putObj L (.loop { rec .ready none with state := .busy }) = V2 := ⟨_, rfl⟩
    rw [hV2] at hbr
    have hlt1 : L < V1.heap.size := (Array.getElem?_eq_some_iff.1 hr1).1
    have hr2 : V2.heap[L]? = some (.loop { rec .ready none with state := .busy }) := by rw [← hV2]; exact World.putObj_heap_same hlt1
    have hs2 : V1.heap.size = V2.heap.size := by rw [← hV2]; simp
    have hd1 : a1.defers = [] := by
      obtain ⟨Ds, e1, e2, _⟩ := g1.marks
      rw [e1, e2 rfl]; rfl
    have hB12 : But [] 0 V1 V2 := by rw [← hV2]; exact but_putObj (Nat.zero_le _) hr1 rfl
    refine ⟨V2, hbr, wpIn_mono (q1 V2 _ _ _ _ _ (hc3.but hB12) a1 ⟨hl1.size, hl1.slot⟩
      ⟨DK.refl, Nat.le_refl _, (fun _ h => by cases h), ⟨[], hd1, fun _ => rfl, List.nodup_nil, fun D h => by cases h⟩, fun l0 h0 => by cases h0; exact ⟨by simp, _, hr2⟩⟩) ?_⟩
    have hdk12 : DK (some L) V1 V2 := by rw [← hV2]; exact dk_putObj
    rintro ex a3 V3 ⟨l3, hl3, g3, st3, m4, ρ4, φ4, hc4, q3⟩
    cases ex with
    | normal =>
      obtain ⟨m5, ρ5, φ5, hc5⟩ := q3 _ _ _ _ _ hc4
      have hr3 : V3.heap[L]? = some (.loop { rec .ready none with state := .busy }) := g3.dk L _ hr2 rfl (by simp)
      have hlt3 : L < V3.heap.size := (Array.getElem?_eq_some_iff.1 hr3).1
      have hend := run_endRound (P := P) none hr3
      have h13 : V.heap.size ≤ V1.heap.size := g1.size
      have h23 : V2.heap.size ≤ V3.heap.size := g3.size
      have hB34 : ∀ o', But [] 0 V3 (V3.putObj L o') := fun o' => but_putObj (Nat.zero_le _) hr3 rfl
      refine ⟨_, _, hend, rfl, ?_, ?_, ?_⟩
      · intro k' o hk1 hk2 hk3
        by_cases e : k' = L
        · subst e
          rw [hl] at hk1; cases hk1
          rw [World.putObj_heap_same hlt3, hrec]
          rfl
        · refine (World.putObj_heap_other e).trans ?_
          exact g3.dk k' o (hdk12 k' o (g1.dk k' o hk1 hk2 (by simp)) hk2 (by intro e'; exact e (Option.some.inj e').symm)) hk2 (by simp)
      · simp; omega
      · refine ⟨m5, φ5.flatten, hc5.mle, ?_, (hc5.but (hB34 _)).sh⟩
        rw [hG]
        exact ⟨(hm2.trans hm0).trans hc5.mle, ρ5, φ5, hc5.pre, hc5.nρ, hc5.nφ, hc5.objs, rfl⟩
    | _ => exact q3.elim
  have hsh1 : SH X.e W1 m (φ.flatten ++ X.F) := hc.sh.ext hb1
  have hG0 : G s0 m φ.flatten := by
    rw [hG]
    exact ⟨Mem.le_refl _, ρ, φ, hρkp, hnρ, hnφ, hc.objs, rfl⟩
  have hcall := hit L (.loop (rec .ready none)) G rfl hyield X.e W1 m [undef] [φ.flatten] X.F (.func (.yield L) #[] #[] :: ws) hL1
    (by simp only [RepL, RepA]; exact ⟨trivial, RepL.mono (Mem.le_refl _) (fun i h hi => by simp at hi) _ hws'⟩)
    ⟨rfl, rfl, fun i o h f hi hh hf => by
      cases i with
      | zero => simp at hi hf; subst hi hf; exact ⟨m, Mem.le_refl _, hG0⟩
      | succ i => simp at hi⟩
    (by simpa using hsh1)
  refine ⟨L, [Eng.mark w.heap.size], W1, { target := .fn (.func gf) ws.toArray, args := #[.func (.yield L) #[] #[]] }, W1, gf, (.func (.yield L) #[] #[] :: ws).toArray, W1, ?_, ?_, ?_, ?_, (fun h => by simp [FW] at h), ?_⟩
  · rw [← hW1, hrec, hL]; exact run_enterLoop_outer _ _ _ _ _
  · simp only [resolve, ha.eval hgv]
    simp [go_sem]
  · intro f' hf'; trivial
  · have he := hE (#[.func (.yield L) #[] #[]] ++ ws.toArray) W1
    simp only [invoke]
    have e2 : (#[Value.func (.yield L) #[] #[]] ++ ws.toArray : Array Value) = (.func (.yield L) #[] #[] :: ws).toArray := by simp
    rw [e2] at he
    simpa [go_sem, e2] using he
  · have hholds : Holds N fr { a with defers := [Eng.mark w.heap.size] ++ a.defers } := ⟨ha.size, ha.slot⟩
    refine CallsIn.mono (calls_FW hcall) ?_
    rintro e W ⟨v, rfl, ⟨hdk, hsz⟩, rs, H', m', ρ', φ', ⟨rfl, rfl⟩, hm', _, _, hos, hshW, _, _, _⟩
    have hl : W.heap[L]? = some (.loop (rec .ready none)) := hdk L _ hL1 rfl (by simp)
    have h1 := run_endLoop (P := P) hl (by rw [hrec]; simp)
    have hstep : DK N.ex w (W.putObj L (.loop { rec .ready none with state := .exhausted })) := by
      intro k' o hk1 hc1 hx
      have hlt : k' < w.heap.size := (Array.getElem?_eq_some_iff.1 hk1).1
      have hk2 : W1.heap[k']? = some o := (hb1.block k' hlt).trans hk1
      have hk3 := hdk k' o hk2 hc1 (by simp)
      exact (World.putObj_heap_other (by omega)).trans hk3
    have hgw := hgd.step (a' := a) rfl hstep (by simp; omega)
    obtain ⟨Ds, d1, d2, d3, d4⟩ := hgw.marks
    have hD : W.heap[w.heap.size]? = some (.deferred (some [])) := hdk _ _ hK1 rfl (by simp)
    have hDn : w.heap.size ∉ Ds := by
      intro hm
      obtain ⟨Ds', e1, _, _, e4⟩ := hgd.marks
      have : Ds = Ds' := by
        have := d1.symm.trans e1
        have hinj : ∀ x y, Eng.mark x = Eng.mark y → x = y := by intro x y h; simpa [Eng.mark] using h
        exact (List.map_inj_right hinj).1 this
      subst this
      have := (Array.getElem?_eq_some_iff.1 (e4 _ hm).2.2).1
      omega
    have hgood : Eng.Good N { a with defers := [Eng.mark w.heap.size] ++ a.defers } (W.putObj L (.loop { rec .ready none with state := .exhausted })) := by
      refine ⟨hgw.dk, hgw.size, hgw.exlt, ⟨w.heap.size :: Ds, by simp [d1], (fun h => by rw [hmr] at h; cases h), List.nodup_cons.2 ⟨hDn, d3⟩, fun D hm => ?_⟩, hgw.rnd⟩
      rcases List.mem_cons.1 hm with rfl | hm
      · refine ⟨hgd.size, fun e => ?_, (World.putObj_heap_other (by omega)).trans hD⟩
        have := hgd.exlt _ e
        have := hgd.size
        omega
      · exact d4 D hm
    refine ⟨none, _, by rw [h1, hrec], fr, hholds, (by simpa [hrec] using hgood), ?_⟩
    -- what holds behind the loop
    obtain ⟨h, hh⟩ : ∃ h, ρ'[0]? = some h := ⟨_, List.getElem?_eq_getElem (by rw [hos.nρ]; exact Nat.one_pos)⟩
    obtain ⟨f, hf⟩ : ∃ f, φ'[0]? = some f := ⟨_, List.getElem?_eq_getElem (by rw [hos.nφ]; exact Nat.one_pos)⟩
    have hφ' : φ' = [f] := by
      have := hos.nφ
      match φ', this, hf with
      | [f'], _, hf => simp at hf; rw [hf]
    obtain ⟨m0, hm0, hg1⟩ := hos.at_ 0 _ h f rfl hh hf
    rw [hG] at hg1
    obtain ⟨hm2, ρ1, φ1, hp1, hn1, hn2, ho1, rfl⟩ := hg1
    subst hφ'
    refine ⟨_, m', ρ1, φ1, ?_, hdone⟩
    have hBL : But [] 0 W (W.putObj L (.loop { rec .ready none with state := .exhausted })) := but_putObj (Nat.zero_le _) hl rfl
    refine ⟨hc.mle.trans hm', fun i h hi => hp1 i h ?_, hn1, hn2, fun t a ht => ?_, fun i h f h1 h2 => (ho1 i h f h1 h2).mono hm0 (fun _ _ h => h), ?_⟩
    · have hi1 := (List.getElem?_eq_some_iff.1 hi).1
      rw [hρk, List.getElem?_take, if_pos (by omega)]
      exact hc.pre i h hi
    · obtain ⟨v, g1, g2⟩ := hsl t a ht
      exact ⟨v, g1, RepA.mono hm' hp1 a g2⟩
    · have := (hshW.but hBL)
      simpa [hrec] using this
end
theorem ranged {P : Program} {n L : Nat} {X : Cx} {body : Code} {Q : APost} {st : AS} (h : ∀ w0 : World, AWC P ⟨n, some L, w0, none, false⟩ X body Q st) : (fun (e : Exit) (st1 : AS) => e = .normal ∧ ∀ w0 : World, AWC P ⟨n, some L, w0, none, false⟩ X body Q st1) .normal st := ⟨rfl, h⟩
end Go.Ab


set_option linter.unusedVariables false
set_option linter.unusedSimpArgs false
namespace Go.Ab
open Go.RowKit Go.Shelf Go.Proofs Go.Eng

section
variable {P : Program} {N : Ev} {X : Cx} {Q : APost} {st : AS}
variable {d : Nat} {T U T' : TypeId} {pos : String} {aft : Array Edge} {g : Option (Nat × Bool)} {x y : Operand}

/-- A literal slice that the call owns. -/
theorem aop_buildSlice {E n : Nat} {t : Ty} {ps : List (Nat × Operand)} {qs : List (Nat × List AV)} {zs cs : List AV} {ys : List t.den} {K : AS → Prop} (hT : BuildS P T E t) (hx : evas st.l ps = qs.map some) (hz : ((List.replicate n (zeroV t)).flatten).map ofV1 = zs) (hl : layA (fun i => some (i * t.cells, t.cells)) zs qs = some cs) (hy : (ys.map (expl t)).flatten = cs) (hn : Nat.beq ys.length n = true) (hc : Nat.ble (n * t.cells) 16777216 = true) (hc1 : Nat.ble n 16777216 = true) (hno : (ys.all fun y => t.fit y) = true)
    (k : K (st.new d (.osl st.n) (.sl E t ys))) (hN : Nat.blt d N.n = true := by rfl) :
    AOp P N X ⟨some d, .buildSlice T n ps.toArray, U, pos, aft, g⟩ K st :=
  aop_of fun Q fr w m ρ φ hcc K' hK => by
  obtain ⟨vs, h1, h2, h3⟩ := hcc.evs hx
  have hzl := run_buildSlice (w := w) (ps := vs.toArray) hT hc (us := #[])
  have hz' : ∀ (l : List Value), RepL m ρ (l.map ofV1) l := by
    intro l
    induction l with
    | nil => simp [RepL]
    | cons v l ih => simp only [List.map_cons, RepL]; exact ⟨rep_ofV1 m ρ v, ih⟩
  obtain ⟨zz, hzz, _⟩ := hzl
  obtain ⟨us, h6, h7, h8⟩ := lay_fill (us := zz) hl h2 h3 (by rw [← hz, hzz]; exact hz' _) (by
    rw [hzz]; intro u hu
    obtain ⟨r, hr, hur⟩ := List.mem_flatten.1 hu
    rw [List.eq_of_mem_replicate hr] at hur
    exact zeroV_one t u hur)
  obtain ⟨zz', hzz', hrun⟩ := run_buildSlice (w := w) (ps := vs.toArray) hT hc (us := us)
  have hzeq : zz' = zz := Array.toList_inj.1 (hzz'.trans hzz.symm)
  subst hzeq
  have hr := hrun (by simpa using h6)
  have hn' := Nat.eq_of_beq_eq_true hn
  refine op_val (v := .slice (some ⟨w.heap.size, 0, none⟩) n n) rfl hN (fun s hs => ?_) ?_ (dk_new (new_push w (.cells us E)))
  · have e := evos_eval hs h1
    simp only [execOp, List.map_toArray, Sem.run_bind]
    rw [show (List.map (fun (x : Nat × Operand) => match x with | (i, x) => (i, s.eval x)) ps) = vs from e, hr]
    rfl
  · have hs := hcc.sh.alloc (new_push w (.cells us E)) rfl
    have hrows : RowsC m t ys us.toList := by rw [← hy] at h7; exact rows_of_expl hno h7
    have h47 : cap47 = 140737488355328 := rfl
    have hc1' := Nat.le_of_ble_eq_true hc1
    have hlen := hrows.len
    refine hK _ _ _ _ _ _ (hcc.newObj (h := .slice (some ⟨w.heap.size, 0, none⟩) n n) (f := [(w.heap.size, .cells us E)]) (Mem.le_refl _) hs ?_ ?_) k
    · refine ⟨by omega, .inr ⟨w.heap.size, n, us, us.toList, by rw [hn'], rfl, by omega, by simp only [maxLen]; omega, by rw [← hn', ← hlen]; simp, hrows, by rw [← hlen, List.take_length]⟩⟩
    · simp only [RepA]
      exact ⟨by rw [← hcc.nρ]; simp, rfl⟩
end
end Go.Ab


set_option linter.unusedVariables false
set_option linter.unusedSimpArgs false
namespace Go.Ab
open Go.RowKit Go.Shelf Go.Proofs Go.Eng

/-! the kit's contracts of rows, of what is handed in -/
/-- Elements of one cell. -/
structure Enc1 (t : Ty) (enc : t.den → Value) : Prop where
  one : t.cells = 1
  rc : ∀ m x, RC m t x [enc x]
  uniq : ∀ m x vs, RC m t x vs → vs = [enc x]

theorem enc_int (k : IntKind) : Enc1 (.int k) (fun (x : Int) => Value.int k x) := ⟨rfl, fun m x => rfl, fun m x vs h => h⟩
theorem rows_enc {m : Mem} {t : Ty} {enc : t.den → Value} (hE : Enc1 t enc) {xs : List t.den} {vs : List Value} (h : RowsC m t xs vs) : vs = xs.map enc := by
  obtain ⟨us, h1, rfl, h3⟩ := h
  have : us = xs.map fun x => [enc x] := by
    apply List.ext_getElem?
    intro i
    rw [List.getElem?_map]
    rcases Nat.lt_or_ge i xs.length with hi | hi
    · rw [List.getElem?_eq_getElem hi, List.getElem?_eq_getElem (by omega), Option.map_some, hE.uniq m _ _ (h3 i _ _ (List.getElem?_eq_getElem hi) (List.getElem?_eq_getElem (by omega)))]
    · rw [List.getElem?_eq_none hi, List.getElem?_eq_none (by omega)]; rfl
  rw [this]
  clear this h1 h3
  induction xs with
  | nil => rfl
  | cons x xs ih => simp [ih]
theorem enc_rows {m : Mem} {t : Ty} {enc : t.den → Value} (hE : Enc1 t enc) (xs : List t.den) : RowsC m t xs (xs.map enc) := by
  refine ⟨xs.map fun x => [enc x], by simp, ?_, fun i y u hy hu => ?_⟩
  · induction xs with
    | nil => rfl
    | cons x xs ih => simp [ih]
  · rw [List.getElem?_map, hy] at hu
    cases hu
    exact hE.rc m y

/-- A row of the call's own, its elements written anew. -/
theorem row_put {t : Ty} {enc : t.den → Value} [Inhabited t.den] (hE : Enc1 t enc) {e w : World} {m : Mem} {F : Frag} {b c E : Nat} {cs : Array Value} {xs ys : List t.den} (hs : SH e w m ((b, .cells cs E (0, 0)) :: F)) (hc : xs.length ≤ c) (hz : cs.size = c * t.cells) (hr : RowsC m t xs (cs.toList.take (xs.length * t.cells))) (hl : ys.length = xs.length) :
    Sort.Holds enc w b 0 xs.toArray ∧ b < w.heap.size ∧ ∀ n os, ∃ cs', cs'.size = cs.size ∧ RowsC m t ys (cs'.toList.take (xs.length * t.cells)) ∧ (∀ j, xs.length ≤ j → cs'[j]? = cs[j]?) ∧ SH e (Sort.grow (Sort.putRow enc (Sort.ahead w n) b 0 ys.toArray) os) m ((b, .cells cs' E (0, 0)) :: F) ∧ DK none w (Sort.grow (Sort.putRow enc (Sort.ahead w n) b 0 ys.toArray) os) := by
  have h1 := hE.one
  rw [h1, Nat.mul_one] at hz hr ⊢
  have hb := hs.own (b, .cells cs E (0, 0)) (by simp)
  simp only at hb
  have hbl := (Array.getElem?_eq_some_iff.1 hb).1
  have hv := rows_enc hE hr
  refine ⟨fun j hj => ?_, hbl, fun n os => ?_⟩
  · have hj' : j < xs.length := by simpa using hj
    refine ⟨?_, ?_⟩
    · simp only [World.cell?, hb, Nat.zero_add]
      have h2 := congrArg (fun l => l[j]?) hv
      simp only [List.getElem?_take, hj', if_true, List.getElem?_map, List.getElem?_eq_getElem hj', Option.map_some] at h2
      rw [getElem!_pos _ j hj]
      simpa using h2
    · simp [World.frozen?, hb]
  · obtain ⟨w1, hw1⟩ : ∃ w1, w1 = Sort.putRow enc (Sort.ahead w n) b 0 ys.toArray := ⟨_, rfl⟩
    have hget : ∀ k, w1.heap[k]? = if b = k then (w.heap[k]?).map (Sort.onCells (Sort.putCells enc 0 ys.toArray)) else w.heap[k]? := by
      intro k
      rw [hw1]
      simp only [Sort.putRow, Sort.mapBlock, Sort.ahead, Array.getElem?_modify]
    have hP : Put w w1 b := by
      refine ⟨by rw [hw1]; rfl, by rw [hw1]; rfl, by rw [hw1]; rfl, by rw [hw1]; simp [Sort.putRow, Sort.mapBlock, Sort.ahead], fun k hk => ?_⟩
      rw [hget, if_neg (fun e => hk e.symm)]
    have hb1 : w1.heap[b]? = some (.cells (Sort.putCells enc 0 ys.toArray cs) E (0, 0)) := by
      rw [hget, if_pos rfl, hb]; rfl
    have hs1 := hs.put hP hb1 rfl
    have hBl : Below w1.heap.size w1 (Sort.grow w1 os) := ⟨rfl, rfl, rfl, by simp, fun k hk => Sort.heap_grow_old w1 os hk⟩
    rw [← hw1]
    have hsz : (Sort.putCells enc 0 ys.toArray cs).size = cs.size := by simp [Sort.putCells]
    refine ⟨_, hsz, ?_, fun j hj => ?_, hs1.ext hBl, ?_⟩
    · have : (Sort.putCells enc 0 ys.toArray cs).toList.take xs.length = ys.map enc := by
        apply List.ext_getElem?
        intro j
        rw [List.getElem?_take]
        rcases Nat.lt_or_ge j xs.length with hj | hj
        · have hjc : j < cs.size := by omega
          have hjy : j < ys.length := by omega
          have hyj : ys[j]? = some (ys[j]'hjy) := List.getElem?_eq_getElem hjy
          rw [if_pos hj, List.getElem?_map, hyj, Option.map_some]
          have h9 : (Sort.putCells enc 0 ys.toArray cs)[j]? = some (enc (ys[j]'hjy)) := by
            simp only [Sort.putCells, Array.getElem?_mapIdx, Array.getElem?_eq_getElem hjc, Option.map_some, Nat.zero_le, true_and, Nat.zero_add, Nat.sub_zero, List.size_toArray, hjy, if_true]
            rw [getElem!_pos _ j (by simpa using hjy)]
            simp
          simpa using h9
        · have hj2 : ys.length ≤ j := by omega
          rw [if_neg (by omega), List.getElem?_map, List.getElem?_eq_none hj2]; rfl
      rw [this]
      exact enc_rows hE ys
    · simp only [Sort.putCells, Array.getElem?_mapIdx, Nat.zero_le, true_and, Nat.zero_add, List.size_toArray, show ¬ j < ys.length by omega, if_false]
      cases cs[j]? <;> rfl
    · intro k o hk hcx _
      have hkl := (Array.getElem?_eq_some_iff.1 hk).1
      rw [Sort.heap_grow_old w1 os (by rw [hP.size]; exact hkl), hget]
      split
      · rename_i e'; subst e'; rw [hb] at hk; cases hk; cases hcx
      · exact hk

theorem RepL.osl0 {m : Mem} {h : Value} {vs : List Value} (H : RepL m [h] [.osl 0] vs) : vs = [h] := by
  cases vs with
  | nil => simp [RepL] at H
  | cons v vs => cases vs with
    | nil => simp [RepL, RepA] at H; rw [H.1]
    | cons => simp [RepL] at H
theorem OsRep.one {m : Mem} {ρ : List Value} {o : AO} {φ : List Frag} (H : OsRep m ρ [o] φ) : ∃ h f, ρ = [h] ∧ φ = [f] ∧ ORep m ρ o h f := by
  have h1 := H.nρ
  have h2 := H.nφ
  match ρ, φ, h1, h2 with
  | [h], [f], _, _ => exact ⟨h, f, rfl, rfl, H.at_ 0 o h f rfl rfl rfl⟩

/-- A call that writes a row in place. -/
theorem runs_row {P : Program} {f : FuncId} {t : Ty} {enc : t.den → Value} [Inhabited t.den] (hE : Enc1 t enc) {E : Nat} {xs ys : List t.den} (hl : ys.length = xs.length)
    (hS : ∀ (b cap : Nat) (w : World), Sort.Holds enc w b 0 xs.toArray → b < w.heap.size → xs.length ≤ cap → Calls P f #[.slice (some ⟨b, 0, none⟩) xs.length cap] w fun e w' => e = .returned (.tuple #[]) ∧ ∃ n os, w' = Sort.grow (Sort.putRow enc (Sort.ahead w n) b 0 ys.toArray) os)
    (h0 : ∀ w, Calls P f #[.slice none 0 0] w fun e w' => e = .returned (.tuple #[]) ∧ w' = w) : Runs P f [.osl 0] [.sl E t xs] fun q Hq => q = [] ∧ Hq = [.sl E t ys] := by
  intro e w m ρ φ F vs hv ho hs
  obtain ⟨h, fr, rfl, rfl, ho1⟩ := ho.one
  have := hv.osl0
  subst this
  obtain ⟨q0, ho2 | ho2⟩ := ho1
  · obtain ⟨rfl, rfl, rfl⟩ := ho2
    have : ys = [] := List.eq_nil_of_length_eq_zero hl
    subst this
    refine Calls.mono (h0 w) ?_
    rintro e' w' ⟨rfl, rfl⟩
    exact ⟨_, rfl, ⟨DK.refl, Nat.le_refl _⟩, _, _, m, _, _, ⟨rfl, rfl⟩, Mem.le_refl _, fun i h hi => hi, Nat.le_refl _, ⟨rfl, rfl, fun i o h f hi hh hf => by
      cases i with
      | zero => simp at hi hh hf; subst hi hh hf; exact ⟨by simp, .inl ⟨rfl, rfl, rfl⟩⟩
      | succ i => simp at hi⟩, hs, [], by simp [RepL], rfl⟩
  · obtain ⟨b, c, cs, us, rfl, rfl, q1, q2, q3, q4, q5⟩ := ho2
    have hs' : SH e w m ((b, .cells cs E (0, 0)) :: F) := by simpa using hs
    obtain ⟨g1, g2, g3⟩ := row_put hE hs' q1 q3 (by rw [q5]; exact q4) hl
    refine Calls.mono (hS b c w g1 g2 q1) ?_
    rintro e' w' ⟨rfl, n, os, rfl⟩
    obtain ⟨cs', k1, k2, k3, k4, k5⟩ := g3 n os
    have hsz : w.heap.size ≤ (Sort.grow (Sort.putRow enc (Sort.ahead w n) b 0 ys.toArray) os).heap.size := by simp [Sort.putRow, Sort.mapBlock, Sort.ahead]
    refine ⟨_, rfl, ⟨k5, hsz⟩, _, _, m, [.slice (some ⟨b, 0, none⟩) xs.length c], [[(b, .cells cs' E (0, 0))]], ⟨rfl, rfl⟩, Mem.le_refl _, fun i h hi => hi, Nat.le_refl _, ⟨rfl, rfl, fun i o h f hi hh hf => ?_⟩, by simpa using k4, [], by simp [RepL], rfl⟩
    cases i with
    | zero =>
      simp at hi hh hf; subst hi hh hf
      exact ⟨by omega, .inr ⟨b, c, cs', _, by rw [hl], rfl, by omega, q2, by rw [k1]; exact q3, by rw [← hl] at k2; exact k2, rfl⟩⟩
    | succ i => simp at hi

/-- A call that writes a row in place, and gives its beginning. -/
theorem runs_rowS {P : Program} {f : FuncId} {t : Ty} {enc : t.den → Value} [Inhabited t.den] (hE : Enc1 t enc) {E : Nat} {xs zs rest : List t.den} (hl : (zs ++ rest).length = xs.length)
    (hS : ∀ (b cap : Nat) (w : World), Sort.Holds enc w b 0 xs.toArray → b < w.heap.size → xs.length ≤ cap → Calls P f #[.slice (some ⟨b, 0, none⟩) xs.length cap] w fun e w' => e = .returned (.slice (some ⟨b, 0, none⟩) zs.length cap) ∧ ∃ n os, w' = Sort.grow (Sort.putRow enc (Sort.ahead w n) b 0 (zs ++ rest).toArray) os)
    (h0 : ∀ w, Calls P f #[.slice none 0 0] w fun e w' => e = .returned (.slice none 0 0) ∧ w' = w) : Runs P f [.osl 0] [.sl E t xs] fun q Hq => q = [.osl 1] ∧ Hq = [.dead, .sl E t zs] := by
  intro e w m ρ φ F vs hv ho hs
  obtain ⟨h, fr, rfl, rfl, ho1⟩ := ho.one
  have := hv.osl0
  subst this
  have hpre : ∀ (u v : Value) (i : Nat) (h : Value), [u][i]? = some h → [u, v][i]? = some h := by
    intro u v i h hi
    cases i with
    | zero => exact hi
    | succ i => simp at hi
  obtain ⟨q0, ho2 | ho2⟩ := ho1
  · obtain ⟨rfl, rfl, rfl⟩ := ho2
    have : zs = [] := by
      cases zs with
      | nil => rfl
      | cons => simp at hl
    subst this
    refine Calls.mono (h0 w) ?_
    rintro e' w' ⟨rfl, rfl⟩
    refine ⟨_, rfl, ⟨DK.refl, Nat.le_refl _⟩, [.osl 1], [.dead, .sl E t []], m, [.slice none 0 0, .slice none 0 0], [[], []], ⟨rfl, rfl⟩, Mem.le_refl _, hpre _ _, by simp, ⟨rfl, rfl, fun i o h f hi hh hf => ?_⟩, by simpa using hs, [.slice none 0 0], by simp [RepL, RepA, Value.oneCell'], rfl⟩
    match i with
    | 0 => simp at hi hh hf; subst hi hh hf; rfl
    | 1 => simp at hi hh hf; subst hi hh hf; exact ⟨by simp, .inl ⟨rfl, rfl, rfl⟩⟩
    | i + 2 => simp at hi
  · obtain ⟨b, c, cs, us, rfl, rfl, q1, q2, q3, q4, q5⟩ := ho2
    have hs' : SH e w m ((b, .cells cs E (0, 0)) :: F) := by simpa using hs
    obtain ⟨g1, g2, g3⟩ := row_put hE hs' q1 q3 (by rw [q5]; exact q4) hl
    refine Calls.mono (hS b c w g1 g2 q1) ?_
    rintro e' w' ⟨rfl, n, os, rfl⟩
    obtain ⟨cs', k1, k2, k3, k4, k5⟩ := g3 n os
    have hsz : w.heap.size ≤ (Sort.grow (Sort.putRow enc (Sort.ahead w n) b 0 (zs ++ rest).toArray) os).heap.size := by simp [Sort.putRow, Sort.mapBlock, Sort.ahead]
    have hzl : zs.length ≤ xs.length := by rw [← hl, List.length_append]; omega
    refine ⟨_, rfl, ⟨k5, hsz⟩, [.osl 1], [.dead, .sl E t zs], m, [.slice (some ⟨b, 0, none⟩) xs.length c, .slice (some ⟨b, 0, none⟩) zs.length c], [[], [(b, .cells cs' E (0, 0))]], ⟨rfl, rfl⟩, Mem.le_refl _, hpre _ _, by simp, ⟨rfl, rfl, fun i o h f hi hh hf => ?_⟩, by simpa using k4, [.slice (some ⟨b, 0, none⟩) zs.length c], by simp [RepL, RepA, Value.oneCell'], rfl⟩
    match i with
    | 0 => simp at hi hh hf; subst hi hh hf; rfl
    | 1 =>
      simp at hi hh hf; subst hi hh hf
      refine ⟨by omega, .inr ⟨b, c, cs', _, rfl, rfl, by omega, q2, by rw [k1]; exact q3, ?_, rfl⟩⟩
      have h1 := hE.one
      rw [h1, Nat.mul_one] at k2 ⊢
      have k6 := rows_enc hE k2
      have : cs'.toList.take zs.length = zs.map enc := by
        have := congrArg (fun l => l.take zs.length) k6
        simp only [List.take_take, Nat.min_eq_left hzl, List.map_append] at this
        rw [this, List.take_left' (by simp)]
      rw [this]
      exact enc_rows hE zs
    | i + 2 => simp at hi
end Go.Ab


set_option linter.unusedVariables false
set_option linter.unusedSimpArgs false
namespace Go.Eng
open Go.RowKit Go.Shelf Go.Proofs

/-! regions told where an operation reads a slot that a later one writes -/
section
variable {P : Program} {N : Ev} {Q : Post} {l : Fr} {w : World}
/-- What is listed has what it waits for listed. -/
def ShutX (ops : List Oper) (listed : Array Bool) : Prop := ∀ (i : Nat) (o : Oper), ops[i]? = some o → listed[i]? = some true → ∀ e ∈ o.after, Region.binds .any e = true → listed[e.on]? = some true
/-- Who writes the slot waits for operation i (or is it). -/
def lateB (ops : List Oper) (i t : Nat) : Bool := (ops.zipIdx).all fun (o, k) => o.dst.isNone || (!Nat.beq (dstOf o) t || (Nat.beq k i || o.after.toList.any fun e => Region.binds .any e && Nat.beq e.on i))
def ObsX (P : Program) (N : Ev) (S : World → World → Prop) (ops : List Oper) (Φ : List VP) (Q : Post) (w : World) : List Oper → List VP → List (List Nat) → List Fr → Prop
  | o :: os, φ :: φs, js :: jss, b :: bs => (∀ W, S w W → Gather (depAt ops Φ js) b W fun l => OpG P N S ops o φ Q l W) ∧ ObsX P N S ops Φ Q w os φs jss bs
  | _, _, _, _ => True
theorem ObsX.at {S : World → World → Prop} {ops : List Oper} {Φ : List VP} {os : List Oper} : ∀ {φs : List VP} {jss : List (List Nat)} {bs : List Fr}, ObsX P N S ops Φ Q w os φs jss bs → ∀ {i : Nat} {o : Oper} {φ : VP} {js : List Nat} {b : Fr}, os[i]? = some o → φs[i]? = some φ → jss[i]? = some js → bs[i]? = some b →
    ∀ W, S w W → Gather (depAt ops Φ js) b W fun l => OpG P N S ops o φ Q l W := by
  induction os with
  | nil => intro φs jss bs _ i o φ js b h; simp at h
  | cons o' os ih =>
    intro φs jss bs h i o φ js b h1 h2 h3 h4
    cases φs with
    | nil => simp at h2
    | cons φ' φs =>
      cases jss with
      | nil => simp at h3
      | cons js' jss =>
        cases bs with
        | nil => simp at h4
        | cons b' bs =>
        cases i with
        | zero => simp at h1 h2 h3 h4; subst h1 h2 h3 h4; exact h.1
        | succ i => simp at h1 h2 h3 h4; exact ih h.2 h1 h2 h3 h4
theorem ObsX.drawn {S : World → World → Prop} (hS : SR S) {ops : List Oper} {Φ : List VP} {k : Nat} {os : List Oper} : ∀ {φs : List VP} {jss : List (List Nat)} {bs : List Fr}, ObsX P N S ops Φ Q w os φs jss bs → ObsX P N S ops Φ Q { w with drawn := k } os φs jss bs := by
  induction os with
  | nil => intro φs jss bs _; trivial
  | cons o os ih =>
    intro φs jss bs h
    cases φs with
    | nil => trivial
    | cons φ φs =>
      cases jss with
      | nil => trivial
      | cons js jss =>
        cases bs with
        | nil => trivial
        | cons b bs => exact ⟨fun W hW => h.1 W (hS.drawn _ _ _ hW), ih h.2⟩
structure MidX (N : Ev) (S : World → World → Prop) (ops : List Oper) (Φ : List VP) (lb lx : Fr) (w : World) (listed : Array Bool) (a : Act) (W : World) : Prop where
  below : S w W
  base : Holds N lb a
  late : ∀ t v, lx.look t = some v → (∀ (k : Nat) (o : Oper), ops[k]? = some o → o.dst = some t → listed[k]? ≠ some true) → a.tmps[t]? = some v
  good : Good N a W
  done : ∀ (i : Nat) (o : Oper) (φ : VP), ops[i]? = some o → Φ[i]? = some φ → listed[i]? = some true → toldA o φ a W
  shut : ShutX ops listed

end
end Go.Eng
namespace Go
section
variable {P : Program} {b : Frame} {a : Act} {k : List Item} {cs : List Frame} {w : World} {Q : Exit → Act → World → Prop} {F : Fence} {n : Nat}
end
end Go
namespace Go.Ab
open Go.RowKit Go.Shelf Go.Proofs Go.Eng
end Go.Ab
namespace Go.Ab
open Go.RowKit Go.Shelf Go.Proofs Go.Eng
section
variable {P : Program} {N : Ev} {X : Cx} {Q : APost} {st : AS}
/-- A nil slice in a variable that the call will own. -/
theorem wk_ownC {i o : Nat} {T : TypeId} {cs : List AV} (E : TypeId) (ty : Ty) (hH : st.H.get i = .var T cs) (hi : Nat.blt i st.n = true) (ho : cs[o]? = some .nils) : Wk X st ⟨st.l, (i, .var T (cs.set o (.osl st.n))) :: (st.n, .sl E ty []) :: st.H, st.n + 1⟩ := by
  intro fr w m ρ φ hc
  have hin : i < st.n := by simpa using hi
  have h3 := hc.newObj (d := 0) (av := .any) (v := undef) (h := .slice none 0 0) (o := .sl E ty []) (f := []) (Mem.le_refl _) (by simpa using hc.sh) ⟨by simp, .inl ⟨rfl, rfl, rfl⟩⟩ (by simp only [RepA])
  refine ⟨m, _, _, h3.mle, h3.pre, h3.nρ, h3.nφ, ?_, ?_, h3.sh⟩
  · intro q a hq
    obtain ⟨v, g1, g2⟩ := hc.slots q a hq
    exact ⟨v, g1, RepA.mono (Mem.le_refl _) pre_app a g2⟩
  · intro j hd f hj hf
    rw [AH.get_cons]
    split
    · rename_i e
      subst e
      have h4 := h3.objs i hd f hj hf
      have h5 : (AS.new st 0 .any (.sl E ty [])).H.get i = .var T cs := by
        show AH.get ((st.n, _) :: st.H) i = _
        rw [AH.get_cons, if_neg (by omega)]; exact hH
      rw [h5] at h4
      obtain ⟨b, us, g1, g2, g3, g4⟩ := h4
      refine ⟨b, us, g1, g2, ?_, g4⟩
      obtain ⟨u, hu, hr⟩ := g3.get ho
      simp only [RepA] at hr
      subst hr
      have h6 := g3.set (i := o) (a := .osl st.n) (v := .slice none 0 0) (by simp only [RepA]; exact ⟨by rw [← hc.nρ]; simp, rfl⟩)
      have h7 : us.set o (.slice none 0 0) = us := by
        apply List.ext_getElem?
        intro q
        rw [List.getElem?_set]
        split
        · rename_i e; subst e; rw [hu]; simp [(List.getElem?_eq_some_iff.1 hu).1]
        · rfl
      rw [h7] at h6
      exact h6
    · exact h3.objs j hd f hj hf
end
end Go.Ab


set_option linter.unusedVariables false
set_option linter.unusedSimpArgs false
namespace Go.Ab
open Go.RowKit Go.Shelf Go.Proofs Go.Eng

/-! own slices in an own slice -/
/-- An element of a row is written. -/
theorem slrep_set {m : Mem} {ρ : List Value} {E b n' c' z o n : Nat} {t : Ty} {xs : List t.den} {e e' : t.den} {ds : List AV} {v : Value} {f : Frag} (H : SlRep m E t xs (.slice (some ⟨b, 0, none⟩) n' c') f) (he : xs[z]? = some e) (h5 : RepL m ρ ds v.cells.toList) (hn : ds.length = n) (hle : o + n ≤ t.cells) (hno : t.fit e' = true) (hcs : over (expl t e) o ds = expl t e') :
    ∃ cs, f = [(b, .cells cs E (0, 0))] ∧ z * t.cells + o + v.cells.size ≤ cs.size ∧ SlRep m E t (xs.set z e') (.slice (some ⟨b, 0, none⟩) n' c') [(b, .cells (splice cs (z * t.cells + o) v.cells.toList) E (0, 0))] := by
  obtain ⟨h0, ⟨_, h8, _⟩ | ⟨b', c, cs, vs, h8, rfl, h9, h10, h11, h12, h13⟩⟩ := H
  · cases h8
  cases h8
  have hvl : v.cells.size = n := by rw [← hn]; simpa using h5.len
  have hzl := (List.getElem?_eq_some_iff.1 he).1
  have hbd : z * t.cells + t.cells ≤ c' * t.cells := by
    have := Nat.mul_le_mul_right t.cells (show z + 1 ≤ c' by omega)
    rw [Nat.add_mul] at this; omega
  have hbd2 : z * t.cells + t.cells ≤ xs.length * t.cells := by
    have := Nat.mul_le_mul_right t.cells (show z + 1 ≤ xs.length by omega)
    rw [Nat.add_mul] at this; omega
  have hvl' : v.cells.toList.length = n := by simpa using hvl
  refine ⟨cs, rfl, by rw [hvl, h11]; omega, ?_⟩
  have hrc := h12.len
  obtain ⟨us, g1, rfl, g3⟩ := h12
  have hall : ∀ u ∈ us, u.length = t.cells := by
    intro u hu
    obtain ⟨i, hi, rfl⟩ := List.getElem_of_mem hu
    exact RC.len (g3 i (xs[i]'(by omega)) _ (List.getElem?_eq_getElem (by omega)) (List.getElem?_eq_getElem hi))
  obtain ⟨u, hu⟩ : ∃ u, us[z]? = some u := ⟨_, List.getElem?_eq_getElem (by omega)⟩
  have hue := g3 z e u he hu
  have hnew : RC m t e' (over u o v.cells.toList) := by
    refine rc_of_expl (ρ := ρ) hno ?_
    rw [← hcs]
    exact (rc_expl hue).over h5
  refine ⟨by simpa using h0, .inr ⟨b, c', _, _, by simp, rfl, by simpa using h9, h10, ?_, ⟨us.set z (over u o v.cells.toList), by simpa using g1, rfl, ?_⟩, ?_⟩⟩
  · rw [splice_size]; exact h11
  · intro j q r hq hr
    by_cases hj : z = j
    · subst hj
      rw [List.getElem?_set_self (by omega)] at hq hr
      cases hq; cases hr; exact hnew
    · rw [List.getElem?_set_ne hj] at hq hr
      exact g3 j q r hq hr
  · rw [splice_over, over_at hall hu (by omega), ← h13]
    simp only [List.length_set]
    apply List.ext_getElem?
    intro j
    have hcl : cs.toList.length = c' * t.cells := by simpa using h11
    rw [List.getElem?_take, over_get _ _ _ _ (by omega), over_get _ _ _ _ (by rw [List.length_take]; omega), List.getElem?_take]
    by_cases h1 : z * t.cells + o ≤ j ∧ j < z * t.cells + o + v.cells.toList.length
    · rw [if_pos h1, if_pos h1, if_pos (by omega)]
    · rw [if_neg h1, if_neg h1]
theorem slrep_elem {m : Mem} {w : World} {E b n' c' z : Nat} {t : Ty} {xs : List t.den} {e : t.den} {f : Frag} (H : SlRep m E t xs (.slice (some ⟨b, 0, none⟩) n' c') f) (hw : ∀ p ∈ f, w.heap[p.1]? = some p.2) (he : xs[z]? = some e) : ∃ us, RC m t e us ∧ Cells w b (z * t.cells) us := by
  obtain ⟨_, ⟨_, h2, _⟩ | ⟨b', c1, cs, vs, h2, rfl, h3, h4, h5, h6, h7⟩⟩ := H
  · cases h2
  · cases h2
    obtain ⟨u, h8, h9⟩ := h6.at he
    refine ⟨u, h8, fun j v hj => cell_blk (hw (b, _) (List.mem_singleton.2 rfl)) ?_⟩
    have := h9 j v hj
    rw [← h7, List.getElem?_take] at this
    split at this
    · simpa using this
    · cases this
/-- A row is changed. -/
theorem RowsO.set {m : Mem} {T : TypeId} {t : Ty} {y : List t.den} {r : Value} {g : Frag} : ∀ {x : List (List t.den)} {rs : List Value} {fs : List Frag} {k : Nat}, RowsO m T t x rs fs → SlRep m T t y r g → RowsO m T t (x.set k y) (rs.set k r) (fs.set k g) := by
  intro x
  induction x with
  | nil => intro rs fs k h _; cases rs with
    | nil => cases fs with
      | nil => trivial
      | cons => exact h.elim
    | cons => exact h.elim
  | cons z x ih => intro rs fs k h hy; cases rs with
    | nil => exact h.elim
    | cons r' rs => cases fs with
      | nil => exact h.elim
      | cons f fs => cases k with
        | zero => exact ⟨hy, h.2⟩
        | succ k => exact ⟨h.1, ih h.2 hy⟩

section
variable {P : Program} {N : Ev} {X : Cx} {Q : APost} {st : AS}
variable {d : Nat} {T U T' : TypeId} {pos : String} {aft : Array Edge} {g : Option (Nat × Bool)} {x y : Operand} {k ky : IntKind} {a b : Int}

/-- What is known of an own slice of own slices. -/
theorem slo_obj {fr : Fr} {w : World} {m : Mem} {ρ : List Value} {φ : List Frag} (hc : Conc X st fr w m ρ φ) {i : Nat} {h : Value} {rs : List Value} {E E' : TypeId} {t : Ty} {xs : List (List t.den)} (hi : ρ[i]? = some (.tuple (h :: rs).toArray)) (hH : st.H.get i = .slo E E' t xs) :
    ∃ fs b c cs, h = .slice (some ⟨b, 0, none⟩) xs.length c ∧ φ[i]? = some ((b, .cells cs E (0, 0)) :: fs.flatten) ∧ xs.length ≤ cap47 ∧ xs.length ≤ c ∧ c ≤ maxLen ∧ cs.size = c ∧ cs.toList.take xs.length = rs ∧ RowsO m E' t xs rs fs ∧ w.heap[b]? = some (.cells cs E (0, 0)) ∧ ∀ p ∈ fs.flatten, w.heap[p.1]? = some p.2 := by
  obtain ⟨f, hf, ho, hw⟩ := hc.obj hi
  rw [hH] at ho
  obtain ⟨rs', fs, f0, b, c, cs, h1, rfl, rfl, h4, h5, h6, h7, h8, h9⟩ := ho
  simp only [Value.tuple.injEq, List.toArray_inj, List.cons.injEq] at h1
  obtain ⟨rfl, rfl⟩ := h1
  refine ⟨fs, b, c, cs, rfl, hf, h4, h5, h6, h7, h8, h9, hw (b, _) (by simp), fun p hp => hw p (by simp only [List.cons_append, List.nil_append, List.mem_cons]; exact .inr hp)⟩

theorem av_ia_sog {i : Nat} {t : Ty} {xs : List (List t.den)} {E E0 E' : Nat} {e : List t.den} (hU : Und P T (.slice E)) (hS : Sz P E 1) (hx : aev st.l x = some (.sog i)) (hy : aev st.l y = some (.int k a)) (hH : st.H.get i = .slo E0 E' t xs) (he : ix xs a = some e) (hN : Nat.blt d N.n = true := by rfl) : AOpV P N X ⟨some d, .indexAddr T x y, U, pos, aft, g⟩ (.epg i a.toNat) st :=
  av_of rfl fun Q fr w m ρ φ hc => by
    obtain ⟨g1, g2, g3⟩ := ix_some he
    obtain ⟨p, h1, h2⟩ := hc.ev hx
    simp only [RepA] at h2
    obtain ⟨rs, h3, _⟩ := h2
    obtain ⟨fs, b', c', cs, rfl, _⟩ := slo_obj hc h3 hH
    refine ⟨_, ?_, fun K hk => op_indexAddr (b := b') (o := 0) (j := a.toNat) h1 (hc.int hy) hU hS rfl (by omega) (by omega) hN hk⟩
    simp only [RepA]
    exact ⟨b', _, c', rs, h3, by simp⟩
theorem slrep_one {m : Mem} {E : Nat} {t : Ty} {y : List t.den} {v : Value} {f : Frag} (h : SlRep m E t y v f) : v.oneCell' = true := by
  obtain ⟨_, ⟨_, rfl, _⟩ | ⟨b, c, cs, vs, rfl, _⟩⟩ := h <;> rfl
theorem av_load_epg {i z : Nat} {t : Ty} {xs : List (List t.den)} {E E' : Nat} {e : List t.den} (hT : TyS P T false 1) (hx : aev st.l x = some (.epg i z)) (hH : st.H.get i = .slo E E' t xs) (he : xs[z]? = some e) (hN : Nat.blt d N.n = true := by rfl) : AOpV P N X ⟨some d, .load T x, U, pos, aft, g⟩ (.row i z) st :=
  av_of rfl fun Q fr w m ρ φ hc => by
    obtain ⟨p, h1, h2⟩ := hc.ev hx
    simp only [RepA] at h2
    obtain ⟨b, n, c, rs, h3, rfl⟩ := h2
    obtain ⟨fs, b', c', cs, hh, _, _, _, _, h7, h8, h9, h10, _⟩ := slo_obj hc h3 hH
    cases hh
    obtain ⟨r, f, g1, g2, g3⟩ := h9.at.2.2 z e he
    refine ⟨r, ?_, fun K hk => op_load1 h1 hT.1 (cell_blk h10 ?_) hN hk⟩
    · simp only [RepA]; exact ⟨_, rs, h3, g1, slrep_one g3⟩
    · rw [← h8, List.getElem?_take] at g1
      split at g1
      · simpa using g1
      · cases g1
theorem av_ia_row {i z : Nat} {t : Ty} {xs : List (List t.den)} {E E0 E' : Nat} {e : List t.den} {v : t.den} (hU : Und P T (.slice E)) (hS : Sz P E t.cells) (hx : aev st.l x = some (.row i z)) (hy : aev st.l y = some (.int k a)) (hH : st.H.get i = .slo E0 E' t xs) (hz : xs[z]? = some e) (he : ix e a = some v) (hN : Nat.blt d N.n = true := by rfl) : AOpV P N X ⟨some d, .indexAddr T x y, U, pos, aft, g⟩ (.epr i z t.cells a.toNat 0) st :=
  av_of rfl fun Q fr w m ρ φ hc => by
    obtain ⟨g1, g2, g3⟩ := ix_some he
    obtain ⟨p, h1, h2⟩ := hc.ev hx
    simp only [RepA] at h2
    obtain ⟨hd, rs, h3, h4, _⟩ := h2
    obtain ⟨fs, b', c', cs, rfl, _, _, _, _, h7, h8, h9, h10, _⟩ := slo_obj hc h3 hH
    obtain ⟨r, f, k1, k2, k3⟩ := h9.at.2.2 z e hz
    rw [k1] at h4
    cases h4
    obtain ⟨_, ⟨rfl, _⟩ | ⟨b2, c2, cs2, vs2, rfl, _⟩⟩ := k3
    · simp at g2
    · refine ⟨_, ?_, fun K hk => op_indexAddr (b := b2) (o := 0) (j := a.toNat) h1 (hc.int hy) hU hS rfl (by omega) (by omega) hN hk⟩
      simp only [RepA]
      exact ⟨_, rs, b2, _, c2, h3, k1, by simp⟩
theorem av_len_row {i z : Nat} {t : Ty} {xs : List (List t.den)} {e : List t.den} {e0 E E' : Nat} {ts : Array TypeId} {cl : Array Operand} (hc : cl = #[x]) (ht : ts = #[T]) (hU : Und P T (.slice e0)) (hx : aev st.l x = some (.row i z)) (hH : st.H.get i = .slo E E' t xs) (hz : xs[z]? = some e) (hN : Nat.blt d N.n = true := by rfl) :
    AOpV P N X ⟨some d, .call ⟨.builtin .len, cl, ts⟩, U, pos, aft, g⟩ (.int .i64 (e.length : Int)) st :=
  av_of rfl fun Q fr w m ρ φ hcc => by
    obtain ⟨v, h1, h2⟩ := hcc.ev hx
    simp only [RepA] at h2
    obtain ⟨hd, rs, h3, h4, _⟩ := h2
    obtain ⟨fs, b', c', cs, rfl, _, _, _, _, h7, h8, h9, h10, _⟩ := slo_obj hcc h3 hH
    obtain ⟨r, f, k1, k2, k3⟩ := h9.at.2.2 z e hz
    rw [k1] at h4
    cases h4
    obtain ⟨_, ⟨rfl, rfl, _⟩ | ⟨b, c, cs, vs, rfl, _⟩⟩ := k3
    · exact ⟨_, rep_int, fun K hk => op_len_slice hc ht hU h1 hN hk⟩
    · exact ⟨_, rep_int, fun K hk => op_len_slice hc ht hU h1 hN hk⟩
theorem av_load_epr {i z q o sz : Nat} {t : Ty} {xs : List (List t.den)} {E E' : Nat} {e : List t.den} {u : t.den} {v : AV} {r : List AV} (hT : TyS P T false 1) (hx : aev st.l x = some (.epr i z sz q o)) (hH : st.H.get i = .slo E E' t xs) (hsz : sz = t.cells) (hz : xs[z]? = some e) (he : e[q]? = some u) (hd : (expl t u).drop o = v :: r) (hN : Nat.blt d N.n = true := by rfl) : AOpV P N X ⟨some d, .load T x, U, pos, aft, g⟩ v st :=
  av_of rfl fun Q fr w m ρ φ hc => by
    subst hsz
    obtain ⟨p, h1, h2⟩ := hc.ev hx
    simp only [RepA] at h2
    obtain ⟨hd', rs, b, n, c, h3, h4, rfl⟩ := h2
    obtain ⟨fs, b', c', cs, rfl, _, _, _, _, h7, h8, h9, h10, h11⟩ := slo_obj hc h3 hH
    obtain ⟨r', f, k1, k2, k3⟩ := h9.at.2.2 z e hz
    rw [k1] at h4
    cases h4
    obtain ⟨us, h12, h13⟩ := slrep_elem k3 (fun p hp => h11 p (List.mem_flatten.2 ⟨f, List.mem_of_getElem? k2, hp⟩)) he
    have h5 := (rc_expl (ρ := ρ) h12).drop o
    rw [hd] at h5
    obtain ⟨u', us', h6, h7', _⟩ := h5.one1
    refine ⟨u', h7', fun K hk => op_load1 h1 hT.1 (h13 o u' ?_) hN hk⟩
    have : (us.drop o)[0]? = some u' := by rw [h6]; rfl
    rw [List.getElem?_drop] at this
    simpa using this

theorem set_self {α : Type} {l : List α} {k : Nat} {x : α} (h : l[k]? = some x) : l.set k x = l := by
  apply List.ext_getElem?
  intro q
  rw [List.getElem?_set]
  split
  · rename_i e; subst e; rw [h]; simp [(List.getElem?_eq_some_iff.1 h).1]
  · rfl
/-- An element of a row is written. -/
theorem aop_store_epr {i z q o sz n : Nat} {E E' : TypeId} {t : Ty} {xs : List (List t.den)} {e : List t.den} {u u' : t.den} {ds : List AV} {av : AV} {K : AS → Prop} (hT : Sz P T n) (hx : aev st.l x = some (.epr i z sz q o)) (hy : aev st.l y = some av) (hH : st.H.get i = .slo E E' t xs) (hsz : sz = t.cells) (hz : xs[z]? = some e) (he : e[q]? = some u) (hd : cellsA av = some ds) (hn : Nat.beq ds.length n = true)
    (hle : Nat.ble (o + n) t.cells = true) (hno : t.fit u' = true) (hcs : over (expl t u) o ds = expl t u') (k : K (st.upd i (.slo E E' t (xs.set z (e.set q u'))))) :
    AOp P N X ⟨none, .store T x y, U, pos, aft, g⟩ K st :=
  aop_of fun Q fr w m ρ φ hc K' hK => by
    subst hsz
    obtain ⟨p, h1, h2⟩ := hc.ev hx
    obtain ⟨v, h3, h4⟩ := hc.ev hy
    obtain ⟨h5, h6⟩ := rep_cells hd h4
    simp only [RepA] at h2
    obtain ⟨hd', rs, b2, n2, c2, h7, h8, rfl⟩ := h2
    obtain ⟨fs, b, c, cs, rfl, hf, g1, g2, g3, g4, g5, g6, g7, g8⟩ := slo_obj hc h7 hH
    obtain ⟨r, f, k1, k2, k3⟩ := g6.at.2.2 z e hz
    rw [k1] at h8
    cases h8
    have hn' := Nat.eq_of_beq_eq_true hn
    have hvl : v.cells.size = n := by rw [← hn']; simpa using h5.len
    obtain ⟨cs2, rfl, q1, q2⟩ := slrep_set (e' := u') k3 he h5 hn' (Nat.le_of_ble_eq_true hle) hno hcs
    have hb := g8 (b2, .cells cs2 E' (0, 0)) (List.mem_flatten.2 ⟨_, List.mem_of_getElem? k2, List.mem_singleton.2 rfl⟩)
    refine op_store h1 h3 (by rw [hvl]; exact hT) hb (by simpa only [List.all_eq_true] using h6) (by rw [Nat.ble_eq]; exact q1) fun w' hP hb' => ?_
    obtain ⟨p1, p2⟩ := frag_split k2 [(b2, .cells (splice cs2 (q * t.cells + o) v.cells.toList) E' (0, 0))]
    have hfr := hc.front hf
    have e1 : (((b, .cells cs E (0, 0)) :: fs.flatten) ++ ((φ.eraseIdx i).flatten ++ X.F)).Perm ((b2, .cells cs2 E' (0, 0)) :: ((b, .cells cs E (0, 0)) :: (fs.eraseIdx z).flatten ++ ((φ.eraseIdx i).flatten ++ X.F))) := by
      refine (List.Perm.append_right _ (List.Perm.cons _ p1)).trans ?_
      exact List.Perm.append_right _ (List.Perm.swap _ _ _)
    have e2 : (((b, .cells cs E (0, 0)) :: (fs.set z [(b2, .cells (splice cs2 (q * t.cells + o) v.cells.toList) E' (0, 0))]).flatten) ++ ((φ.eraseIdx i).flatten ++ X.F)).Perm ((b2, .cells (splice cs2 (q * t.cells + o) v.cells.toList) E' (0, 0)) :: ((b, .cells cs E (0, 0)) :: (fs.eraseIdx z).flatten ++ ((φ.eraseIdx i).flatten ++ X.F))) := by
      refine (List.Perm.append_right _ (List.Perm.cons _ p2)).trans ?_
      exact List.Perm.append_right _ (List.Perm.swap _ _ _)
    have hs' := ((hfr.perm e1).put hP hb' rfl).perm e2.symm
    refine hK _ _ _ _ _ _ (hc.turn h7 hf (f' := (b, .cells cs E (0, 0)) :: (fs.set z [(b2, .cells (splice cs2 (q * t.cells + o) v.cells.toList) E' (0, 0))]).flatten) hs' ?_) k
    refine ⟨rs, fs.set z _, [(b, .cells cs E (0, 0))], b, c, cs, by simp, rfl, rfl, by simpa using g1, by simpa using g2, g3, g4, by simpa using g5, ?_⟩
    have := g6.set (k := z) q2
    rwa [set_self k1] at this

/-- No row, no other name of object i. -/
def noRow (i : Nat) : AV → Bool
  | .rp cs => noRowL i cs
  | .agg cs => noRowL i cs
  | .tup cs => noRowL i cs
  | .fn _ a b => noRowL i a && noRowL i b
  | .ptr j _ => !Nat.beq j i
  | .osl j => !Nat.beq j i
  | .ep j _ _ _ => !Nat.beq j i
  | .map j => !Nat.beq j i
  | .row j _ => !Nat.beq j i
  | .epr j _ _ _ _ => !Nat.beq j i
  | _ => true
where noRowL (i : Nat) : List AV → Bool
  | [] => true
  | a :: r => noRow i a && noRowL i r

section
variable {m : Mem} {ρ ρ' : List Value} {i : Nat} {h : Value} {rs rs' : List Value}
theorem ne_of_beq {j i : Nat} (h : (!Nat.beq j i) = true) : j ≠ i := by rintro rfl; simp at h
mutual
theorem nr_rep (hi : ρ[i]? = some (.tuple (h :: rs).toArray)) (hi' : ρ'[i]? = some (.tuple (h :: rs').toArray)) (ho : ∀ j, j ≠ i → ρ'[j]? = ρ[j]?) : ∀ (a : AV) {v : Value}, noRow i a = true → RepA m ρ a v → RepA m ρ' a v
  | .rp cs, v, hn, H => by simp only [noRow] at hn; simp only [RepA] at H ⊢; obtain ⟨b, o, us, h1, h2, h3⟩ := H; exact ⟨b, o, us, h1, nr_repL hi hi' ho cs hn h2, h3⟩
  | .agg cs, v, hn, H => by simp only [noRow] at hn; simp only [RepA] at H ⊢; obtain ⟨us, h1, h2, h3⟩ := H; exact ⟨us, h1, nr_repL hi hi' ho cs hn h2, h3⟩
  | .tup cs, v, hn, H => by simp only [noRow] at hn; simp only [RepA] at H ⊢; obtain ⟨us, h1, h2⟩ := H; exact ⟨us, h1, nr_repL hi hi' ho cs hn h2⟩
  | .fn f a b, v, hn, H => by
    simp only [noRow, Bool.and_eq_true] at hn; simp only [RepA] at H ⊢
    obtain ⟨us, ws, h1, h2, h3⟩ := H; exact ⟨us, ws, h1, nr_repL hi hi' ho a hn.1 h2, nr_repL hi hi' ho b hn.2 h3⟩
  | .ptr j o, v, hn, H => by simp only [noRow] at hn; simp only [RepA] at H ⊢; rw [ho j (ne_of_beq hn)]; exact H
  | .osl j, v, hn, H => by simp only [noRow] at hn; simp only [RepA] at H ⊢; rw [ho j (ne_of_beq hn)]; exact H
  | .ep j sz z o, v, hn, H => by simp only [noRow] at hn; simp only [RepA] at H ⊢; rw [ho j (ne_of_beq hn)]; exact H
  | .map j, v, hn, H => by simp only [noRow] at hn; simp only [RepA] at H ⊢; rw [ho j (ne_of_beq hn)]; exact H
  | .dm tk tv x, v, hn, H => by simpa only [RepA] using H
  | .row j k, v, hn, H => by simp only [noRow] at hn; simp only [RepA] at H ⊢; rw [ho j (ne_of_beq hn)]; exact H
  | .epr j k sz z o, v, hn, H => by simp only [noRow] at hn; simp only [RepA] at H ⊢; rw [ho j (ne_of_beq hn)]; exact H
  | .sog j, v, hn, H => by
    simp only [RepA] at H ⊢
    by_cases e : j = i
    · subst e
      obtain ⟨q, h1, h2⟩ := H
      rw [hi] at h1
      simp only [Option.some.injEq, Value.tuple.injEq, List.toArray_inj, List.cons.injEq] at h1
      obtain ⟨rfl, _⟩ := h1
      exact ⟨rs', hi', h2⟩
    · rw [ho j e]; exact H
  | .epg j k, v, hn, H => by
    simp only [RepA] at H ⊢
    by_cases e : j = i
    · subst e
      obtain ⟨b, n, c, q, h1, h2⟩ := H
      rw [hi] at h1
      simp only [Option.some.injEq, Value.tuple.injEq, List.toArray_inj, List.cons.injEq] at h1
      obtain ⟨rfl, _⟩ := h1
      exact ⟨b, n, c, rs', hi', h2⟩
    · rw [ho j e]; exact H
  | .int .., v, _, H => by simpa only [RepA] using H
  | .bool .., v, _, H => by simpa only [RepA] using H
  | .str .., v, _, H => by simpa only [RepA] using H
  | .sl .., v, _, H => by simpa only [RepA] using H
  | .nils, v, _, H => by simpa only [RepA] using H
  | .nilp, v, _, H => by simpa only [RepA] using H
  | .nilf, v, _, H => by simpa only [RepA] using H
  | .nili, v, _, H => by simpa only [RepA] using H
  | .nilm, v, _, H => by simpa only [RepA] using H
  | .yld _, v, _, H => by simpa only [RepA] using H
  | .val _, v, _, H => by simpa only [RepA] using H
  | .clo _, v, _, H => by simpa only [RepA] using H
  | .any, v, _, H => by simp only [RepA]
  | .bad, v, _, H => by simp only [RepA] at H
theorem nr_repL (hi : ρ[i]? = some (.tuple (h :: rs).toArray)) (hi' : ρ'[i]? = some (.tuple (h :: rs').toArray)) (ho : ∀ j, j ≠ i → ρ'[j]? = ρ[j]?) : ∀ (as' : List AV) {vs : List Value}, noRow.noRowL i as' = true → RepL m ρ as' vs → RepL m ρ' as' vs
  | [], [], _, H => by simp only [RepL]
  | [], _ :: _, _, H => by simp only [RepL] at H
  | _ :: _, [], _, H => by simp only [RepL] at H
  | a :: r, v :: vs, hn, H => by
    simp only [noRow.noRowL, Bool.and_eq_true] at hn
    simp only [RepL] at H ⊢; exact ⟨nr_rep hi hi' ho a hn.1 H.1, nr_repL hi hi' ho r hn.2 H.2⟩
end
end

/-- A frame that names no row of object i. -/
def subR (i : Nat) (l : AFr) : AFr → Prop
  | [] => True
  | (t, a) :: r => (l.look t = some a ∧ noRow i a = true) ∧ subR i l r
theorem subR_get {i : Nat} {l : AFr} : ∀ {l' : AFr}, subR i l l' → ∀ t a, l'.look t = some a → l.look t = some a ∧ noRow i a = true := by
  intro l'
  induction l' with
  | nil => intro _ t a h; simp [AFr.look] at h
  | cons p r ih =>
    intro h t a ht
    obtain ⟨q, b⟩ := p
    rw [AFr.look_cons] at ht
    split at ht
    · rename_i e; subst e; cases ht; exact h.1
    · exact ih h.2 t a ht
def noRowO (i : Nat) : AO → Bool
  | .var _ cs => noRow.noRowL i cs
  | .mpt _ _ _ hs => hs.all fun q => !Nat.beq q.2 i
  | .mapr _ _ _ _ _ j => !Nat.beq j i
  | .sloh _ _ _ _ _ j => !Nat.beq j i
  | _ => true

/-- A row is put in. -/
theorem aop_store_epg {i z j : Nat} {E E' : TypeId} {t : Ty} {xs : List (List t.den)} {e ys : List t.den} {l' : AFr} {K : AS → Prop} (hT : Sz P T 1) (hx : aev st.l x = some (.epg i z)) (hy : aev st.l y = some (.osl j)) (hH : st.H.get i = .slo E E' t xs) (hJ : st.H.get j = .sl E' t ys) (hz : xs[z]? = some e) (hX : Nat.ble X.ρ.length i = true) (hij : Nat.beq i j = false) (hl : subR i st.l l') (ho : ((List.range st.n).all fun k => noRowO i (st.H.get k)) = true)
    (k : K ⟨l', (i, .slo E E' t (xs.set z ys)) :: (j, .dead) :: st.H, st.n⟩) : AOp P N X ⟨none, .store T x y, U, pos, aft, g⟩ K st :=
  aop_of fun Q fr w m ρ φ hc K' hK => by
    have hne : i ≠ j := by rintro rfl; simp at hij
    have hX' := Nat.le_of_ble_eq_true hX
    obtain ⟨p, h1, h2⟩ := hc.ev hx
    obtain ⟨v, h3, h4⟩ := hc.ev hy
    simp only [RepA] at h2 h4
    obtain ⟨b, n0, c0, rs, h7, rfl⟩ := h2
    obtain ⟨h4, h5⟩ := h4
    obtain ⟨fs, b', c, cs, hh, hf, g1, g2, g3, g4, g5, g6, g7, g8⟩ := slo_obj hc h7 hH
    cases hh
    obtain ⟨fj, hfj, hoj, hwj⟩ := hc.obj h4
    rw [hJ] at hoj
    have hrow : SlRep m E' t ys v fj := hoj
    obtain ⟨r, fz, k1, k2, k3⟩ := g6.at.2.2 z e hz
    have hzl := (List.getElem?_eq_some_iff.1 hz).1
    have hvc : v.cells = #[v] := by cases v <;> simp [Value.oneCell'] at h5 <;> rfl
    refine op_store h1 h3 (by rw [hvc]; exact hT) g7 (by rw [hvc]; simpa using h5) (by rw [Nat.ble_eq, hvc]; simp; omega) fun w' hP hb' => ?_
    rw [hvc] at hb'
    -- what lies where
    have hjl : j < ρ.length := (List.getElem?_eq_some_iff.1 h4).1
    have hil : i < ρ.length := (List.getElem?_eq_some_iff.1 h7).1
    obtain ⟨cs', hcs'⟩ : ∃ cs', cs' = splice cs z [v] := ⟨_, rfl⟩
    have hb'' : w'.heap[b]? = some (.cells cs' E (0, 0)) := by rw [hcs']; exact hb'
    obtain ⟨rs', hrs'⟩ : ∃ rs', rs' = rs.set z v := ⟨_, rfl⟩
    obtain ⟨ρ', hρ'⟩ : ∃ ρ' : List Value, ρ' = ρ.set i (.tuple (.slice (some ⟨b, 0, none⟩) xs.length c0 :: rs').toArray) := ⟨_, rfl⟩
    have hρi : ρ'[i]? = some (.tuple (.slice (some ⟨b, 0, none⟩) xs.length c0 :: rs').toArray) := by rw [hρ', List.getElem?_set_self hil]
    have hρo : ∀ q, q ≠ i → ρ'[q]? = ρ[q]? := fun q hq => by rw [hρ', List.getElem?_set_ne (fun e => hq e.symm)]
    obtain ⟨F1, hF1⟩ : ∃ F1 : Frag, F1 = (b, .cells cs' E (0, 0)) :: (fs.set z fj).flatten := ⟨_, rfl⟩
    have hφ' : ((φ.set i F1).set j []).length = st.n := by simp [hc.nφ]
    have hfz := frag_split k2 fj
    -- the fragments
    have hi2 : (φ.set j [])[i]? = some ((b, .cells cs E (0, 0)) :: fs.flatten) := by rw [List.getElem?_set_ne (fun e => hne e.symm)]; exact hf
    have s1 := (frag_split hfj ([] : Frag))
    have s2 := (frag_split hi2 F1)
    have hperm : (φ.flatten ++ X.F).Perm ((b, .cells cs E (0, 0)) :: (fz ++ ((fs.eraseIdx z).flatten ++ fj ++ (((φ.set j []).eraseIdx i).flatten ++ X.F)))) := by
      refine (List.Perm.append_right _ (s1.1.trans ((List.Perm.append_left fj (by simpa using s1.2.symm)).trans (List.Perm.append_left fj s2.1)))).trans ?_
      refine (List.Perm.append_right _ (List.Perm.append_left fj (List.Perm.append_right _ (List.Perm.cons _ hfz.1)))).trans ?_
      simp only [List.cons_append, List.append_assoc]
      refine List.perm_middle.trans (List.Perm.cons _ ?_)
      refine (List.perm_append_comm_assoc _ _ _).trans (List.Perm.append_left _ ?_)
      exact List.perm_append_comm_assoc _ _ _
    have hsh := (hc.sh.perm hperm).put hP hb'' rfl
    have hsh2 : SH X.e w' m ((b, .cells cs' E (0, 0)) :: ((fs.eraseIdx z).flatten ++ fj ++ (((φ.set j []).eraseIdx i).flatten ++ X.F))) := by
      have e1 : ((b, Obj.cells cs' E (0, 0)) :: (fz ++ ((fs.eraseIdx z).flatten ++ fj ++ (((φ.set j []).eraseIdx i).flatten ++ X.F)))).Perm (fz ++ ((b, .cells cs' E (0, 0)) :: ((fs.eraseIdx z).flatten ++ fj ++ (((φ.set j []).eraseIdx i).flatten ++ X.F)))) := List.perm_middle.symm
      exact (hsh.perm e1).tail
    have hcomm : (φ.set i F1).set j [] = (φ.set j []).set i F1 := by rw [List.set_comm _ _ hne]
    have hsh3 : SH X.e w' m (((φ.set i F1).set j []).flatten ++ X.F) := by
      refine hsh2.perm ?_
      rw [hcomm]
      refine List.Perm.symm ((List.Perm.append_right _ s2.2).trans ?_)
      rw [hF1]
      simp only [List.cons_append]
      refine List.Perm.cons _ ?_
      rw [List.append_assoc]
      refine (List.Perm.append_right _ hfz.2).trans ?_
      rw [List.append_assoc, List.append_assoc]
      exact List.perm_append_comm_assoc _ _ _
    refine hK _ w' ⟨l', (i, .slo E E' t (xs.set z ys)) :: (j, .dead) :: st.H, st.n⟩ m ρ' ((φ.set i F1).set j []) ⟨hc.mle, ?_, by rw [hρ', List.length_set]; exact hc.nρ, hφ', ?_, ?_, hsh3⟩ k
    · intro q hq hqv
      have hql := (List.getElem?_eq_some_iff.1 hqv).1
      rw [hρo q (by omega)]
      exact hc.pre q hq hqv
    · intro q a' ha'
      obtain ⟨n1, n2⟩ := subR_get hl q a' ha'
      obtain ⟨u, m1, m2⟩ := hc.slots q a' n1
      exact ⟨u, m1, nr_rep h7 hρi hρo a' n2 m2⟩
    · intro q hd fq hq hfq
      rw [AH.get_cons]
      split
      · rename_i e'
        subst e'
        rw [hρi] at hq
        cases hq
        rw [List.getElem?_set_ne (fun e => hne e.symm), List.getElem?_set_self (by rw [hc.nφ, ← hc.nρ]; exact hil)] at hfq
        cases hfq
        refine ⟨rs', fs.set z fj, [(b, .cells cs' E (0, 0))], b, c0, cs', by simp, hF1, rfl, by simpa using g1, by simpa using g2, g3, by rw [hcs', splice_size]; exact g4, ?_, ?_⟩
        · rw [List.length_set, hcs', splice_over, hrs', ← g5]
          apply List.ext_getElem?
          intro q
          have hcl : cs.toList.length = c0 := by simpa using g4
          rw [List.getElem?_take, over_get _ _ _ _ (by simp; omega), List.getElem?_set, List.getElem?_take]
          simp only [List.length_cons, List.length_nil]
          by_cases hqz : z = q
          · subst hqz
            rw [if_pos hzl, if_pos (by omega), if_pos rfl]
            simp [hzl]
            omega
          · have hn : ¬ (z ≤ q ∧ q < z + (0 + 1)) := by omega
            by_cases hq2 : q < xs.length
            · rw [if_pos hq2, if_neg hn, if_neg hqz, if_pos hq2]
            · rw [if_neg hq2, if_neg hqz, if_neg hq2]
        · rw [hrs']
          exact g6.set hrow
      · rename_i e'
        rw [AH.get_cons]
        have e'' : q ≠ i := fun h => e' h.symm
        split
        · rename_i e3
          subst e3
          rw [List.getElem?_set_self (by simp; rw [hc.nφ, ← hc.nρ]; exact hjl)] at hfq
          cases hfq
          rfl
        · rename_i e3
          rw [List.getElem?_set_ne (fun h => e3 h), List.getElem?_set_ne (fun h => e' h)] at hfq
          rw [hρo q e''] at hq
          have hoq := hc.objs q hd fq hq hfq
          have hqn : q < st.n := by rw [← hc.nρ]; exact (List.getElem?_eq_some_iff.1 hq).1
          have hnr := (List.all_eq_true.1 ho) q (List.mem_range.2 hqn)
          cases hg : st.H.get q with
          | var T1 cs1 =>
            rw [hg] at hoq hnr
            obtain ⟨b1, us, t1, t2, t3, t4⟩ := hoq
            exact ⟨b1, us, t1, t2, nr_repL h7 hρi hρo cs1 hnr t3, t4⟩
          | dead => rw [hg] at hoq; exact hoq
          | sl T1 t1 x1 => rw [hg] at hoq; exact hoq
          | map tk tv x1 => rw [hg] at hoq; exact hoq
          | slo T1 T2 t1 x1 => rw [hg] at hoq; exact hoq
          | guest p1 => rw [hg] at hoq; exact hoq
          | mit => rw [hg] at hoq; exact hoq
          | bld => rw [hg] at hoq; exact hoq
          | sloh T1 T2 t1 x1 z1 j1 =>
            rw [hg] at hoq hnr
            simp only [noRowO] at hnr
            obtain ⟨r1, f1, f2, b1, c1, c2, r2, u1, u2, u3, u4, u5, u6, u7, u8, u9, u10, u11, u12, u13⟩ := hoq
            exact ⟨r1, f1, f2, b1, c1, c2, r2, u1, u2, u3, u4, u5, u6, u7, u8, u9, u10, u11, u12, by rw [hρo _ (ne_of_beq hnr)]; exact u13⟩
          | mapr tk1 tv1 x1 left1 cur1 j1 =>
            rw [hg] at hoq hnr
            simp only [noRowO] at hnr
            obtain ⟨b1, es, cl, r1, s1, c1, sn, t1, t2, t3, t4⟩ := hoq
            exact ⟨b1, es, cl, r1, s1, c1, sn, t1, t2, by rw [hρo _ (ne_of_beq hnr)]; exact t3, t4⟩
          | mpt k1 v1 x1 hs1 =>
            rw [hg] at hoq hnr
            simp only [noRowO, List.all_eq_true] at hnr
            obtain ⟨h0, h00, b1, es, cl, fs, t1, t2, t3, t4, t5, t6⟩ := hoq
            refine ⟨h0, fun q hq => ?_, b1, es, cl, fs, t1, t2, t3, t4, t5, fun i p e g a1 a2 a3 => ?_⟩
            · exact (h00 q hq).tr (fun u hu => by rw [hρo _ (ne_of_beq (hnr _ hq))]; exact hu)
            · obtain ⟨c1, c2, c3⟩ := t6 i p e g a1 a2 a3
              exact ⟨c1, fun n hn => ⟨(c2 n hn).1, by rw [hρo _ (ne_of_beq (hnr _ hn))]; exact (c2 n hn).2⟩, c3⟩

/-- make([][]E, n). -/
theorem aop_makeO {E bytes : Nat} (E' : TypeId) {t : Ty} {l c : Int} {kl kc : IntKind} {K : AS → Prop} (hU : Und P T (.slice E)) (hZ : ZeroT P E (.slice t) bytes) (hx : aev st.l x = some (.int kl l)) (hy : aev st.l y = some (.int kc c)) (hb : mkOk bytes l c = true) (hB : Nat.ble 1 bytes = true)
    (k : K (st.new d (.sog st.n) (.slo E E' t (List.replicate l.toNat [])))) (hN : Nat.blt d N.n = true := by rfl) :
    AOp P N X ⟨some d, .makeSlice T x y, U, pos, aft, g⟩ K st :=
  aop_of fun Q fr w m ρ φ hc K' hK => by
    obtain ⟨i, z, hi, hz, hsize, hby, hzs⟩ := hZ
    simp only [mkOk, Bool.and_eq_true, decide_eq_true_eq] at hb
    obtain ⟨⟨h0, hlc⟩, hbb⟩ := hb
    have hbb := Nat.le_of_ble_eq_true hbb
    have hB := Nat.le_of_ble_eq_true hB
    have hcc : c.toNat ≤ cap47 := Nat.le_trans (Nat.le_mul_of_pos_right _ hB) hbb
    have h47 : cap47 = 140737488355328 := rfl
    have hc0 : ((c.toNat : Nat) : Int) = c := by omega
    have hbi : (i.bytes : Int) * c ≤ 281474976710656 := by
      rw [hby, ← hc0, ← Int.natCast_mul, Nat.mul_comm]; omega
    have hr := run_make (P := P) w T E i z hU hi hz kl kc l c h0 hlc hbi (by omega)
    refine op_val (v := .slice (some ⟨w.heap.size, 0, none⟩) l.toNat c.toNat) rfl hN (fun a ha => ?_) ?_ (dk_new (new_push w (.cells (madeCells z.cells (c.toNat * i.size)) E)))
    · simp [execOp, ha.eval (hc.int hx), ha.eval (hc.int hy)]
      rw [hr]; rfl
    · have hs := hc.sh.alloc (new_push w (.cells (madeCells z.cells (c.toNat * i.size)) E)) rfl
      have hzs' : z.cells.toList = [.slice none 0 0] := hzs
      have hzsz : z.cells.size = 1 := by have := congrArg List.length hzs'; simpa using this
      have hsize1 : i.size = 1 := hsize
      have hll : (List.replicate l.toNat ([] : List t.den)).length = l.toNat := by simp
      refine hK _ _ _ _ _ _ (hc.newObj (h := .tuple (.slice (some ⟨w.heap.size, 0, none⟩) l.toNat c.toNat :: List.replicate l.toNat (.slice none 0 0)).toArray) (f := [(w.heap.size, .cells (madeCells z.cells (c.toNat * i.size)) E)]) (Mem.le_refl _) hs ?_ ?_) k
      · refine ⟨List.replicate l.toNat (.slice none 0 0), List.replicate l.toNat [], [(w.heap.size, .cells (madeCells z.cells (c.toNat * i.size)) E (0, 0))], w.heap.size, c.toNat, madeCells z.cells (c.toNat * i.size), by rw [hll], ?_, rfl, by rw [hll]; omega, by rw [hll]; omega, by simp only [maxLen]; omega, by rw [size_madeCells, hsize1]; omega, ?_, ?_⟩
        · have : (List.replicate l.toNat ([] : Frag)).flatten = [] := by
            rw [List.flatten_eq_nil_iff]; intro q hq; exact List.eq_of_mem_replicate hq
          rw [this]; simp
        · have h9 := made_rows hzs' c.toNat
          rw [hzsz] at h9
          rw [hll, hsize1, h9]
          have : (List.replicate c.toNat [Value.slice none 0 0]).flatten = List.replicate c.toNat (Value.slice none 0 0) := by
            generalize c.toNat = q
            induction q with
            | zero => rfl
            | succ q ih => rw [List.replicate_succ, List.flatten_cons, ih]; rfl
          rw [this, List.take_replicate, Nat.min_eq_left (by omega)]
        · generalize l.toNat = q
          induction q with
          | zero => trivial
          | succ q ih => exact ⟨⟨by simp, .inl ⟨rfl, rfl, rfl⟩⟩, ih⟩
      · simp only [RepA]
        exact ⟨List.replicate l.toNat (.slice none 0 0), by rw [← hc.nρ]; simp, rfl⟩
end
end Go.Ab


set_option linter.unusedVariables false
namespace Go.Ab
open Go.RowKit Go.Shelf Go.Proofs Go.Eng

/-! a law's call -/
theorem sh_law (W : World) : SH W W (allM W []) [] := ⟨rfl, rfl, rfl, fun b o hb => (of_allM hb).1, fun p hp => by simp at hp, by simp, fun p hp => by simp at hp, fun p hp => by simp at hp, fun b o hb => (of_allM hb).2⟩
end Go.Ab


set_option linter.unusedVariables false
namespace Go.Ab
open Go.RowKit Go.Shelf Go.Proofs Go.Eng Go.ChangeShapes Go.WideShapes

/-! arguments of any type of data, as they are handed in -/
mutual
/-- A type of the program is a type of data. -/
inductive TyOf (P : Program) : Ty → TypeId → Prop
  | int {k : IntKind} {T : TypeId} : P.underlying T = some (.int k) → TyOf P (.int k) T
  | bool {T : TypeId} : P.underlying T = some .bool → TyOf P .bool T
  | str {T : TypeId} : P.underlying T = some .string → TyOf P .str T
  | slice {e : Ty} {T E : TypeId} : P.underlying T = some (.slice E) → P.cellsOf E = e.cells → Nat.blt 0 e.cells = true → Nat.blt 0 (P.bytesOf E) = true → TyOf P e E → TyOf P (.slice e) T
  | st {a : Ty} {T : TypeId} {fs : Array Field} : P.underlying T = some (.struct fs) → P.cellsOf T = a.cells → FdOf P a (fs.toList.map fun f => (f.type, f.offset)) 0 → TyOf P (.st a) T
  | ar {a : Ty} {T E : TypeId} {n : Nat} : P.underlying T = some (.array n E) → P.cellsOf T = a.cells → FdOf P a ((List.range n).map fun i => (E, i * P.cellsOf E)) 0 → TyOf P (.st a) T
inductive FdOf (P : Program) : Ty → List (TypeId × Nat) → Nat → Prop
  | unit {o : Nat} : FdOf P .unit [] o
  | one {a : Ty} {T : TypeId} {o : Nat} : P.cellsOf T = a.cells → TyOf P a T → FdOf P a [(T, o)] o
  | cons {a b : Ty} {T : TypeId} {o : Nat} {q : TypeId × Nat} {r : List (TypeId × Nat)} : P.cellsOf T = a.cells → TyOf P a T → FdOf P b (q :: r) (o + a.cells) → FdOf P (.pair a b) ((T, o) :: q :: r) o
end

/-- What a datum that is handed in is. -/
def WF : (t : Ty) → t.den → Prop
  | .int k, x => (Lit.int k x).wf = true
  | .bool, _ => True
  | .str, x => x.length ≤ reachBytes
  | .unit, _ => True
  | .pair a b, x => WF a x.1 ∧ WF b x.2
  | .st a, x => WF a x
  | .slice e, (x : List e.den) => x.length ≤ reachBytes ∧ ∀ y ∈ x, WF e y
  | .arr _ e, (x : List e.den) => ∀ y ∈ x, WF e y
  | .raw _, _ => True
  | .map _ _, _ => True

section
variable {H : Type} {enc : TypeId × Value → H} {P : Program} {w : World} {held : Bool}

theorem cells_at {a : Addr} {base k : Nat} {cs : List Value} (h : w.cells? base a k = some cs) (hk : 0 < k) : a.spot = none ∧ CellsM (allM w []) a.block a.off cs := by
  obtain ⟨_, h5, h6⟩ := World.cells?_some h
  obtain ⟨b, o, sp⟩ := a
  have hspot : sp = none := by
    have g7 := h6 0 hk
    rw [List.getElem?_eq_getElem (by omega)] at g7
    simpa [Addr.add] using World.cell?_spot g7
  subst hspot
  refine ⟨rfl, fun j v hj => ?_⟩
  have hjl := (List.getElem?_eq_some_iff.1 hj).1
  have h1 := h6 j (by omega)
  rw [hj, add_lit] at h1
  unfold World.cell? at h1
  simp only at h1
  split at h1
  · rename_i cs T fr hb
    exact ⟨cs, T, fr, allM_nil hb rfl, h1⟩
  · cases h1

mutual
theorem dec_ty : ∀ {t : Ty} {T : TypeId}, TyOf P t T → ∀ {n : Nat} {cs : List Value} {y : DataW H × List MemPlace}, DataW.trod enc P w 0 (fun _ => true) held n T cs = some y → (∀ k ∈ y.1.weights P T, k ≤ reachBytes) → ∃ x : t.den, WF t x ∧ RC (allM w []) t x cs
  | _, _, .int hu, n, cs, y, h, hz => by
    obtain ⟨z, rfl, _, hw⟩ := DataW.trod_int hu h
    exact ⟨z, hw, rfl⟩
  | _, _, .bool hu, n, cs, y, h, hz => by
    obtain ⟨z, rfl, _⟩ := DataW.trod_bool hu h
    exact ⟨z, trivial, rfl⟩
  | _, _, .str hu, n, cs, y, h, hz => by
    obtain ⟨z, rfl, rfl, hw⟩ := DataW.trod_string hu h
    refine ⟨z.data.toList, hz _ (by simp [DataW.weights]), ?_⟩
    show [Value.string z] = [.string (bstr z.data.toList)]
    rw [bstr_data]
  | .slice e, T, .slice (E := E) hu hc h0 hB he, n, cs, y, h, hz => by
    have h0' : 0 < e.cells := by simpa using h0
    have hB' : 0 < P.bytesOf E := by simpa using hB
    rcases Deep.open_slice hu h with ⟨rfl, rfl⟩ | ⟨a, len, cap, m, n', D, Pl, rfl, _, hl, hm, hmm, rfl, hall⟩
    · exact ⟨([] : List e.den), ⟨Nat.zero_le _, fun y hy => by cases hy⟩, ⟨none, 0, 0, rfl, rfl, Nat.le_refl _, Nat.zero_le _, 0, 0, fun h => absurd h (by omega), fun i y hy => by simp at hy⟩⟩
    · rw [if_pos rfl] at hmm
      subst hmm
      have hwt : ∀ k, k ∈ (DataW.slice ((List.range len).map D) ((List.range (m - len)).map fun j => D (len + j))).weights P T → k ≤ reachBytes := hz
      have hlen : len ≤ reachBytes := by
        have := hwt ((((List.range len).map D).length + ((List.range (m - len)).map fun j => D (len + j)).length) * P.bytesOf E) (by simp [DataW.weights, hu])
        simp only [List.length_map, List.length_range] at this
        have z2 := Nat.le_trans (Nat.le_mul_of_pos_right _ hB') this
        omega
      have hin : ∀ i, i < len → ∀ k ∈ (D i).weights P E, k ≤ reachBytes := by
        intro i hi k hk
        refine hwt k ?_
        simp only [DataW.weights, hu, List.mem_cons, List.mem_append]
        refine .inr (.inl ?_)
        have : ∀ {l : List (DataW H)} {d : DataW H}, d ∈ l → k ∈ d.weights P E → k ∈ DataW.weightsAll P E l := by
          intro l
          induction l with
          | nil => intro d hd; cases hd
          | cons c l ih =>
            intro d hd hk
            rw [DataW.weightsAll, List.mem_append]
            rcases List.mem_cons.1 hd with rfl | hd
            · exact .inl hk
            · exact .inr (ih hd hk)
        exact this (List.mem_map.2 ⟨i, List.mem_range.2 hi, rfl⟩) hk
      rw [hc] at hall
      have hrow : ∀ i, i < len → ∃ x : e.den, ∃ us, WF e x ∧ RC (allM w []) e x us ∧ a.spot = none ∧ CellsM (allM w []) a.block (a.off + i * e.cells) us := by
        intro i hi
        obtain ⟨us, h1, h2⟩ := hall i (by omega)
        obtain ⟨x, hx1, hx2⟩ := dec_ty he h2 (hin i hi)
        obtain ⟨s0, _⟩ : a.spot = none ∧ True := by
          obtain ⟨u0, g1, _⟩ := hall 0 (by omega)
          have := (cells_at g1 h0').1
          refine ⟨?_, trivial⟩
          simpa [Addr.add] using this
        obtain ⟨b0, o0, sp⟩ := a
        simp only at s0
        subst s0
        rw [add_lit] at h1
        have := (cells_at h1 h0').2
        exact ⟨x, us, hx1, hx2, rfl, this⟩
      have hne : ∀ i, i < len → Nonempty e.den := fun i hi => let ⟨x, _⟩ := hrow i hi; ⟨x⟩
      by_cases hz0 : len = 0
      · subst hz0
        exact ⟨([] : List e.den), ⟨Nat.zero_le _, fun y hy => by cases hy⟩, ⟨some a, 0, m, rfl, rfl, Nat.zero_le _, Nat.zero_le _, 0, 0, fun h => absurd h (by omega), fun i y hy => by simp at hy⟩⟩
      · obtain ⟨x0⟩ := hne 0 (by omega)
        haveI : Inhabited e.den := ⟨x0⟩
        obtain ⟨X, hX⟩ := Deep.choose_lt hrow
        have hspot : a.spot = none := by obtain ⟨_, _, _, h, _⟩ := hX 0 (by omega); exact h
        refine ⟨(List.range len).map X, ⟨by simpa using hlen, fun y hy => ?_⟩, ⟨some a, len, m, rfl, by simp, hl, by have := reachBytes_lt; show len ≤ 140737488355328; omega, a.block, a.off, fun _ => ?_, fun i y hy => ?_⟩⟩
        · obtain ⟨i, hi, rfl⟩ := List.mem_map.1 hy
          obtain ⟨_, h1, _⟩ := hX i (List.mem_range.1 hi)
          exact h1
        · obtain ⟨b0, o0, sp⟩ := a
          simp only at hspot
          subst hspot; rfl
        · have hil : i < len := by have := (List.getElem?_eq_some_iff.1 hy).1; simpa using this
          obtain ⟨us, _, h2, _, h3⟩ := hX i hil
          have : y = X i := by
            rw [List.getElem?_map, List.getElem?_range hil] at hy
            exact (Option.some.inj hy).symm
          subst this
          exact ⟨us, h2, h3⟩
  | .st a, T, .st (fs := fs) hu hc hf, n, cs, y, h, hz => by
    obtain ⟨xs, m, _, rfl, hl, hxl, hall⟩ := DataW.trod_struct hu h
    have := dec_fd hf (n := m) (cs := cs) (xs := xs) (by simpa using hxl) (by rw [hl, hc]; omega) (fun i q hi => by
      rw [List.getElem?_map] at hi
      cases hfi : fs.toList[i]? with
      | none => rw [hfi] at hi; cases hi
      | some f => rw [hfi] at hi; cases hi; exact hall i f (by simpa using hfi)) (fun k hk => hz k (by simp only [DataW.weights, hu]; rw [List.map_map] at hk; exact hk))
    rw [List.drop_zero, List.take_of_length_le (by omega)] at this
    exact this
  | .st a, T, .ar (n := k) (E := E) hu hc hf, n, cs, y, h, hz => by
    obtain ⟨xs, m, _, rfl, hl, hxl, hall⟩ := DataW.trod_array hu h
    have hw : ∀ {l : List (DataW H)} {j : Nat}, j = l.length → DataW.weightsEach P (((List.range j).map fun i => (E, i * P.cellsOf E)).map (·.1)) l = DataW.weightsAll P E l := by
      have : ∀ {l : List (DataW H)} {ts : List TypeId}, ts = List.replicate l.length E → DataW.weightsEach P ts l = DataW.weightsAll P E l := by
        intro l
        induction l with
        | nil => intro ts h; subst h; simp [DataW.weightsEach, DataW.weightsAll]
        | cons d l ih => intro ts h; subst h; rw [List.length_cons, List.replicate_succ, DataW.weightsEach, DataW.weightsAll, ih rfl]
      intro l j hj
      refine this ?_
      subst hj
      rw [List.map_map]
      apply List.ext_getElem?
      intro i
      rw [List.getElem?_map, List.getElem?_replicate]
      by_cases hi : i < l.length
      · rw [List.getElem?_range hi, if_pos hi]; rfl
      · rw [List.getElem?_eq_none (by simpa using hi), if_neg hi]; rfl
    have := dec_fd hf (n := m) (cs := cs) (xs := xs) (by simpa using hxl) (by rw [hl, hc]; omega) (fun i q hi => by
      rw [List.getElem?_map] at hi
      by_cases hik : i < k
      · rw [List.getElem?_range hik] at hi; cases hi; exact hall i hik
      · rw [List.getElem?_eq_none (by simpa using hik)] at hi; cases hi) (fun k' hk => hz k' (by
        rw [hw (by simp [hxl])] at hk
        simp only [DataW.weights, hu]; exact hk))
    rw [List.drop_zero, List.take_of_length_le (by omega)] at this
    exact this
theorem dec_fd : ∀ {a : Ty} {r : List (TypeId × Nat)} {o : Nat}, FdOf P a r o → ∀ {n : Nat} {cs : List Value} {xs : List (DataW H × List MemPlace)}, xs.length = r.length → o + a.cells ≤ cs.length →
    (∀ (i : Nat) (q : TypeId × Nat), r[i]? = some q → DataW.trod enc P w 0 (fun _ => true) held n q.1 ((cs.drop q.2).take (P.cellsOf q.1)) = xs[i]?) → (∀ k ∈ DataW.weightsEach P (r.map (·.1)) (xs.map (·.1)), k ≤ reachBytes) →
    ∃ x : a.den, WF a x ∧ RC (allM w []) a x ((cs.drop o).take a.cells)
  | _, _, _, .unit, n, cs, xs, hl, hc, h, hz => ⟨(), trivial, by simp [RC, Ty.cells]⟩
  | a, _, o, .one (T := T) hk ht, n, cs, xs, hl, hc, h, hz => by
    obtain ⟨x, rfl⟩ := List.length_eq_one_iff.1 hl
    have h1 := h 0 _ rfl
    simp only [List.getElem?_cons_zero] at h1
    rw [← hk]
    exact dec_ty ht h1 (fun k hk => hz k (by simp only [List.map_cons, List.map_nil, DataW.weightsEach, List.mem_append]; exact .inl hk))
  | .pair a b, _, o, .cons (T := T) (q := q) (r := r) hk ht hr, n, cs, xs, hl, hc, h, hz => by
    cases xs with
    | nil => simp at hl
    | cons x xs =>
      have h1 := h 0 _ rfl
      simp only [List.getElem?_cons_zero] at h1
      obtain ⟨u, u1, u2⟩ := dec_ty ht h1 (fun k hk => hz k (by simp only [List.map_cons, DataW.weightsEach, List.mem_append]; exact .inl hk))
      simp only [Ty.cells] at hc
      obtain ⟨v, v1, v2⟩ := dec_fd hr (n := n) (cs := cs) (xs := xs) (by simpa using hl) (by omega) (fun i q hi => by
        have := h (i + 1) q (by simpa using hi)
        simpa using this) (fun k hk => hz k (by simp only [List.map_cons, DataW.weightsEach, List.mem_append] at hk ⊢; exact .inr hk))
      refine ⟨(u, v), ⟨u1, v1⟩, ⟨_, _, ?_, u2, v2⟩⟩
      rw [hk]
      simp only [Ty.cells]
      rw [List.take_add, List.drop_drop]
end

theorem fd_cast {a : Ty} {l m : List (TypeId × Nat)} {o : Nat} (h : m = l) (k : FdOf P a l o) : FdOf P a m o := h ▸ k
theorem lit64 {z : Int} (h : (Lit.int .i64 z).wf = true) : -9223372036854775808 ≤ z ∧ z ≤ 9223372036854775807 := by
  simp only [Lit.wf, Bool.and_eq_true, decide_eq_true_eq] at h
  exact h

/-- An argument. -/
theorem arg_ty {t : Ty} {T : TypeId} (ht : TyOf P t T) (hn : t.noArr = true) {v : Value} {d : DataW H} {ps : List MemPlace} {r : Reach} {base : Nat} {ts : List TypeId} {ds : List (DataW H)} {j : Nat}
    (hok : Value.okWide P w r base T v) (hsz : (DataW.weightsEach P ts ds).all (· ≤ reachBytes) = true) (hj : ts[j]? = some T) (hd : ds[j]? = some d)
    (h : DataW.Trod enc P w 0 (fun _ => true) held T v d ps) : ∃ x : t.den, WF t x ∧ RepA (allM w []) [] (whole t x) v := by
  obtain ⟨fuel, hf⟩ := h
  obtain ⟨x, h1, h2⟩ := dec_ty ht hf (fun k hk => by
    have := List.all_eq_true.1 hsz _ (DataW.weights_mem_each hj hd k hk)
    simpa using this)
  refine ⟨x, h1, ?_⟩
  have one : ∀ {a : AV} {u : Value}, v.cells = #[v] → RepL (allM w []) [] [a] v.cells.toList → RepA (allM w []) [] a v := by
    intro a u hv hr
    rw [hv] at hr
    simp only [RepL, and_true] at hr; exact hr
  have hr := rc_expl (ρ := []) h2
  cases ht with
  | int hu => obtain ⟨n, rfl⟩ := okWide_int hu hok; simp only [Value.cells, RepL, expl, and_true] at hr; exact hr
  | bool hu => obtain ⟨n, rfl⟩ := okWide_bool hu hok; simp only [Value.cells, RepL, expl, and_true] at hr; exact hr
  | str hu => obtain ⟨n, rfl⟩ := okWide_string hu hok; simp only [Value.cells, RepL, expl, and_true] at hr; exact hr
  | slice hu _ _ _ _ => obtain ⟨a, l, c, rfl⟩ := okWide_slice hu hok; simp only [Value.cells, RepL, expl, and_true] at hr; exact hr
  | st hu hc _ =>
    obtain ⟨cs, rfl, _⟩ := okWide_struct hu hok
    simp only [whole, Ty.agg, if_true, RepA]
    exact ⟨cs.toList, by simp, hr, h2.one⟩
  | ar hu hc _ =>
    simp only [Value.okWide, hu] at hok
    obtain ⟨cs, rfl, _⟩ := hok
    simp only [whole, Ty.agg, if_true, RepA]
    exact ⟨cs.toList, by simp, hr, h2.one⟩
end
end Go.Ab


set_option linter.unusedVariables false
set_option linter.unusedSimpArgs false
namespace Go.Ab
open Go.RowKit Go.Shelf Go.Proofs Go.Eng

/-! the tail of a slice of the call's own, cleared -/
section
variable {P : Program} {N : Ev} {K : Fr → World → Prop} {Q : Post} {l : Fr} {w : World}
end
section
variable {P : Program} {N : Ev} {X : Cx} {Q : APost} {st : AS} {ops : Array Oper} {rest : List Oper}
variable {d T U U' : TypeId} {pos pos' : String} {aft aft' : Array Edge} {x y lo : Operand}
end

end Go.Ab

