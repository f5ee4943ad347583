/- Lemmas for a law of the seat: what functions of the program do, each stated as a contract of its own (module AbL). -/
import Derived.Test.YtjagcoeihmhabaaAbK
set_option linter.unusedVariables false
set_option linter.unusedSimpArgs false
namespace Go.Ab
open Go.RowKit Go.Shelf Go.Proofs Go.Eng

theorem fieldV_of' {P : Program} {T : TypeId} {fs : Array Field} {f ft off : Nat} {b : Bool} {n : Nat} (hu : P.underlying T = some (.struct fs)) (hf : (fs[f]?).map (fun fl => (fl.type, fl.offset)) = some (ft, off)) (hT : TyS P ft b n) (hn : b = false → n = 1) : FieldV P T f off b n := by
  cases h : fs[f]? with
  | none => rw [h] at hf; cases hf
  | some fl => rw [h] at hf; simp at hf; obtain ⟨rfl, h2⟩ := hf; exact fieldV_of hu h h2 hT hn
theorem buildS_of {P : Program} {T E : Nat} {t : Ty} {z : Value} (h1 : P.underlying T = some (.slice E)) (h2 : (P.info? E).map (fun i => (i.zero, i.size)) = some (some z, t.cells)) (hz : z.cells.toList = zeroV t) : BuildS P T E t := by
  cases hi : P.info? E with
  | none => rw [hi] at h2; cases h2
  | some i => rw [hi] at h2; simp at h2; exact ⟨h1, i, z, hi, h2.1, h2.2, hz⟩

/-! what a function comes to: its text -/
abbrev w64 (z : Int) : Int := IntKind.wrap .i64 z
theorem chk_some {α : Type} {c : Bool} {a : Option α} {r : α} (h : (bif c then a else none) = some r) : c = true ∧ a = some r := by
  cases c with
  | true => exact ⟨rfl, h⟩
  | false => cases h
theorem bnd_some {α β : Type} {o : Option α} {f : α → Option β} {r : β} (h : o.bind f = some r) : ∃ x, o = some x ∧ f x = some r := Option.bind_eq_some_iff.1 h
theorem if_t {α : Type} {c : Bool} {a b : Option α} {r : α} (hc : c = true) (h : (bif c then a else b) = some r) : a = some r := by subst hc; exact h
theorem if_f {α : Type} {c : Bool} {a b : Option α} {r : α} (hc : c = false) (h : (bif c then a else b) = some r) : b = some r := by subst hc; exact h
/-- What is asked about under a guard. -/
theorem imp_g {g c : Bool} (h : (!g || c) = true) (hg : g = true) : c = true := by subst hg; simpa using h
theorem get_g {α : Type} [Inhabited α] {g : Bool} {o : Option α} (h : (!g || o.isSome) = true) (hg : g = true) : o = some (o.getD default) := by
  subst hg
  cases o with
  | none => simp at h
  | some x => rfl

/-- Rounds of an index. -/
def rng {S R : Type} (g : Int → S → Option (S ⊕ R)) : Nat → Int → S → Option (S ⊕ R)
  | 0, _, s => some (.inl s)
  | k + 1, i, s => (g i s).bind fun o => match o with
    | .inl s' => rng g k (i + 1) s'
    | .inr r => some (.inr r)
/-- One round as the machine goes it. -/
def rb {S R : Type} (n : Int) (g : Int → S → Option (S ⊕ R)) (p : Int × S) : Option ((Int × S) ⊕ (S ⊕ R)) :=
  bif decide (p.1 < n) then (g p.1 p.2).bind fun o => match o with
    | .inl s' => some (.inl (w64 (p.1 + 1), s'))
    | .inr r => some (.inr (.inr r))
  else some (.inr (.inl p.2))
theorem rng_lrun {S R : Type} {n : Int} {g : Int → S → Option (S ⊕ R)} (hn : n ≤ 9223372036854775807) : ∀ (k : Nat) (i : Int) (s : S) (o : S ⊕ R), (n - i).toNat = k → 0 ≤ i → rng g k i s = some o → lrun (rb n g) (k + 1) (i, s) = some o := by
  intro k
  induction k with
  | zero =>
    intro i s o hk h0 h
    simp only [rng, Option.some.injEq] at h
    subst h
    have : decide (i < n) = false := by simp; omega
    simp [lrun, rb, this]
  | succ k ih =>
    intro i s o hk h0 h
    simp only [rng] at h
    obtain ⟨q, hq, h⟩ := bnd_some h
    have hlt : decide (i < n) = true := by simp; omega
    have hw : w64 (i + 1) = i + 1 := wrap_i64 (by omega)
    rw [lrun, rb, hlt, cond_true, hq]
    cases q with
    | inl s' => simp only [Option.bind_some, hw]; exact ih (i + 1) s' o (by omega) (by omega) h
    | inr r => simpa using h

def joinQ {S R : Type} (X : Cx) (M : S → AS) (Qx : R → APost) : S ⊕ R → APost
  | .inl s, .normal, st => Wk X st (M s)
  | .inl _, _, _ => False
  | .inr _, .normal, _ => False
  | .inr r, e, st => Qx r e st

section
variable {P : Program} {N : Ev} {X : Cx} {Q : APost} {st : AS}
theorem awc_cond_t {c : Operand} {x y : Code} (hc : aev st.l c = some (.bool true)) (ht : AWC P N X x Q st) : AWC P N X (.cond c x y) Q st := awc_cond hc (fun _ => ht) (fun h => by cases h)
theorem awc_cond_f {c : Operand} {x y : Code} (hc : aev st.l c = some (.bool false)) (ht : AWC P N X y Q st) : AWC P N X (.cond c x y) Q st := awc_cond hc (fun h => by cases h) (fun _ => ht)

/-- What goes on in one way behind several. -/
theorem awc_join {S R : Type} {c d : Code} (M : S → AS) (Qx : R → APost) {p : Option (S ⊕ R)} {o : S ⊕ R} (hp : p = some o) (h1 : p = some o → AWC P N X c (joinQ X M Qx o) st) (h2 : ∀ s, o = .inl s → AWC P N X d Q (M s)) (h3 : ∀ r, o = .inr r → ∀ e st, e ≠ .normal → Qx r e st → Q e st) : AWC P N X (.seq c d) Q st := by
  refine awc_seq (awc_mono ?_ (h1 hp))
  intro e st' hq
  cases o with
  | inl s =>
    cases e with
    | normal => exact awc_wk hq (h2 s rfl)
    | _ => exact hq.elim
  | inr r =>
    cases e with
    | normal => exact hq.elim
    | ret => exact h3 r rfl _ _ (by simp) hq
    | exit i => exact h3 r rfl _ _ (by simp) hq
    | goto i => exact h3 r rfl _ _ (by simp) hq
    | panic i => exact h3 r rfl _ _ (by simp) hq
    | outgrown => exact h3 r rfl _ _ (by simp) hq

/-- A loop over an index. -/
theorem awc_range {S R : Type} {c : Code} (n : Int) (g : Int → S → Option (S ⊕ R)) (Inv : Int × S → AS) (Qx : S ⊕ R → APost) {s : S} {o : S ⊕ R} (hn : n ≤ 9223372036854775807) (hr : rng g n.toNat 0 s = some o) (hi : Wk X st (Inv (0, s))) (hQ : ∀ e st, Qx o e st → Q e st)
    (body : ∀ i s o, rb n g (i, s) = some o → AWC P N X c (loopQ X Inv Qx o) (Inv (i, s))) : AWC P N X (.loop c) Q st :=
  awc_loop Inv (rb n g) Qx (rng_lrun hn n.toNat 0 s o (by omega) (Int.le_refl _) hr) hi hQ fun p o h => body p.1 p.2 o h
theorem rb_t {S R : Type} {n i : Int} {g : Int → S → Option (S ⊕ R)} {s : S} {o : (Int × S) ⊕ (S ⊕ R)} (hc : decide (i < n) = true) (h : rb n g (i, s) = some o) : ∃ q, g i s = some q ∧ o = match q with
    | .inl s' => .inl (w64 (i + 1), s')
    | .inr r => .inr (.inr r) := by
  unfold rb at h
  simp only [hc, cond_true] at h
  obtain ⟨q, hq, h⟩ := bnd_some h
  refine ⟨q, hq, ?_⟩
  cases q with
  | inl s' => simp at h; exact h.symm
  | inr r => simp at h; exact h.symm
theorem rb_f {S R : Type} {n i : Int} {g : Int → S → Option (S ⊕ R)} {s : S} {o : (Int × S) ⊕ (S ⊕ R)} (hc : decide (i < n) = false) (h : rb n g (i, s) = some o) : o = .inr (.inl s) := by
  unfold rb at h
  simp only [hc, cond_false] at h
  simp at h; exact h.symm

/-- How long a slice is at most. -/
theorem awc_len {c : Code} {t : Nat} {ty : Ty} {x : List ty.den} (hx : st.l.look t = some (.sl ty x)) (k : x.length ≤ cap47 → AWC P N X c Q st) : AWC P N X c Q st := by
  intro fr w m ρ φ hc
  obtain ⟨v, h1, h2⟩ := hc.slots t _ hx
  simp only [RepA] at h2
  obtain ⟨_, _, _, _, h3, _⟩ := rc_slice h2
  exact k h3 fr w m ρ φ hc
theorem awc_lenO {c : Code} {i : Nat} {E : TypeId} {ty : Ty} {x : List ty.den} (hH : st.H.get i = .sl E ty x) (hn : Nat.blt i st.n = true) (k : x.length ≤ cap47 → AWC P N X c Q st) : AWC P N X c Q st := by
  intro fr w m ρ φ hc
  have hi : i < ρ.length := by rw [hc.nρ]; simpa using hn
  obtain ⟨f, _, ho, _⟩ := hc.obj (List.getElem?_eq_getElem hi)
  rw [hH] at ho
  exact k ho.1 fr w m ρ φ hc
theorem len_ok {n : Nat} (h : n ≤ cap47) : ((n : Nat) : Int) ≤ 9223372036854775807 := by
  have : cap47 = 140737488355328 := rfl
  omega

/-- Nil as a slice that is read. -/
theorem wk_nil {t : Nat} (ty : Ty) (hx : st.l.look t = some .nils) : Wk X st (st.put t (.sl ty [])) := by
  intro fr w m ρ φ hc
  obtain ⟨v, h1, h2⟩ := hc.slots t _ hx
  have h3 := hc.put (d := t) (cv_rep (cv2 (t := ty)) h2)
  refine ⟨m, ρ, φ, h3.mle, h3.pre, h3.nρ, h3.nφ, fun q a hq => ?_, h3.objs, h3.sh⟩
  obtain ⟨u, h4, h5⟩ := h3.slots q a hq
  rw [Fr.look_cons] at h4
  split at h4
  · rename_i e; subst e; cases h4; exact ⟨_, h1, h5⟩
  · exact ⟨u, h4, h5⟩

/-- Rows of the call's own are read alone from now on. -/
theorem frz_conc {fr : Fr} {w : World} {m : Mem} {ρ : List Value} {φ : List Frag} (hc : Conc X st fr w m ρ φ) {i : Nat} {E : TypeId} {ty : Ty} {x : List ty.den} (hH : st.H.get i = .sl E ty x) {v : Value} (hv : RepA m ρ (.osl i) v) :
    ∃ m', m.le m' ∧ Conc X (st.upd i .dead) fr w m' ρ (φ.set i []) ∧ RepA m' ρ (.sl ty x) v := by
  simp only [RepA] at hv
  obtain ⟨f, hf, ho, hw⟩ := hc.obj hv.1
  rw [hH] at ho
  have hfr := hc.front hf
  have hz := hfr.frz
  have hle := Mem.le_add m f
  have h2 : Conc X (st.upd i .dead) fr w (m.add f) ρ (φ.set i []) := by
    refine ⟨hc.mle.trans hle, hc.pre, hc.nρ, by rw [List.length_set]; exact hc.nφ, fun t a ha => let ⟨v, h3, h4⟩ := hc.slots t a ha; ⟨v, h3, RepA.mono hle (fun _ _ h => h) a h4⟩, ?_, ?_⟩
    · intro j hd g hj hg
      simp only [AS.upd, AH.get_cons]
      by_cases e : i = j
      · subst e
        rw [if_pos rfl]
        rw [List.getElem?_set_self (List.getElem?_eq_some_iff.1 hf).1] at hg
        cases hg; rfl
      · rw [if_neg e]
        rw [List.getElem?_set_ne e] at hg
        exact (hc.objs j hd g hj hg).mono hle (fun _ _ h => h)
    · refine hz.perm ?_
      exact ((frag_split hf []).2.append_right _).symm
  refine ⟨m.add f, hle, h2, ?_⟩
  simp only [RepA]
  have hnd := hfr.nd
  rw [List.map_append, List.nodup_append] at hnd
  obtain ⟨h0, ⟨rfl, rfl, rfl⟩ | ⟨b, c, cs, vs, h3, h4, q1, q2, q3, q4, q5⟩⟩ := ho
  · simp only [RC]; exact ⟨none, 0, 0, rfl, rfl, Nat.le_refl _, Nat.zero_le _, 0, 0, fun h => absurd h (by omega), fun i y hy => by simp at hy⟩
  · subst h4
    rw [h3]
    exact rows_slice (add_get (o := .cells cs E (0, 0)) hnd.1 (List.mem_singleton.2 rfl) (hfr.dis (b, .cells cs E (0, 0)) (by simp))) (q4.mono hle) q5 q1 h0
def putAll (l : AFr) (a : AV) : List Nat → AFr
  | [] => l
  | t :: r => (t, a) :: putAll l a r
theorem wk_frz (ts : List Nat) (i : Nat) {E : TypeId} {ty : Ty} {x : List ty.den} (hi : Nat.blt i st.n = true) (hH : st.H.get i = .sl E ty x) (ht : ts.map st.l.look = ts.map fun _ => some (.osl i)) : Wk X st ⟨putAll st.l (.sl ty x) ts, (i, .dead) :: st.H, st.n⟩ := by
  intro fr w m ρ φ hc
  cases ts with
  | nil =>
    have hil : i < ρ.length := by rw [hc.nρ]; simpa using hi
    obtain ⟨f, hf, ho, _⟩ := hc.obj (List.getElem?_eq_getElem hil)
    rw [hH] at ho
    have hone : (ρ[i]'hil).oneCell' = true := by
      obtain ⟨_, ⟨_, h, _⟩ | ⟨_, _, _, _, h, _⟩⟩ := ho <;> rw [h] <;> rfl
    obtain ⟨m', _, h, _⟩ := frz_conc hc hH (v := ρ[i]'hil) (by simp only [RepA]; exact ⟨List.getElem?_eq_getElem hil, hone⟩)
    exact ⟨m', ρ, _, h⟩
  | cons t r =>
    have h0 : st.l.look t = some (.osl i) := by simp at ht; exact ht.1
    obtain ⟨v, h1, h2⟩ := hc.slots t _ h0
    obtain ⟨m', h3, h4, h5⟩ := frz_conc hc hH h2
    simp only [RepA] at h2
    refine ⟨m', ρ, _, h4.mle, h4.pre, h4.nρ, h4.nφ, ?_, h4.objs, h4.sh⟩
    have key : ∀ (us : List Nat), (us.map st.l.look = us.map fun _ => some (.osl i)) → ∀ q a, (putAll st.l (.sl ty x) us).look q = some a → ∃ u, fr.look q = some u ∧ RepA m' ρ a u := by
      intro us
      induction us with
      | nil => intro _ q a hq; exact h4.slots q a hq
      | cons s us ih =>
        intro hs q a hq
        simp only [List.map_cons, List.cons.injEq] at hs
        simp only [putAll, AFr.look_cons] at hq
        split at hq
        · rename_i e; subst e; cases hq
          obtain ⟨u, g1, g2⟩ := hc.slots s _ hs.1
          simp only [RepA] at g2
          have : u = v := by have := g2.1.symm.trans h2.1; exact Option.some.inj this
          subst this
          exact ⟨_, g1, h5⟩
        · exact ih hs.2 q a hq
    exact key _ ht

end
/-! a call that reads what the caller owns -/
section
variable {P : Program} {N : Ev} {X : Cx} {Q : APost} {st : AS}
variable {d : Nat} {T U T' : TypeId} {pos : String} {aft : Array Edge} {g : Option (Nat × Bool)} {x y : Operand}
theorem allM_nil {w : World} {b : Nat} {o : Obj} (h : w.heap[b]? = some o) (hc : ctl o = false) : allM w [] b = some o := by unfold allM; simp [h, Option.filter, hc]
theorem of_allM {w : World} {b : Nat} {o : Obj} (h : allM w [] b = some o) : w.heap[b]? = some o ∧ ctl o = false := by
  unfold allM at h
  simp only [List.map_nil, List.contains_nil, Bool.false_eq_true, if_false] at h
  have := Option.filter_eq_some_iff.1 h
  exact ⟨this.1, by simpa using this.2⟩
theorem bor_rep {fr : Fr} {w : World} {m : Mem} {ρ : List Value} {φ : List Frag} (hc : Conc X st fr w m ρ φ) {a : AV} {v : Value} (h : RepA m ρ a v) : RepA (allM w []) [] (coeA st.H [] 4 a) v := by
  have hle : m.le (allM w []) := fun b o hb => allM_nil (hc.sh.fz b o hb) (hc.sh.mctl b o hb)
  refine coe_rep (φ := φ) hle (fun i j h hp => by simp [posN] at hp) (fun i h _ hi => ?_) 4 h
  obtain ⟨f, hf, h1, hw⟩ := hc.obj hi
  exact ⟨f, h1, fun p hp => allM_nil (hw p hp) (hc.sh.noctl p (List.mem_append.2 (.inl (List.mem_flatten.2 ⟨f, List.mem_of_getElem? hf, hp⟩))))⟩
theorem bor_repL {fr : Fr} {w : World} {m : Mem} {ρ : List Value} {φ : List Frag} (hc : Conc X st fr w m ρ φ) : ∀ {as' : List AV} {vs : List Value}, RepL m ρ as' vs → RepL (allM w []) [] (as'.map (coeA st.H [] 4)) vs := by
  intro as'
  induction as' with
  | nil => intro vs h; cases vs with
    | nil => simp [RepL]
    | cons => simp [RepL] at h
  | cons a as' ih => intro vs h; cases vs with
    | nil => simp [RepL] at h
    | cons v vs => simp only [List.map_cons, RepL] at h ⊢; exact ⟨bor_rep hc h.1, ih h.2⟩
def flatT : AV → Bool
  | .tup vs => vs.all flatB
  | a => flatB a
theorem flatT_rep {m m' : Mem} {ρ ρ' : List Value} {a : AV} {v : Value} (hf : flatT a = true) (h : RepA m ρ a v) : RepA m' ρ' a v := by
  have hflat : ∀ {a : AV} {v : Value}, flatB a = true → RepA m ρ a v → RepA m' ρ' a v := by
    intro a v hf h
    cases a <;> simp [flatB] at hf <;> simpa only [RepA] using h
  have hL : ∀ {as' : List AV} {vs : List Value}, (as'.all flatB) = true → RepL m ρ as' vs → RepL m' ρ' as' vs := by
    intro as'
    induction as' with
    | nil => intro vs _ h; cases vs with
      | nil => simp [RepL]
      | cons => simp [RepL] at h
    | cons a as' ih => intro vs hf h; cases vs with
      | nil => simp [RepL] at h
      | cons v vs => simp only [List.all_cons, Bool.and_eq_true] at hf; simp only [RepL] at h ⊢; exact ⟨hflat hf.1 h.1, ih hf.2 h.2⟩
  cases a with
  | tup vs => simp only [flatT] at hf; simp only [RepA] at h ⊢; obtain ⟨us, h1, h2⟩ := h; exact ⟨us, h1, hL hf h2⟩
  | int => exact hflat hf h
  | bool => exact hflat hf h
  | str => exact hflat hf h
  | _ => simp [flatT, flatB] at hf
/-- A call that owns nothing, of arguments seen more weakly. -/
theorem av_callN {f : FuncId} {xs : List Operand} {as' bs rs : List AV} {ts : Array TypeId} {r : AV} (hr : RunsP P f bs rs) (hf : Enters P f) (hx : xs.map (aev st.l) = as'.map some) (hcv : cvL bs as') (hrs : tupA rs = r) (hcl : renL [] bs = bs := by rfl) (hN : Nat.blt d N.n = true := by rfl) :
    AOpV P N X ⟨some d, .call ⟨.value (.func f), xs.toArray, ts⟩, U, pos, aft, g⟩ r st := by
  intro Q fr w m ρ φ hc
  obtain ⟨vs, h1, h2⟩ := hc.evl hx
  subst hrs
  refine op_call hf h1 (ret_pure hr hcl hc (cvL_rep hcv h2)) hN ?_
  rintro v w' ⟨hb, m', h3, h4, h5⟩
  exact ⟨d, v, rfl, rfl, hb, m', h3, h4, h5⟩
theorem av_callB {f : FuncId} {xs : List Operand} {as' bs rs : List AV} {ts : Array TypeId} {r : AV} (hr : RunsP P f bs rs) (hf : Enters P f) (hx : xs.map (aev st.l) = as'.map some) (hbs : cvL bs (as'.map (coeA st.H [] 4))) (hrs : tupA rs = r) (hfl : flatT r = true) (hN : Nat.blt d N.n = true := by rfl) :
    AOpV P N X ⟨some d, .call ⟨.value (.func f), xs.toArray, ts⟩, U, pos, aft, g⟩ r st := by
  intro Q fr w m ρ φ hc
  obtain ⟨vs, h1, h2⟩ := hc.evl hx
  subst hrs
  have hv : RepL (allM w []) [] bs vs := cvL_rep hbs (bor_repL hc h2)
  have hsh : SH X.e w (allM w []) [] := ⟨hc.sh.os, hc.sh.tape, hc.sh.output, fun b o hb => (of_allM hb).1, fun p hp => by simp at hp, by simp, fun p hp => by simp at hp, fun p hp => by simp at hp, fun b o hb => (of_allM hb).2⟩
  have hret : Ret P f vs.toArray w fun v w' => Below w.heap.size w w' ∧ RepA m ρ (tupA rs) v := by
    refine Calls.mono (hr X.e w _ [] [] [] vs hv ⟨rfl, rfl, fun i o h f hi => by simp at hi⟩ (by simpa using hsh)) ?_
    rintro e w' ⟨v, he, hd, rs', H', m', ρ', φ', ⟨rfl, rfl⟩, hm, _, _, ho, hs, us, hu, rfl⟩
    have hφ : φ' = [] := List.eq_nil_of_length_eq_zero ho.nφ
    subst hφ
    exact ⟨_, he, hd, below_all hsh (by simpa using hs) hm hd.2 hd.1, flatT_rep hfl (rep_tup hu)⟩
  refine op_call hf h1 hret hN ?_
  rintro v w' ⟨hb, h5⟩
  exact ⟨d, v, rfl, rfl, hb, m, Mem.le_refl _, hc.sh.ext hb, h5⟩
theorem av_callvB {f : FuncId} {fx : Operand} {first caps : List AV} {xs : List Operand} {as' bs rs : List AV} {ts : Array TypeId} {r : AV} (hfx : aev st.l fx = some (.fn f first caps)) (hr : RunsP P f bs rs) (hf : Enters P f) (hx : xs.map (aev st.l) = as'.map some) (hbs : cvL bs ((first ++ as' ++ caps).map (coeA st.H [] 4))) (hrs : tupA rs = r) (hfl : flatT r = true) (hN : Nat.blt d N.n = true := by rfl) :
    AOpV P N X ⟨some d, .call ⟨.value fx, xs.toArray, ts⟩, U, pos, aft, g⟩ r st := by
  intro Q fr w m ρ φ hc
  obtain ⟨vs, h1, h2⟩ := hc.evl hx
  obtain ⟨v, h3, h4⟩ := hc.ev hfx
  simp only [RepA] at h4
  obtain ⟨us, ws, rfl, h5, h6⟩ := h4
  subst hrs
  have hv : RepL (allM w []) [] bs (us ++ vs ++ ws) := cvL_rep hbs (bor_repL hc ((h5.app h2).app h6))
  have hsh : SH X.e w (allM w []) [] := ⟨hc.sh.os, hc.sh.tape, hc.sh.output, fun b o hb => (of_allM hb).1, fun p hp => by simp at hp, by simp, fun p hp => by simp at hp, fun p hp => by simp at hp, fun b o hb => (of_allM hb).2⟩
  have hret : Ret P f (us ++ vs ++ ws).toArray w fun v w' => Below w.heap.size w w' ∧ RepA m ρ (tupA rs) v := by
    refine Calls.mono (hr X.e w _ [] [] [] _ hv ⟨rfl, rfl, fun i o h f hi => by simp at hi⟩ (by simpa using hsh)) ?_
    rintro e w' ⟨v, he, hd, rs', H', m', ρ', φ', ⟨rfl, rfl⟩, hm, _, _, ho, hs, us, hu, rfl⟩
    have hφ : φ' = [] := List.eq_nil_of_length_eq_zero ho.nφ
    subst hφ
    exact ⟨_, he, hd, below_all hsh (by simpa using hs) hm hd.2 hd.1, flatT_rep hfl (rep_tup hu)⟩
  refine op_callv (args := (us ++ vs ++ ws).toArray) h3 hf h1 (by simp) hret hN ?_
  rintro v w' ⟨hb, h5⟩
  exact ⟨d, v, rfl, rfl, hb, m, Mem.le_refl _, hc.sh.ext hb, h5⟩

/-! a function value that came in -/
theorem renL_app (σ : List Nat) : ∀ (a b : List AV), renL σ (a ++ b) = renL σ a ++ renL σ b := by
  intro a
  induction a with
  | nil => intro b; simp [renL]
  | cons x a ih => intro b; simp only [List.cons_append, renL, ih]
/-- What holds of a function value that came in: that it is one of the program's. -/
structure FnIn (P : Program) (f : FuncId) (caps : List AV) : Prop where
  ent : Enters P f
theorem ret_pure0 {f : FuncId} {as' rs : List AV} {fr : Fr} {w : World} {m : Mem} {ρ : List Value} {φ : List Frag} {vs : List Value} (hr : RunsP P f as' rs) (hc : Conc X st fr w m ρ φ) (hv : RepL m [] as' vs) :
    Ret P f vs.toArray w fun v w' => Below w.heap.size w w' ∧ ∃ m', m.le m' ∧ SH X.e w' m' (φ.flatten ++ X.F) ∧ RepA m' ρ (tupA rs) v := by
  obtain ⟨h1, h2⟩ := sh_all hc.sh
  have := hr X.e w _ [] [] (φ.flatten ++ X.F) vs (RepL.mono h2 (fun _ _ h => h) _ hv) ⟨rfl, rfl, fun i o h f hi => by simp at hi⟩ (by simpa using h1)
  refine Calls.mono this ?_
  rintro e w' ⟨v, he, hd, rs', H', m', ρ', φ', ⟨rfl, rfl⟩, hm, _, _, ho, hs, us, hu, rfl⟩
  have hρ : ρ' = [] := List.eq_nil_of_length_eq_zero ho.nρ
  have hφ : φ' = [] := List.eq_nil_of_length_eq_zero ho.nφ
  subst hρ hφ
  have hs' : SH X.e w' m' (φ.flatten ++ X.F) := by simpa using hs
  exact ⟨_, he, hd, below_all h1 hs' hm hd.2 hd.1, m', h2.trans hm, hs', RepA.mono (Mem.le_refl _) (fun i h hi => by simp at hi) _ (rep_tup hu)⟩
theorem rep_clo_fn {m : Mem} {ρ : List Value} {f : FuncId} {caps : List AV} {v : Value} (h : RepA m ρ (.clo (.fn f [] caps)) v) : ∃ ws : List Value, v = .func (.func f) #[] ws.toArray ∧ RepL m [] caps ws := by
  simp only [RepA] at h
  obtain ⟨us, ws, rfl, h5, h6⟩ := h
  cases us with
  | nil => exact ⟨ws, rfl, h6⟩
  | cons => simp [RepL] at h5
theorem av_callq {f : FuncId} {fx : Operand} {caps : List AV} {xs : List Operand} {as' rs : List AV} {ts : Array TypeId} {r : AV} (hfx : aev st.l fx = some (.clo (.fn f [] caps))) (hr : RunsP P f (as' ++ caps) rs) (hf : FnIn P f caps) (hx : xs.map (aev st.l) = as'.map some) (hrs : tupA rs = r) (hcl : renL [] as' = as') (hN : Nat.blt d N.n = true := by rfl) :
    AOpV P N X ⟨some d, .call ⟨.value fx, xs.toArray, ts⟩, U, pos, aft, g⟩ r st := by
  intro Q fr w m ρ φ hc
  obtain ⟨vs, h1, h2⟩ := hc.evl hx
  obtain ⟨v, h3, h4⟩ := hc.ev hfx
  obtain ⟨ws, rfl, h6⟩ := rep_clo_fn h4
  subst hrs
  have h2' : RepL m [] as' vs := by
    refine renL_fwd (σ := []) (ρ := ρ) (fun i j u hi _ => by simp at hi) as' ?_
    rw [hcl]; exact h2
  refine op_callv (args := (vs ++ ws).toArray) h3 hf.ent h1 (by simp) (ret_pure0 hr hc (h2'.app h6)) hN ?_
  rintro v w' ⟨hb, m', h7, h8, h9⟩
  exact ⟨d, v, rfl, rfl, hb, m', h7, h8, h9⟩
end
end Go.Ab
