/- Lemmas for a law of the seat: what functions of the program do, each stated as a contract of its own (module AbH). -/
import Derived.Test.YtjagcoeihmhabaaAbG
set_option linter.unusedVariables false
set_option linter.unusedSimpArgs false
namespace Go.Ab
open Go.RowKit Go.Shelf Go.Proofs Go.Eng

/-! knowing less -/
def posN : List Nat → Nat → Option Nat
  | [], _ => none
  | j :: r, i => bif Nat.beq j i then some 0 else (posN r i).map (· + 1)
theorem posN_get : ∀ {σ : List Nat} {i j : Nat}, posN σ i = some j → σ[j]? = some i := by
  intro σ
  induction σ with
  | nil => intro i j h; simp [posN] at h
  | cons a σ ih =>
    intro i j h
    simp only [posN] at h
    cases hb : Nat.beq a i
    · rw [hb] at h
      simp only [cond_false] at h
      obtain ⟨j', h1, rfl⟩ := Option.map_eq_some_iff.1 h
      simpa using ih h1
    · rw [hb] at h
      simp only [cond_true, Option.some.injEq] at h
      subst h
      simp [Nat.eq_of_beq_eq_true hb]
theorem posN_none : ∀ {σ : List Nat} {i : Nat}, posN σ i = none → i ∉ σ := by
  intro σ
  induction σ with
  | nil => intro i _; simp
  | cons a σ ih =>
    intro i h
    simp only [posN] at h
    cases hb : Nat.beq a i
    · rw [hb] at h
      simp only [cond_false, Option.map_eq_none_iff] at h
      simp only [List.mem_cons, not_or]
      refine ⟨fun e => ?_, ih h⟩
      subst e; simp at hb
    · rw [hb] at h; simp at h

/-- What is seen when but the objects σ stay owned. -/
def coeA (H : AH) (σ : List Nat) : Nat → AV → AV
  | _, .osl i => match posN σ i with
    | some j => .osl j
    | none => match H.get i with
      | .sl _ t x => .sl t x
      | _ => .any
  | _, .map i => match posN σ i with
    | some j => .map j
    | none => .any
  | _, .ep i sz z o => match posN σ i with
    | some j => .ep j sz z o
    | none => .any
  | 0, .ptr i o => match posN σ i with
    | some j => .ptr j o
    | none => .any
  | d + 1, .ptr i o => match posN σ i with
    | some j => .ptr j o
    | none => match H.get i with
      | .var _ cs => .rp ((cs.drop o).map (coeA H σ d))
      | _ => .any
  | 0, .rp _ => .any
  | 0, .agg _ => .any
  | 0, .tup _ => .any
  | 0, .fn _ _ _ => .any
  | d + 1, .rp cs => .rp (cs.map (coeA H σ d))
  | d + 1, .agg cs => .agg (cs.map (coeA H σ d))
  | d + 1, .tup cs => .tup (cs.map (coeA H σ d))
  | d + 1, .fn f a b => .fn f (a.map (coeA H σ d)) (b.map (coeA H σ d))
  | _, .sog i => match posN σ i with
    | some j => .sog j
    | none => match H.get i with
      | .slo _ _ t x => .sl (.slice t) x
      | _ => .any
  | _, .epg i k => match posN σ i with
    | some j => .epg j k
    | none => .any
  | _, .row i k => match posN σ i with
    | some j => .row j k
    | none => .any
  | _, .epr i k sz z o => match posN σ i with
    | some j => .epr j k sz z o
    | none => .any
  | _, a => a

/-- A weaker view. -/
def cv (a' a : AV) : Prop := a' = a ∨ a' = .any ∨ (a = .nils ∧ ∃ t, a' = .sl t []) ∨ (a' = .clo a ∧ renA [] a = a)
theorem cv0 {a : AV} : cv a a := .inl rfl
theorem cv1 {a : AV} : cv .any a := .inr (.inl rfl)
theorem cv2 {t : Ty} : cv (.sl t []) .nils := .inr (.inr (.inl ⟨rfl, t, rfl⟩))
theorem cv3 {a : AV} (h : renA [] a = a) : cv (.clo a) a := .inr (.inr (.inr ⟨rfl, h⟩))
theorem cv_rep {m : Mem} {ρ : List Value} {a' a : AV} {v : Value} (h : cv a' a) (hr : RepA m ρ a v) : RepA m ρ a' v := by
  rcases h with rfl | rfl | ⟨rfl, t, rfl⟩ | ⟨rfl, h⟩
  rotate_left 3
  · simp only [RepA]
    refine ren_fwd (σ := []) (ρ := ρ) (fun i j u hi _ => by simp at hi) a ?_
    rw [h]; exact hr
  · exact hr
  · simp only [RepA]
  · simp only [RepA] at hr
    subst hr
    simp only [RepA, RC]
    exact ⟨none, 0, 0, rfl, rfl, Nat.le_refl _, Nat.zero_le _, 0, 0, fun h => absurd h (by omega), fun i y hy => by simp at hy⟩
def cvL : List AV → List AV → Prop
  | [], [] => True
  | a' :: r, a :: s => cv a' a ∧ cvL r s
  | _, _ => False
theorem cvL_rep {m : Mem} {ρ : List Value} : ∀ {as' bs : List AV} {vs : List Value}, cvL as' bs → RepL m ρ bs vs → RepL m ρ as' vs := by
  intro as'
  induction as' with
  | nil => intro bs vs h hr; cases bs with
    | nil => exact hr
    | cons => exact h.elim
  | cons a as' ih => intro bs vs h hr; cases bs with
    | nil => exact h.elim
    | cons b bs => cases vs with
      | nil => simp [RepL] at hr
      | cons v vs => simp only [RepL] at hr ⊢; exact ⟨cv_rep h.1 hr.1, ih h.2 hr.2⟩

def coeO (H : AH) (σ : List Nat) (d : Nat) : AO → AO
  | .var T cs => .var T (cs.map (coeA H σ d))
  | o => o
def cvO (o' o : AO) : Prop := o' = o ∨ ∃ T cs' cs, o' = .var T cs' ∧ o = .var T cs ∧ cvL cs' cs
theorem cvo0 {o : AO} : cvO o o := .inl rfl
theorem cvo1 {T : TypeId} {cs' cs : List AV} (h : cvL cs' cs) : cvO (.var T cs') (.var T cs) := .inr ⟨T, cs', cs, rfl, rfl, h⟩

/-- All that is known in 'st'' is known in 'st', with the same machine. -/
def Wk (X : Cx) (st st' : AS) : Prop := ∀ fr w m ρ φ, Conc X st fr w m ρ φ → ∃ m' ρ' φ', Conc X st' fr w m' ρ' φ'
theorem Wk.refl {X : Cx} {st : AS} : Wk X st st := fun fr w m ρ φ h => ⟨m, ρ, φ, h⟩
theorem Wk.trans {X : Cx} {a b c : AS} (h : Wk X a b) (k : Wk X b c) : Wk X a c := fun fr w m ρ φ hc => let ⟨_, _, _, h1⟩ := h fr w m ρ φ hc; k _ _ _ _ _ h1

def wkS (l : AFr) (H : AH) (σ : List Nat) (d : Nat) : AFr → Prop
  | [] => True
  | (t, a') :: r => (∃ a, (l.look t).map (coeA H σ d) = some a ∧ cv a' a) ∧ wkS l H σ d r
def wkO (H : AH) (σ : List Nat) (d : Nat) (H' : AH) : Nat → List Nat → Prop
  | _, [] => True
  | j, i :: r => cvO (H'.get j) (coeO H σ d (H.get i)) ∧ wkO H σ d H' (j + 1) r
/-- Objects are named once, the first ones as before. -/
def wkB (k n : Nat) (σ : List Nat) : Bool := nodupB σ && (σ.all fun i => Nat.blt i n) && Nat.ble k σ.length && ((List.range k).all fun i => match σ[i]? with
  | some j => Nat.beq i j
  | none => false)

theorem wkS_get {l : AFr} {H : AH} {σ : List Nat} {d : Nat} : ∀ {l' : AFr}, wkS l H σ d l' → ∀ t a', l'.look t = some a' → ∃ a, l.look t = some a ∧ cv a' (coeA H σ d a) := by
  intro l'
  induction l' with
  | nil => intro _ t a' h; simp [AFr.look] at h
  | cons p r ih =>
    intro h t a' ht
    obtain ⟨q, b⟩ := p
    simp only [wkS] at h
    rw [AFr.look_cons] at ht
    split at ht
    · rename_i e; subst e; cases ht
      obtain ⟨a, h1, h2⟩ := h.1
      obtain ⟨a0, h3, rfl⟩ := Option.map_eq_some_iff.1 h1
      exact ⟨a0, h3, h2⟩
    · exact ih h.2 t a' ht
theorem wkO_get {H : AH} {σ0 : List Nat} {d : Nat} {H' : AH} : ∀ {σ : List Nat} {j : Nat}, wkO H σ0 d H' j σ → ∀ p i, σ[p]? = some i → cvO (H'.get (j + p)) (coeO H σ0 d (H.get i)) := by
  intro σ
  induction σ with
  | nil => intro j _ p i h; simp at h
  | cons a r ih =>
    intro j h p i hi
    simp only [wkO] at h
    cases p with
    | zero => simp at hi; subst hi; exact h.1
    | succ p => rw [show j + (p + 1) = (j + 1) + p by omega]; exact ih h.2 p i (by simpa using hi)

theorem flatMap_getD (φ : List Frag) (σ : List Nat) : (σ.map fun i => φ.getD i []).flatten = σ.flatMap fun i => φ.getD i [] := by
  rw [List.flatMap_def]

theorem slrep_rc {m m' : Mem} (hm : m.le m') {T : TypeId} {t : Ty} {x : List t.den} {v : Value} {f : Frag} (h : SlRep m T t x v f) (hf : ∀ p ∈ f, m' p.1 = some p.2) : RC m' (.slice t) x [v] := by
  obtain ⟨h0, ⟨rfl, rfl, rfl⟩ | ⟨b, c, cs, vs, rfl, rfl, q1, q2, q3, q4, q5⟩⟩ := h
  · simp only [RC]; exact ⟨none, 0, 0, rfl, rfl, Nat.le_refl _, Nat.zero_le _, 0, 0, fun h => absurd h (by omega), fun i y hy => by simp at hy⟩
  · exact rows_slice (hf (b, _) (List.mem_singleton.2 rfl)) (q4.mono hm) q5 q1 h0
theorem RowsO.at {m : Mem} {T : TypeId} {t : Ty} : ∀ {x : List (List t.den)} {rs : List Value} {fs : List Frag}, RowsO m T t x rs fs → rs.length = x.length ∧ fs.length = x.length ∧ ∀ (i : Nat) (y : List t.den), x[i]? = some y → ∃ r f, rs[i]? = some r ∧ fs[i]? = some f ∧ SlRep m T t y r f := by
  intro x
  induction x with
  | nil => intro rs fs h; cases rs with
    | nil => cases fs with
      | nil => exact ⟨rfl, rfl, fun i y hy => by simp at hy⟩
      | cons => exact h.elim
    | cons => exact h.elim
  | cons z x ih => intro rs fs h; cases rs with
    | nil => exact h.elim
    | cons r rs => cases fs with
      | nil => exact h.elim
      | cons f fs =>
        obtain ⟨h1, h2, h3⟩ := ih h.2
        refine ⟨by simp [h1], by simp [h2], fun i y hy => ?_⟩
        cases i with
        | zero => simp at hy; subst hy; exact ⟨r, f, rfl, rfl, h.1⟩
        | succ i => simpa using h3 i y (by simpa using hy)
theorem slo_rc {m m' : Mem} (hm : m.le m') {ρ : List Value} {T T' : TypeId} {t : Ty} {x : List (List t.den)} {v : Value} {rs : List Value} {f : Frag} (h : ORep m ρ (.slo T T' t x) (.tuple (v :: rs).toArray) f) (hf : ∀ p ∈ f, m' p.1 = some p.2) : RC m' (.slice (.slice t)) x [v] := by
  obtain ⟨rs', fs, f0, b, c, cs, h1, rfl, rfl, h4, h5, h6, h7, h8, h9⟩ := h
  simp only [Value.tuple.injEq, List.toArray_inj, List.cons.injEq] at h1
  obtain ⟨rfl, rfl⟩ := h1
  obtain ⟨l1, l2, l3⟩ := h9.at
  refine ⟨_, _, c, rfl, rfl, h5, h4, b, 0, fun _ => rfl, fun i y hy => ?_⟩
  obtain ⟨r, g, k1, k2, k3⟩ := l3 i y hy
  refine ⟨[r], slrep_rc hm k3 (fun p hp => hf p ?_), ?_⟩
  · rw [List.mem_append]; right
    exact List.mem_flatten.2 ⟨g, List.mem_of_getElem? k2, hp⟩
  · intro j u hj
    cases j with
    | succ j => simp at hj
    | zero =>
      simp at hj; subst hj
      refine ⟨cs, T, (0, 0), hf (b, _) (by simp), ?_⟩
      rw [← h8, List.getElem?_take] at k1
      split at k1
      · simpa [Ty.cells] using k1
      · cases k1

theorem coe_rep {m m' : Mem} {ρ ρ' : List Value} {φ : List Frag} {H : AH} {σ : List Nat} (hm : m.le m') (hσ : ∀ i j h, posN σ i = some j → ρ[i]? = some h → ρ'[j]? = some h) (hfz : ∀ i h, posN σ i = none → ρ[i]? = some h → ∃ f, ORep m ρ (H.get i) h f ∧ ∀ p ∈ f, m' p.1 = some p.2) :
    ∀ (d : Nat) {a : AV} {v : Value}, RepA m ρ a v → RepA m' ρ' (coeA H σ d a) v := by
  intro d
  induction d with
  | zero =>
    intro a v h
    cases a with
    | osl i =>
      simp only [coeA]
      simp only [RepA] at h
      cases hp : posN σ i with
      | some j => simp only [RepA]; exact ⟨hσ i j v hp h.1, h.2⟩
      | none =>
        obtain ⟨f, h1, h2⟩ := hfz i v hp h.1
        cases ho : H.get i with
        | sl T t x =>
          rw [ho] at h1
          simp only [RepA]
          obtain ⟨h0, ⟨rfl, rfl, rfl⟩ | ⟨b, c, cs, vs, rfl, rfl, q1, q2, q3, q4, q5⟩⟩ := h1
          · simp only [RC]; exact ⟨none, 0, 0, rfl, rfl, Nat.le_refl _, Nat.zero_le _, 0, 0, fun h => absurd h (by omega), fun i y hy => by simp at hy⟩
          · exact rows_slice (h2 (b, _) (List.mem_singleton.2 rfl)) (q4.mono hm) q5 q1 h0
        | _ => simp only [RepA]
    | map i =>
      simp only [coeA]
      simp only [RepA] at h
      cases hp : posN σ i with
      | some j => simp only [RepA]; exact ⟨hσ i j v hp h.1, h.2⟩
      | none => simp only [RepA]
    | ep i sz z o =>
      simp only [coeA]
      simp only [RepA] at h
      obtain ⟨b, n, c, h1, h2⟩ := h
      cases hp : posN σ i with
      | some j => simp only [RepA]; exact ⟨b, n, c, hσ i j _ hp h1, h2⟩
      | none => simp only [RepA]
    | ptr i o =>
      simp only [coeA]
      simp only [RepA] at h
      obtain ⟨b, h1, h2⟩ := h
      cases hp : posN σ i with
      | some j => simp only [RepA]; exact ⟨b, hσ i j _ hp h1, h2⟩
      | none => simp only [RepA]
    | sog i =>
      simp only [coeA]
      simp only [RepA] at h
      obtain ⟨rs, g1, g2⟩ := h
      cases hp : posN σ i with
      | some j => simp only [RepA]; exact ⟨rs, hσ i j _ hp g1, g2⟩
      | none =>
        obtain ⟨f, h1, h2⟩ := hfz i _ hp g1
        cases ho : H.get i with
        | slo T T' t x =>
          rw [ho] at h1
          simp only [RepA]
          exact slo_rc hm h1 h2
        | _ => simp only [RepA]
    | epg i k =>
      simp only [coeA]
      simp only [RepA] at h
      obtain ⟨b, n, c, rs, h1, h2⟩ := h
      cases hp : posN σ i with
      | some j => simp only [RepA]; exact ⟨b, n, c, rs, hσ i j _ hp h1, h2⟩
      | none => simp only [RepA]
    | row i k =>
      simp only [coeA]
      simp only [RepA] at h
      obtain ⟨hd, rs, h1, h2⟩ := h
      cases hp : posN σ i with
      | some j => simp only [RepA]; exact ⟨hd, rs, hσ i j _ hp h1, h2⟩
      | none => simp only [RepA]
    | epr i k sz z o =>
      simp only [coeA]
      simp only [RepA] at h
      obtain ⟨hd, rs, b, n, c, h1, h2⟩ := h
      cases hp : posN σ i with
      | some j => simp only [RepA]; exact ⟨hd, rs, b, n, c, hσ i j _ hp h1, h2⟩
      | none => simp only [RepA]
    | clo a => simp only [coeA, RepA] at h ⊢; exact RepA.mono hm (fun _ _ h => h) a h
    | rp cs => simp only [coeA, RepA]
    | agg cs => simp only [coeA, RepA]
    | tup cs => simp only [coeA, RepA]
    | fn f a b => simp only [coeA, RepA]
    | sl t x => simp only [coeA, RepA] at h ⊢; exact h.mono hm
    | bad => simp only [RepA] at h
    | any => simp only [coeA, RepA]
    | _ => simpa only [coeA, RepA] using h
  | succ d ih =>
    have ihL : ∀ {as' : List AV} {vs : List Value}, RepL m ρ as' vs → RepL m' ρ' (as'.map (coeA H σ d)) vs := by
      intro as'
      induction as' with
      | nil => intro vs h; cases vs with
        | nil => simp [RepL]
        | cons => simp [RepL] at h
      | cons a as' ih2 => intro vs h; cases vs with
        | nil => simp [RepL] at h
        | cons v vs => simp only [List.map_cons, RepL] at h ⊢; exact ⟨ih h.1, ih2 h.2⟩
    intro a v h
    cases a with
    | osl i =>
      simp only [coeA]
      simp only [RepA] at h
      cases hp : posN σ i with
      | some j => simp only [RepA]; exact ⟨hσ i j v hp h.1, h.2⟩
      | none =>
        obtain ⟨f, h1, h2⟩ := hfz i v hp h.1
        cases ho : H.get i with
        | sl T t x =>
          rw [ho] at h1
          simp only [RepA]
          obtain ⟨h0, ⟨rfl, rfl, rfl⟩ | ⟨b, c, cs, vs, rfl, rfl, q1, q2, q3, q4, q5⟩⟩ := h1
          · simp only [RC]; exact ⟨none, 0, 0, rfl, rfl, Nat.le_refl _, Nat.zero_le _, 0, 0, fun h => absurd h (by omega), fun i y hy => by simp at hy⟩
          · exact rows_slice (h2 (b, _) (List.mem_singleton.2 rfl)) (q4.mono hm) q5 q1 h0
        | _ => simp only [RepA]
    | map i =>
      simp only [coeA]
      simp only [RepA] at h
      cases hp : posN σ i with
      | some j => simp only [RepA]; exact ⟨hσ i j v hp h.1, h.2⟩
      | none => simp only [RepA]
    | ep i sz z o =>
      simp only [coeA]
      simp only [RepA] at h
      obtain ⟨b, n, c, h1, h2⟩ := h
      cases hp : posN σ i with
      | some j => simp only [RepA]; exact ⟨b, n, c, hσ i j _ hp h1, h2⟩
      | none => simp only [RepA]
    | ptr i o =>
      simp only [coeA]
      simp only [RepA] at h
      obtain ⟨b, h1, rfl⟩ := h
      cases hp : posN σ i with
      | some j => simp only [RepA]; exact ⟨b, hσ i j _ hp h1, rfl⟩
      | none =>
        obtain ⟨f, h3, h4⟩ := hfz i _ hp h1
        cases ho : H.get i with
        | var T cs =>
          rw [ho] at h3
          obtain ⟨b', us, q1, rfl, q3, q4⟩ := h3
          cases q1
          simp only [RepA]
          refine ⟨b, o, us.drop o, rfl, ihL (q3.drop o), ?_, fun u hu => q4 u (List.mem_of_mem_drop hu)⟩
          intro j u hj
          rw [List.getElem?_drop] at hj
          exact ⟨_, _, _, h4 (b, _) (List.mem_singleton.2 rfl), by simpa using hj⟩
        | _ => simp only [RepA]
    | sog i =>
      simp only [coeA]
      simp only [RepA] at h
      obtain ⟨rs, g1, g2⟩ := h
      cases hp : posN σ i with
      | some j => simp only [RepA]; exact ⟨rs, hσ i j _ hp g1, g2⟩
      | none =>
        obtain ⟨f, h1, h2⟩ := hfz i _ hp g1
        cases ho : H.get i with
        | slo T T' t x =>
          rw [ho] at h1
          simp only [RepA]
          exact slo_rc hm h1 h2
        | _ => simp only [RepA]
    | epg i k =>
      simp only [coeA]
      simp only [RepA] at h
      obtain ⟨b, n, c, rs, h1, h2⟩ := h
      cases hp : posN σ i with
      | some j => simp only [RepA]; exact ⟨b, n, c, rs, hσ i j _ hp h1, h2⟩
      | none => simp only [RepA]
    | row i k =>
      simp only [coeA]
      simp only [RepA] at h
      obtain ⟨hd, rs, h1, h2⟩ := h
      cases hp : posN σ i with
      | some j => simp only [RepA]; exact ⟨hd, rs, hσ i j _ hp h1, h2⟩
      | none => simp only [RepA]
    | epr i k sz z o =>
      simp only [coeA]
      simp only [RepA] at h
      obtain ⟨hd, rs, b, n, c, h1, h2⟩ := h
      cases hp : posN σ i with
      | some j => simp only [RepA]; exact ⟨hd, rs, b, n, c, hσ i j _ hp h1, h2⟩
      | none => simp only [RepA]
    | clo a => simp only [coeA, RepA] at h ⊢; exact RepA.mono hm (fun _ _ h => h) a h
    | rp cs =>
      simp only [coeA, RepA] at h ⊢
      obtain ⟨b, o, us, h1, h2, h3, h4⟩ := h
      exact ⟨b, o, us, h1, ihL h2, h3.mono hm, h4⟩
    | agg cs =>
      simp only [coeA, RepA] at h ⊢
      obtain ⟨us, h1, h2, h3⟩ := h
      exact ⟨us, h1, ihL h2, h3⟩
    | tup cs =>
      simp only [coeA, RepA] at h ⊢
      obtain ⟨us, h1, h2⟩ := h
      exact ⟨us, h1, ihL h2⟩
    | fn f a b =>
      simp only [coeA, RepA] at h ⊢
      obtain ⟨us, ws, h1, h2, h3⟩ := h
      exact ⟨us, ws, h1, ihL h2, ihL h3⟩
    | sl t x => simp only [coeA, RepA] at h ⊢; exact h.mono hm
    | bad => simp only [RepA] at h
    | any => simp only [coeA, RepA]
    | _ => simpa only [coeA, RepA] using h

theorem wk_of {X : Cx} {k : Nat} (hX : X.ρ.length = k) {st st' : AS} (σ : List Nat) (d : Nat) (hn : Nat.beq st'.n σ.length = true) (hB : wkB k st.n σ = true) (hs : wkS st.l st.H σ d st'.l) (ho : wkO st.H σ d st'.H 0 σ) : Wk X st st' := by
  intro fr w m ρ φ hc
  have hn := Nat.eq_of_beq_eq_true hn
  simp only [wkB, Bool.and_eq_true] at hB
  obtain ⟨⟨⟨hB1, hB2⟩, hB3⟩, hB4⟩ := hB
  have hnd := nodup_of hB1
  have hlt : ∀ i ∈ σ, i < st.n := by
    intro i hi
    rw [List.all_eq_true] at hB2
    simpa using hB2 i hi
  have hk := Nat.le_of_ble_eq_true hB3
  have hpre : ∀ i, i < k → σ[i]? = some i := by
    intro i hi
    rw [List.all_eq_true] at hB4
    have := hB4 i (List.mem_range.2 hi)
    split at this
    · rename_i j hj; rw [hj, Nat.eq_of_beq_eq_true this]
    · cases this
  -- what goes
  let G : Frag := ((List.range st.n).filter fun i => !σ.contains i).flatMap fun i => φ.getD i []
  let φ' : List Frag := σ.map fun i => φ.getD i []
  let ρ' : List Value := σ.map fun i => ρ.getD i undef
  have hperm : (φ.flatten ++ X.F).Perm (G ++ (φ'.flatten ++ X.F)) := by
    rw [← List.append_assoc]
    refine List.Perm.append_right _ ?_
    rw [flatten_range, hc.nφ]
    refine ((range_split hnd hlt).flatMap_right _).trans ?_
    rw [List.flatMap_append]
    refine List.perm_append_comm.trans ?_
    show (G ++ _).Perm (G ++ φ'.flatten)
    rw [show φ'.flatten = σ.flatMap fun i => φ.getD i [] from flatMap_getD φ σ]
  have hsh := hc.sh.perm hperm
  have hnodG := hsh.nd
  have hmem : ∀ p ∈ G, (m.add G) p.1 = some p.2 := by
    intro p hp
    rw [List.map_append, List.nodup_append] at hnodG
    exact add_get hnodG.1 hp (hsh.dis p (by simp [hp]))
  have hle := Mem.le_add m G
  have hgetρ : ∀ i h, ρ[i]? = some h → ρ.getD i undef = h := fun i h hi => by rw [List.getD_eq_getElem?_getD, hi]; rfl
  have hgetφ : ∀ i f, φ[i]? = some f → φ.getD i [] = f := fun i f hi => by rw [List.getD_eq_getElem?_getD, hi]; rfl
  have hσ : ∀ i j h, posN σ i = some j → ρ[i]? = some h → ρ'[j]? = some h := by
    intro i j h hp hi
    have := posN_get hp
    simp only [ρ', List.getElem?_map, this, Option.map_some, hgetρ i h hi]
  have hfz : ∀ i h, posN σ i = none → ρ[i]? = some h → ∃ f, ORep m ρ (st.H.get i) h f ∧ ∀ p ∈ f, (m.add G) p.1 = some p.2 := by
    intro i h hp hi
    obtain ⟨f, hf, h1, _⟩ := hc.obj hi
    refine ⟨f, h1, fun p hpf => hmem p ?_⟩
    simp only [G, List.mem_flatMap, List.mem_filter, List.mem_range, Bool.not_eq_true', List.contains_eq_mem, decide_eq_false_iff_not]
    exact ⟨i, ⟨by rw [← hc.nρ]; exact (List.getElem?_eq_some_iff.1 hi).1, posN_none hp⟩, by rw [hgetφ i f hf]; exact hpf⟩
  have hcoe : ∀ {a : AV} {v : Value}, RepA m ρ a v → RepA (m.add G) ρ' (coeA st.H σ d a) v := fun h => coe_rep (φ := φ) hle hσ hfz d h
  have hcoeL : ∀ {as' : List AV} {vs : List Value}, RepL m ρ as' vs → RepL (m.add G) ρ' (as'.map (coeA st.H σ d)) vs := by
    intro as'
    induction as' with
    | nil => intro vs h; cases vs with
      | nil => simp [RepL]
      | cons => simp [RepL] at h
    | cons a as' ih2 => intro vs h; cases vs with
      | nil => simp [RepL] at h
      | cons v vs => simp only [List.map_cons, RepL] at h ⊢; exact ⟨hcoe h.1, ih2 h.2⟩
  refine ⟨m.add G, ρ', φ', hc.mle.trans hle, ?_, by simp [ρ', hn], by simp [φ', hn], ?_, ?_, hsh.frz⟩
  · intro i h hi
    have h1 := (List.getElem?_eq_some_iff.1 hi).1
    have h2 := hpre i (by omega)
    simp only [ρ', List.getElem?_map, h2, Option.map_some, hgetρ i h (hc.pre i h hi)]
  · intro t a' ht
    obtain ⟨a, h1, h2⟩ := wkS_get hs t a' ht
    obtain ⟨v, h3, h4⟩ := hc.slots t a h1
    exact ⟨v, h3, cv_rep h2 (hcoe h4)⟩
  · intro j h f hj hf
    simp only [ρ', List.getElem?_map, Option.map_eq_some_iff] at hj
    simp only [φ', List.getElem?_map, Option.map_eq_some_iff] at hf
    obtain ⟨i, hi, rfl⟩ := hj
    obtain ⟨i', hi', rfl⟩ := hf
    rw [hi] at hi'; cases hi'
    have hin := hlt i (List.mem_of_getElem? hi)
    obtain ⟨u, hu⟩ : ∃ u, ρ[i]? = some u := ⟨_, List.getElem?_eq_getElem (by rw [hc.nρ]; exact hin)⟩
    obtain ⟨f, hf, h1, _⟩ := hc.obj hu
    rw [hgetρ i u hu, hgetφ i f hf]
    have h2 := wkO_get ho j i hi
    rw [Nat.zero_add] at h2
    have h3 : ORep (m.add G) ρ' (coeO st.H σ d (st.H.get i)) u f := by
      cases hoi : st.H.get i with
      | var T cs =>
        rw [hoi] at h1
        obtain ⟨b, us, q1, q2, q3, q4⟩ := h1
        exact ⟨b, us, q1, q2, hcoeL q3, q4⟩
      | dead => rw [hoi] at h1; exact h1
      | sl T t x =>
        rw [hoi] at h1
        obtain ⟨h0, q | ⟨b, c, cs, vs, q1, q2, q3, q4, q5, q6, q7⟩⟩ := h1
        · exact ⟨h0, .inl q⟩
        · exact ⟨h0, .inr ⟨b, c, cs, vs, q1, q2, q3, q4, q5, q6.mono hle, q7⟩⟩
      | map tk tv x =>
        rw [hoi] at h1
        have h5 : ORep (m.add G) ρ (.map tk tv x) u f := ORep.mono hle (fun _ _ h => h) h1
        exact h5
      | slo T T' t x =>
        rw [hoi] at h1
        have h5 : ORep (m.add G) ρ (.slo T T' t x) u f := ORep.mono hle (fun _ _ h => h) h1
        exact h5
      | guest p =>
        rw [hoi] at h1
        have h5 : ORep (m.add G) ρ (.guest p) u f := ORep.mono hle (fun _ _ h => h) h1
        exact h5
    rcases h2 with h2 | ⟨T, cs', cs, h4, h5, h6⟩
    · rw [h2]; exact h3
    · rw [h4]
      rw [h5] at h3
      obtain ⟨b, us, q1, q2, q3, q4⟩ := h3
      exact ⟨b, us, q1, q2, cvL_rep h6 q3, q4⟩

section
variable {P : Program} {N : Ev} {X : Cx} {Q : APost} {st : AS}
theorem awc_wk {c : Code} {st' : AS} (h : Wk X st st') (k : AWC P N X c Q st') : AWC P N X c Q st := fun fr w m ρ φ hc => let ⟨_, _, _, h1⟩ := h fr w m ρ φ hc; k _ _ _ _ _ h1
theorem awl_wk {ops : Array Oper} {rest : List Oper} {st' : AS} (h : Wk X st st') (k : AWL P N X ops Q rest st') : AWL P N X ops Q rest st := fun fr w m ρ φ hc => let ⟨_, _, _, h1⟩ := h fr w m ρ φ hc; k _ _ _ _ _ h1

/-- A nil slice that the call will own. -/
theorem wk_own {t : Nat} (E : TypeId) (ty : Ty) (hx : st.l.look t = some .nils) : Wk X st (st.new t (.osl st.n) (.sl E ty [])) := by
  intro fr w m ρ φ hc
  obtain ⟨v, h1, h2⟩ := hc.slots t _ hx
  simp only [RepA] at h2
  subst h2
  have h3 := hc.newObj (d := t) (av := .osl st.n) (v := .slice none 0 0) (h := .slice none 0 0) (o := .sl E ty []) (f := []) (Mem.le_refl _) (by simpa using hc.sh) ⟨by simp, .inl ⟨rfl, rfl, rfl⟩⟩ (by simp only [RepA]; exact ⟨by rw [← hc.nρ]; simp, rfl⟩)
  refine ⟨m, _, _, h3.mle, h3.pre, h3.nρ, h3.nφ, ?_, h3.objs, h3.sh⟩
  intro q a hq
  obtain ⟨v, h4, h5⟩ := h3.slots q a hq
  rw [Fr.look_cons] at h4
  split at h4
  · rename_i e; subst e; cases h4; exact ⟨_, h1, h5⟩
  · exact ⟨v, h4, h5⟩

/-! loops -/
/-- Rounds until it is left, at most so many. -/
def lrun {S R : Type} (b : S → Option (S ⊕ R)) : Nat → S → Option R
  | 0, _ => none
  | k + 1, s => (b s).bind fun o => match o with
    | .inl s' => lrun b k s'
    | .inr r => some r
def loopQ {S R : Type} (X : Cx) (Inv : S → AS) (Qx : R → APost) : S ⊕ R → APost
  | .inl s', .normal, st => Wk X st (Inv s')
  | .inl _, _, _ => False
  | .inr _, .normal, _ => False
  | .inr r, e, st => Qx r e st
theorem awc_loop {S R : Type} {c : Code} (Inv : S → AS) (b : S → Option (S ⊕ R)) (Qx : R → APost) {k : Nat} {s : S} {r : R} (hr : lrun b k s = some r) (hi : Wk X st (Inv s)) (hQ : ∀ e st, Qx r e st → Q e st)
    (body : ∀ s o, b s = some o → AWC P N X c (loopQ X Inv Qx o) (Inv s)) : AWC P N X (.loop c) Q st := by
  intro fr w m ρ φ hc
  obtain ⟨m1, ρ1, φ1, h1⟩ := hi fr w m ρ φ hc
  intro a ha hg
  refine wpIn_loopG (fun (x : S × Nat) a w => ∃ fr, lrun b x.2 x.1 = some r ∧ (∃ m ρ φ, Conc X (Inv x.1) fr w m ρ φ) ∧ Holds N fr a ∧ Eng.Good N a w) (fun x => x.2) (s, k) ⟨fr, hr, ⟨_, _, _, h1⟩, ha, hg⟩ ?_
  rintro ⟨s, k⟩ a w ⟨fr, hr, ⟨m, ρ, φ, hc⟩, ha, hg⟩
  cases k with
  | zero => simp [lrun] at hr
  | succ k =>
    simp only [lrun] at hr
    obtain ⟨o, ho, hr⟩ := Option.bind_eq_some_iff.1 hr
    refine wpIn_mono (body s o ho fr w m ρ φ hc a ha hg) ?_
    rintro e a' w' ⟨l', hl', g', st', m', ρ', φ', h2, h3⟩
    cases o with
    | inl s' =>
      cases e with
      | normal =>
        obtain ⟨m2, ρ2, φ2, h4⟩ := h3 _ _ _ _ _ h2
        exact ⟨(s', k), ⟨l', hr, ⟨m2, ρ2, φ2, h4⟩, hl', g'⟩, Nat.lt_succ_self k⟩
      | _ => exact h3.elim
    | inr r' =>
      simp only [Option.some.injEq] at hr
      subst hr
      cases e with
      | normal => exact h3.elim
      | _ => exact ⟨l', hl', g', st', m', ρ', φ', h2, hQ _ _ h3⟩
end
end Go.Ab
