/- Lemmas for a law of the seat: what functions of the program do, each stated as a contract of its own (X2). -/
import Derived.Test.YtclmagkfpijbbaaX1
import Derived.Sort.Grow
import Derived.Sort.Row
import Derived.Scope
import Derived.SizedLaws
import Derived.Deep.Slices
import Derived.Deep.Fields
import Derived.Carry
import Derived.OpenShut
import Derived.Maps.RangeRun
import Derived.Shelf.Strings.Builder1
import Derived.Lib.AppendStr
import Derived.Lib.UnsafeStr
import Derived.Laws.Pointers
set_option linter.unusedVariables false
set_option linter.unusedSimpArgs false
namespace Go.Ab
open Go.RowKit Go.Shelf Go.Proofs Go.Eng

/-! knowing less -/
def posN : List Nat → Nat → Option Nat
  | [], _ => none
  | j :: r, i => bif Nat.beq j i then some 0 else (posN r i).map (· + 1)
theorem posN_get : ∀ {σ : List Nat} {i j : Nat}, posN σ i = some j → σ[j]? = some i := by
  intro σ
  induction σ with
  | nil => intro i j h; simp [posN] at h
  | cons a σ ih =>
    intro i j h
    simp only [posN] at h
    cases hb : Nat.beq a i
    · rw [hb] at h
      simp only [cond_false] at h
      obtain ⟨j', h1, rfl⟩ := Option.map_eq_some_iff.1 h
      simpa using ih h1
    · rw [hb] at h
      simp only [cond_true, Option.some.injEq] at h
      subst h
      simp [Nat.eq_of_beq_eq_true hb]
theorem posN_none : ∀ {σ : List Nat} {i : Nat}, posN σ i = none → i ∉ σ := by
  intro σ
  induction σ with
  | nil => intro i _; simp
  | cons a σ ih =>
    intro i h
    simp only [posN] at h
    cases hb : Nat.beq a i
    · rw [hb] at h
      simp only [cond_false, Option.map_eq_none_iff] at h
      simp only [List.mem_cons, not_or]
      refine ⟨fun e => ?_, ih h⟩
      subst e; simp at hb
    · rw [hb] at h; simp at h

/-- A map of own maps is read alone. -/
theorem mpt_rc {m m' : Mem} {ρ : List Value} (hm : m.le m') {k k2 t : Ty} {x : List (k.den × List (k2.den × t.den))} {h : Value} {f : Frag} (H : ORep m ρ (.mpt k (.mp k2 (.dat t)) x []) h f) (hf : ∀ p ∈ f, ctl p.2 = false → m' p.1 = some p.2) : RC m' (.map k (.map k2 t)) x [h] := by
  obtain ⟨_, _, x', hp, b, es, cl, fs, rfl, rfl, h1, h2, h3, h4⟩ := H
  refine .inr ⟨x', hp, b, es, cl, rfl, hf (b, _) (by simp) rfl, h1, h3.1, h3.2, fun i p e a1 a2 => ?_⟩
  have hl := (List.getElem?_eq_some_iff.1 a1).1
  have a3 : fs[i]? = some (fs[i]'(by omega)) := List.getElem?_eq_getElem _
  have hE := h4 i p e _ a1 a2 a3
  refine ⟨RV.mono hm hE.1.1, ?_⟩
  have hO := hE.2.2 fun n hn => by simp at hn
  obtain ⟨y', hq, b2, es2, cl2, fs2, e1, e2, e3, e4, e5, e6⟩ := hO
  simp only [Ty.agg, Bool.false_eq_true, if_false]
  refine .inr ⟨y', hq, b2, es2, cl2, e1, hf (b2, _) ?_ rfl, e3, e5.1, e5.2, fun j p2 e7 c1 c2 => ?_⟩
  · refine List.mem_cons.2 (.inr (List.mem_flatten.2 ⟨_, List.mem_of_getElem? a3, ?_⟩))
    rw [e2]; simp
  · have hl2 := (List.getElem?_eq_some_iff.1 c1).1
    have c3 : fs2[j]? = some (fs2[j]'(by omega)) := List.getElem?_eq_getElem _
    obtain ⟨g1, us, g2, g3⟩ := e6 j p2 e7 _ c1 c2 c3
    refine ⟨RV.mono hm g1, ?_⟩
    cases ha : t.agg with
    | true => rw [if_pos rfl]; rw [if_pos (show (OT.dat t).aggB = true from ha)] at g2; exact ⟨us, g2, g3.1.mono hm⟩
    | false =>
      rw [if_neg (by simp)]
      rw [if_neg (show ¬ (OT.dat t).aggB = true from by simp [OT.aggB, ha])] at g2
      rw [← g2]; exact g3.1.mono hm
/-- What is seen when but the objects σ stay owned. -/
def coeA (H : AH) (σ : List Nat) : Nat → AV → AV
  | _, .osl i => match posN σ i with
    | some j => .osl j
    | none => match H.get i with
      | .sl _ t x => .sl t x
      | _ => .any
  | _, .map i => match posN σ i with
    | some j => .map j
    | none => match H.get i with
      | .map tk tv x => .dm tk tv x
      | .mpt k (.mp k2 (.dat t)) x [] => .dm k (.map k2 t) x
      | _ => .any
  | _, .ep i sz z o => match posN σ i with
    | some j => .ep j sz z o
    | none => .any
  | 0, .ptr i o => match posN σ i with
    | some j => .ptr j o
    | none => .any
  | d + 1, .ptr i o => match posN σ i with
    | some j => .ptr j o
    | none => match H.get i with
      | .var _ cs => .rp ((cs.drop o).map (coeA H σ d))
      | _ => .any
  | 0, .rp _ => .any
  | 0, .agg _ => .any
  | 0, .tup _ => .any
  | 0, .fn _ _ _ => .any
  | d + 1, .rp cs => .rp (cs.map (coeA H σ d))
  | d + 1, .agg cs => .agg (cs.map (coeA H σ d))
  | d + 1, .tup cs => .tup (cs.map (coeA H σ d))
  | d + 1, .fn f a b => .fn f (a.map (coeA H σ d)) (b.map (coeA H σ d))
  | _, .sog i => match posN σ i with
    | some j => .sog j
    | none => match H.get i with
      | .slo _ _ t x => .sl (.slice t) x
      | _ => .any
  | _, .epg i k => match posN σ i with
    | some j => .epg j k
    | none => .any
  | _, .row i k => match posN σ i with
    | some j => .row j k
    | none => .any
  | _, .epr i k sz z o => match posN σ i with
    | some j => .epr j k sz z o
    | none => .any
  | _, a => a

/-- A weaker view. -/
def cv (a' a : AV) : Prop := a' = a ∨ a' = .any ∨ (a = .nils ∧ ∃ t, a' = .sl t []) ∨ (a' = .clo a ∧ renA [] a = a) ∨ (∃ t, a = .nilp ∧ a' = .pd t none) ∨ (∃ (t : Ty) (y : t.den), a = .rp (expl t y) ∧ a' = .pd t (some y) ∧ t.fit y = true) ∨ (∃ i, a = .ptr i 0 ∧ a' = .map i) ∨ (∃ tk tv, a = .nilm ∧ a' = .dm tk tv [])
theorem cv0 {a : AV} : cv a a := .inl rfl
theorem cv1 {a : AV} : cv .any a := .inr (.inl rfl)
theorem cv2 {t : Ty} : cv (.sl t []) .nils := .inr (.inr (.inl ⟨rfl, t, rfl⟩))
theorem cv3 {a : AV} (h : renA [] a = a) : cv (.clo a) a := .inr (.inr (.inr (.inl ⟨rfl, h⟩)))
theorem cv7 {tk tv : Ty} : cv (.dm tk tv []) .nilm := .inr (.inr (.inr (.inr (.inr (.inr (.inr ⟨tk, tv, rfl, rfl⟩))))))
theorem cv_rep {m : Mem} {ρ : List Value} {a' a : AV} {v : Value} (h : cv a' a) (hr : RepA m ρ a v) : RepA m ρ a' v := by
  rcases h with rfl | rfl | ⟨rfl, t, rfl⟩ | ⟨rfl, h⟩ | ⟨t, rfl, rfl⟩ | ⟨t, y, rfl, rfl, hf⟩ | ⟨i, rfl, rfl⟩ | ⟨tk, tv, rfl, rfl⟩
  rotate_left 4
  · simp only [RepA] at hr ⊢; subst hr; exact .inl ⟨rfl, rfl⟩
  · simp only [RepA] at hr ⊢
    obtain ⟨b, o, us, rfl, h2, h3, h4⟩ := hr
    exact .inr ⟨y, b, o, us, rfl, rfl, rc_of_expl hf h2, h3⟩
  · simp only [RepA] at hr ⊢
    obtain ⟨b, h1, rfl⟩ := hr
    exact ⟨h1, rfl⟩
  · simp only [RepA] at hr ⊢; subst hr; exact .inl ⟨rfl, rfl⟩
  rotate_left 3
  · simp only [RepA]
    refine ren_fwd (σ := []) (ρ := ρ) (fun i j u hi _ => by simp at hi) a ?_
    rw [h]; exact hr
  · exact hr
  · simp only [RepA]
  · simp only [RepA] at hr
    subst hr
    simp only [RepA, RC]
    exact ⟨none, 0, 0, rfl, rfl, Nat.le_refl _, Nat.zero_le _, 0, 0, fun h => absurd h (by omega), fun i y hy => by simp at hy⟩
def cvL : List AV → List AV → Prop
  | [], [] => True
  | a' :: r, a :: s => cv a' a ∧ cvL r s
  | _, _ => False
theorem cvL_rep {m : Mem} {ρ : List Value} : ∀ {as' bs : List AV} {vs : List Value}, cvL as' bs → RepL m ρ bs vs → RepL m ρ as' vs := by
  intro as'
  induction as' with
  | nil => intro bs vs h hr; cases bs with
    | nil => exact hr
    | cons => exact h.elim
  | cons a as' ih => intro bs vs h hr; cases bs with
    | nil => exact h.elim
    | cons b bs => cases vs with
      | nil => simp [RepL] at hr
      | cons v vs => simp only [RepL] at hr ⊢; exact ⟨cv_rep h.1 hr.1, ih h.2 hr.2⟩

def coeO (H : AH) (σ : List Nat) (d : Nat) : AO → AO
  | .var T cs => .var T (cs.map (coeA H σ d))
  | .mpt k v x hs => if hs.all (fun q => (posN σ q.2).isSome) then .mpt k v x (hs.map fun q => (q.1, (posN σ q.2).getD 0)) else .guest fun _ _ => True
  | .mapr tk tv x left cur j => match posN σ j with
    | some j' => .mapr tk tv x left cur j'
    | none => .guest fun _ _ => True
  | .sloh .. => .guest fun _ _ => True
  | o => o
def cvO (o' o : AO) : Prop := o' = o ∨ ∃ T cs' cs, o' = .var T cs' ∧ o = .var T cs ∧ cvL cs' cs
theorem cvo0 {o : AO} : cvO o o := .inl rfl
/-- All that is known in 'st'' is known in 'st', with the same machine. -/
def Wk (X : Cx) (st st' : AS) : Prop := ∀ fr w m ρ φ, Conc X st fr w m ρ φ → ∃ m' ρ' φ', Conc X st' fr w m' ρ' φ'
theorem Wk.refl {X : Cx} {st : AS} : Wk X st st := fun fr w m ρ φ h => ⟨m, ρ, φ, h⟩
theorem Wk.trans {X : Cx} {a b c : AS} (h : Wk X a b) (k : Wk X b c) : Wk X a c := fun fr w m ρ φ hc => let ⟨_, _, _, h1⟩ := h fr w m ρ φ hc; k _ _ _ _ _ h1

def wkS (l : AFr) (H : AH) (σ : List Nat) (d : Nat) : AFr → Prop
  | [] => True
  | (t, a') :: r => (∃ a, (l.look t).map (coeA H σ d) = some a ∧ cv a' a) ∧ wkS l H σ d r
def wkO (H : AH) (σ : List Nat) (d : Nat) (H' : AH) : Nat → List Nat → Prop
  | _, [] => True
  | j, i :: r => cvO (H'.get j) (coeO H σ d (H.get i)) ∧ wkO H σ d H' (j + 1) r
/-- Objects are named once, the first ones as before. -/
def wkB (k n : Nat) (σ : List Nat) : Bool := nodupB σ && (σ.all fun i => Nat.blt i n) && Nat.ble k σ.length && ((List.range k).all fun i => match σ[i]? with
  | some j => Nat.beq i j
  | none => false)

theorem wkS_get {l : AFr} {H : AH} {σ : List Nat} {d : Nat} : ∀ {l' : AFr}, wkS l H σ d l' → ∀ t a', l'.look t = some a' → ∃ a, l.look t = some a ∧ cv a' (coeA H σ d a) := by
  intro l'
  induction l' with
  | nil => intro _ t a' h; simp [AFr.look] at h
  | cons p r ih =>
    intro h t a' ht
    obtain ⟨q, b⟩ := p
    simp only [wkS] at h
    rw [AFr.look_cons] at ht
    split at ht
    · rename_i e; subst e; cases ht
      obtain ⟨a, h1, h2⟩ := h.1
      obtain ⟨a0, h3, rfl⟩ := Option.map_eq_some_iff.1 h1
      exact ⟨a0, h3, h2⟩
    · exact ih h.2 t a' ht
theorem wkO_get {H : AH} {σ0 : List Nat} {d : Nat} {H' : AH} : ∀ {σ : List Nat} {j : Nat}, wkO H σ0 d H' j σ → ∀ p i, σ[p]? = some i → cvO (H'.get (j + p)) (coeO H σ0 d (H.get i)) := by
  intro σ
  induction σ with
  | nil => intro j _ p i h; simp at h
  | cons a r ih =>
    intro j h p i hi
    simp only [wkO] at h
    cases p with
    | zero => simp at hi; subst hi; exact h.1
    | succ p => rw [show j + (p + 1) = (j + 1) + p by omega]; exact ih h.2 p i (by simpa using hi)

theorem flatMap_getD (φ : List Frag) (σ : List Nat) : (σ.map fun i => φ.getD i []).flatten = σ.flatMap fun i => φ.getD i [] := by
  rw [List.flatMap_def]

theorem slrep_rc {m m' : Mem} (hm : m.le m') {T : TypeId} {t : Ty} {x : List t.den} {v : Value} {f : Frag} (h : SlRep m T t x v f) (hf : ∀ p ∈ f, ctl p.2 = false → m' p.1 = some p.2) : RC m' (.slice t) x [v] := by
  obtain ⟨h0, ⟨rfl, rfl, rfl⟩ | ⟨b, c, cs, vs, rfl, rfl, q1, q2, q3, q4, q5⟩⟩ := h
  · simp only [RC]; exact ⟨none, 0, 0, rfl, rfl, Nat.le_refl _, Nat.zero_le _, 0, 0, fun h => absurd h (by omega), fun i y hy => by simp at hy⟩
  · exact rows_slice (hf (b, _) (List.mem_singleton.2 rfl) rfl) (q4.mono hm) q5 q1 h0
theorem RowsO.at {m : Mem} {T : TypeId} {t : Ty} : ∀ {x : List (List t.den)} {rs : List Value} {fs : List Frag}, RowsO m T t x rs fs → rs.length = x.length ∧ fs.length = x.length ∧ ∀ (i : Nat) (y : List t.den), x[i]? = some y → ∃ r f, rs[i]? = some r ∧ fs[i]? = some f ∧ SlRep m T t y r f := by
  intro x
  induction x with
  | nil => intro rs fs h; cases rs with
    | nil => cases fs with
      | nil => exact ⟨rfl, rfl, fun i y hy => by simp at hy⟩
      | cons => exact h.elim
    | cons => exact h.elim
  | cons z x ih => intro rs fs h; cases rs with
    | nil => exact h.elim
    | cons r rs => cases fs with
      | nil => exact h.elim
      | cons f fs =>
        obtain ⟨h1, h2, h3⟩ := ih h.2
        refine ⟨by simp [h1], by simp [h2], fun i y hy => ?_⟩
        cases i with
        | zero => simp at hy; subst hy; exact ⟨r, f, rfl, rfl, h.1⟩
        | succ i => simpa using h3 i y (by simpa using hy)
theorem slo_rc {m m' : Mem} (hm : m.le m') {ρ : List Value} {T T' : TypeId} {t : Ty} {x : List (List t.den)} {v : Value} {rs : List Value} {f : Frag} (h : ORep m ρ (.slo T T' t x) (.tuple (v :: rs).toArray) f) (hf : ∀ p ∈ f, ctl p.2 = false → m' p.1 = some p.2) : RC m' (.slice (.slice t)) x [v] := by
  obtain ⟨rs', fs, f0, b, c, cs, h1, rfl, rfl, h4, h5, h6, h7, h8, h9⟩ := h
  simp only [Value.tuple.injEq, List.toArray_inj, List.cons.injEq] at h1
  obtain ⟨rfl, rfl⟩ := h1
  obtain ⟨l1, l2, l3⟩ := h9.at
  refine ⟨_, _, c, rfl, rfl, h5, h4, b, 0, fun _ => rfl, fun i y hy => ?_⟩
  obtain ⟨r, g, k1, k2, k3⟩ := l3 i y hy
  refine ⟨[r], slrep_rc hm k3 (fun p hp hpc => hf p ?_ hpc), ?_⟩
  · rw [List.mem_append]; right
    exact List.mem_flatten.2 ⟨g, List.mem_of_getElem? k2, hp⟩
  · intro j u hj
    cases j with
    | succ j => simp at hj
    | zero =>
      simp at hj; subst hj
      refine ⟨cs, T, (0, 0), hf (b, _) (by simp) rfl, ?_⟩
      rw [← h8, List.getElem?_take] at k1
      split at k1
      · simpa [Ty.cells] using k1
      · cases k1

theorem coe_rep {m m' : Mem} {ρ ρ' : List Value} {φ : List Frag} {H : AH} {σ : List Nat} (hm : m.le m') (hσ : ∀ i j h, posN σ i = some j → ρ[i]? = some h → ρ'[j]? = some h) (hfz : ∀ i h, posN σ i = none → ρ[i]? = some h → ∃ f, ORep m ρ (H.get i) h f ∧ ∀ p ∈ f, ctl p.2 = false → m' p.1 = some p.2) :
    ∀ (d : Nat) {a : AV} {v : Value}, RepA m ρ a v → RepA m' ρ' (coeA H σ d a) v := by
  intro d
  induction d with
  | zero =>
    intro a v h
    cases a with
    | osl i =>
      simp only [coeA]
      simp only [RepA] at h
      cases hp : posN σ i with
      | some j => simp only [RepA]; exact ⟨hσ i j v hp h.1, h.2⟩
      | none =>
        obtain ⟨f, h1, h2⟩ := hfz i v hp h.1
        cases ho : H.get i with
        | sl T t x =>
          rw [ho] at h1
          simp only [RepA]
          obtain ⟨h0, ⟨rfl, rfl, rfl⟩ | ⟨b, c, cs, vs, rfl, rfl, q1, q2, q3, q4, q5⟩⟩ := h1
          · simp only [RC]; exact ⟨none, 0, 0, rfl, rfl, Nat.le_refl _, Nat.zero_le _, 0, 0, fun h => absurd h (by omega), fun i y hy => by simp at hy⟩
          · exact rows_slice (h2 (b, _) (List.mem_singleton.2 rfl) rfl) (q4.mono hm) q5 q1 h0
        | _ => simp only [RepA]
    | map i =>
      simp only [coeA]
      simp only [RepA] at h
      cases hp : posN σ i with
      | some j => simp only [RepA]; exact ⟨hσ i j v hp h.1, h.2⟩
      | none =>
        obtain ⟨f, h1, h2⟩ := hfz i v hp h.1
        cases ho : H.get i with
        | map tk tv x =>
          rw [ho] at h1
          obtain ⟨x', hp', b, es, cl, rfl, rfl, h3⟩ := h1
          simp only [RepA]
          exact .inr ⟨x', hp', b, es, cl, rfl, h2 (b, _) (List.mem_singleton.2 rfl) rfl, EntM.mono hm (x := x') h3⟩
        | mpt k v x hs =>
          rw [ho] at h1
          cases v with
          | mp k2 v =>
            cases v with
            | dat t =>
              cases hs with
              | nil => simp only [RepA]; exact mpt_rc hm h1 h2
              | cons => simp only [RepA]
            | _ => simp only [RepA]
          | _ => simp only [RepA]
        | _ => simp only [RepA]
    | ep i sz z o =>
      simp only [coeA]
      simp only [RepA] at h
      obtain ⟨b, n, c, h1, h2⟩ := h
      cases hp : posN σ i with
      | some j => simp only [RepA]; exact ⟨b, n, c, hσ i j _ hp h1, h2⟩
      | none => simp only [RepA]
    | ptr i o =>
      simp only [coeA]
      simp only [RepA] at h
      obtain ⟨b, h1, h2⟩ := h
      cases hp : posN σ i with
      | some j => simp only [RepA]; exact ⟨b, hσ i j _ hp h1, h2⟩
      | none => simp only [RepA]
    | sog i =>
      simp only [coeA]
      simp only [RepA] at h
      obtain ⟨rs, g1, g2⟩ := h
      cases hp : posN σ i with
      | some j => simp only [RepA]; exact ⟨rs, hσ i j _ hp g1, g2⟩
      | none =>
        obtain ⟨f, h1, h2⟩ := hfz i _ hp g1
        cases ho : H.get i with
        | slo T T' t x =>
          rw [ho] at h1
          simp only [RepA]
          exact slo_rc hm h1 h2
        | _ => simp only [RepA]
    | epg i k =>
      simp only [coeA]
      simp only [RepA] at h
      obtain ⟨b, n, c, rs, h1, h2⟩ := h
      cases hp : posN σ i with
      | some j => simp only [RepA]; exact ⟨b, n, c, rs, hσ i j _ hp h1, h2⟩
      | none => simp only [RepA]
    | row i k =>
      simp only [coeA]
      simp only [RepA] at h
      obtain ⟨hd, rs, h1, h2⟩ := h
      cases hp : posN σ i with
      | some j => simp only [RepA]; exact ⟨hd, rs, hσ i j _ hp h1, h2⟩
      | none => simp only [RepA]
    | epr i k sz z o =>
      simp only [coeA]
      simp only [RepA] at h
      obtain ⟨hd, rs, b, n, c, h1, h2⟩ := h
      cases hp : posN σ i with
      | some j => simp only [RepA]; exact ⟨hd, rs, b, n, c, hσ i j _ hp h1, h2⟩
      | none => simp only [RepA]
    | clo a => simp only [coeA, RepA] at h ⊢; exact RepA.mono hm (fun _ _ h => h) a h
    | rp cs => simp only [coeA, RepA]
    | agg cs => simp only [coeA, RepA]
    | tup cs => simp only [coeA, RepA]
    | fn f a b => simp only [coeA, RepA]
    | sl t x => simp only [coeA, RepA] at h ⊢; exact h.mono hm
    | dm tk tv x => simp only [coeA, RepA] at h ⊢; exact h.mono hm
    | pd t x => simp only [coeA, RepA] at h ⊢; exact h.mono hm
    | bad => simp only [RepA] at h
    | any => simp only [coeA, RepA]
    | _ => simpa only [coeA, RepA] using h
  | succ d ih =>
    have ihL : ∀ {as' : List AV} {vs : List Value}, RepL m ρ as' vs → RepL m' ρ' (as'.map (coeA H σ d)) vs := by
      intro as'
      induction as' with
      | nil => intro vs h; cases vs with
        | nil => simp [RepL]
        | cons => simp [RepL] at h
      | cons a as' ih2 => intro vs h; cases vs with
        | nil => simp [RepL] at h
        | cons v vs => simp only [List.map_cons, RepL] at h ⊢; exact ⟨ih h.1, ih2 h.2⟩
    intro a v h
    cases a with
    | osl i =>
      simp only [coeA]
      simp only [RepA] at h
      cases hp : posN σ i with
      | some j => simp only [RepA]; exact ⟨hσ i j v hp h.1, h.2⟩
      | none =>
        obtain ⟨f, h1, h2⟩ := hfz i v hp h.1
        cases ho : H.get i with
        | sl T t x =>
          rw [ho] at h1
          simp only [RepA]
          obtain ⟨h0, ⟨rfl, rfl, rfl⟩ | ⟨b, c, cs, vs, rfl, rfl, q1, q2, q3, q4, q5⟩⟩ := h1
          · simp only [RC]; exact ⟨none, 0, 0, rfl, rfl, Nat.le_refl _, Nat.zero_le _, 0, 0, fun h => absurd h (by omega), fun i y hy => by simp at hy⟩
          · exact rows_slice (h2 (b, _) (List.mem_singleton.2 rfl) rfl) (q4.mono hm) q5 q1 h0
        | _ => simp only [RepA]
    | map i =>
      simp only [coeA]
      simp only [RepA] at h
      cases hp : posN σ i with
      | some j => simp only [RepA]; exact ⟨hσ i j v hp h.1, h.2⟩
      | none =>
        obtain ⟨f, h1, h2⟩ := hfz i v hp h.1
        cases ho : H.get i with
        | map tk tv x =>
          rw [ho] at h1
          obtain ⟨x', hp', b, es, cl, rfl, rfl, h3⟩ := h1
          simp only [RepA]
          exact .inr ⟨x', hp', b, es, cl, rfl, h2 (b, _) (List.mem_singleton.2 rfl) rfl, EntM.mono hm (x := x') h3⟩
        | mpt k v x hs =>
          rw [ho] at h1
          cases v with
          | mp k2 v =>
            cases v with
            | dat t =>
              cases hs with
              | nil => simp only [RepA]; exact mpt_rc hm h1 h2
              | cons => simp only [RepA]
            | _ => simp only [RepA]
          | _ => simp only [RepA]
        | _ => simp only [RepA]
    | ep i sz z o =>
      simp only [coeA]
      simp only [RepA] at h
      obtain ⟨b, n, c, h1, h2⟩ := h
      cases hp : posN σ i with
      | some j => simp only [RepA]; exact ⟨b, n, c, hσ i j _ hp h1, h2⟩
      | none => simp only [RepA]
    | ptr i o =>
      simp only [coeA]
      simp only [RepA] at h
      obtain ⟨b, h1, rfl⟩ := h
      cases hp : posN σ i with
      | some j => simp only [RepA]; exact ⟨b, hσ i j _ hp h1, rfl⟩
      | none =>
        obtain ⟨f, h3, h4⟩ := hfz i _ hp h1
        cases ho : H.get i with
        | var T cs =>
          rw [ho] at h3
          obtain ⟨b', us, q1, rfl, q3, q4⟩ := h3
          cases q1
          simp only [RepA]
          refine ⟨b, o, us.drop o, rfl, ihL (q3.drop o), ?_, fun u hu => q4 u (List.mem_of_mem_drop hu)⟩
          intro j u hj
          rw [List.getElem?_drop] at hj
          exact ⟨_, _, _, h4 (b, _) (List.mem_singleton.2 rfl) rfl, by simpa using hj⟩
        | _ => simp only [RepA]
    | sog i =>
      simp only [coeA]
      simp only [RepA] at h
      obtain ⟨rs, g1, g2⟩ := h
      cases hp : posN σ i with
      | some j => simp only [RepA]; exact ⟨rs, hσ i j _ hp g1, g2⟩
      | none =>
        obtain ⟨f, h1, h2⟩ := hfz i _ hp g1
        cases ho : H.get i with
        | slo T T' t x =>
          rw [ho] at h1
          simp only [RepA]
          exact slo_rc hm h1 h2
        | _ => simp only [RepA]
    | epg i k =>
      simp only [coeA]
      simp only [RepA] at h
      obtain ⟨b, n, c, rs, h1, h2⟩ := h
      cases hp : posN σ i with
      | some j => simp only [RepA]; exact ⟨b, n, c, rs, hσ i j _ hp h1, h2⟩
      | none => simp only [RepA]
    | row i k =>
      simp only [coeA]
      simp only [RepA] at h
      obtain ⟨hd, rs, h1, h2⟩ := h
      cases hp : posN σ i with
      | some j => simp only [RepA]; exact ⟨hd, rs, hσ i j _ hp h1, h2⟩
      | none => simp only [RepA]
    | epr i k sz z o =>
      simp only [coeA]
      simp only [RepA] at h
      obtain ⟨hd, rs, b, n, c, h1, h2⟩ := h
      cases hp : posN σ i with
      | some j => simp only [RepA]; exact ⟨hd, rs, b, n, c, hσ i j _ hp h1, h2⟩
      | none => simp only [RepA]
    | clo a => simp only [coeA, RepA] at h ⊢; exact RepA.mono hm (fun _ _ h => h) a h
    | rp cs =>
      simp only [coeA, RepA] at h ⊢
      obtain ⟨b, o, us, h1, h2, h3, h4⟩ := h
      exact ⟨b, o, us, h1, ihL h2, h3.mono hm, h4⟩
    | agg cs =>
      simp only [coeA, RepA] at h ⊢
      obtain ⟨us, h1, h2, h3⟩ := h
      exact ⟨us, h1, ihL h2, h3⟩
    | tup cs =>
      simp only [coeA, RepA] at h ⊢
      obtain ⟨us, h1, h2⟩ := h
      exact ⟨us, h1, ihL h2⟩
    | fn f a b =>
      simp only [coeA, RepA] at h ⊢
      obtain ⟨us, ws, h1, h2, h3⟩ := h
      exact ⟨us, ws, h1, ihL h2, ihL h3⟩
    | sl t x => simp only [coeA, RepA] at h ⊢; exact h.mono hm
    | dm tk tv x => simp only [coeA, RepA] at h ⊢; exact h.mono hm
    | pd t x => simp only [coeA, RepA] at h ⊢; exact h.mono hm
    | bad => simp only [RepA] at h
    | any => simp only [coeA, RepA]
    | _ => simpa only [coeA, RepA] using h

theorem wk_of {X : Cx} {k : Nat} (hX : X.ρ.length = k) {st st' : AS} (σ : List Nat) (d : Nat) (hn : Nat.beq st'.n σ.length = true) (hB : wkB k st.n σ = true) (hs : wkS st.l st.H σ d st'.l) (ho : wkO st.H σ d st'.H 0 σ) : Wk X st st' := by
  intro fr w m ρ φ hc
  have hn := Nat.eq_of_beq_eq_true hn
  simp only [wkB, Bool.and_eq_true] at hB
  obtain ⟨⟨⟨hB1, hB2⟩, hB3⟩, hB4⟩ := hB
  have hnd := nodup_of hB1
  have hlt : ∀ i ∈ σ, i < st.n := by
    intro i hi
    rw [List.all_eq_true] at hB2
    simpa using hB2 i hi
  have hk := Nat.le_of_ble_eq_true hB3
  have hpre : ∀ i, i < k → σ[i]? = some i := by
    intro i hi
    rw [List.all_eq_true] at hB4
    have := hB4 i (List.mem_range.2 hi)
    split at this
    · rename_i j hj; rw [hj, Nat.eq_of_beq_eq_true this]
    · cases this
  -- what goes
  let G : Frag := ((List.range st.n).filter fun i => !σ.contains i).flatMap fun i => φ.getD i []
  let φ' : List Frag := σ.map fun i => φ.getD i []
  let ρ' : List Value := σ.map fun i => ρ.getD i undef
  have hperm : (φ.flatten ++ X.F).Perm (G ++ (φ'.flatten ++ X.F)) := by
    rw [← List.append_assoc]
    refine List.Perm.append_right _ ?_
    rw [flatten_range, hc.nφ]
    refine ((range_split hnd hlt).flatMap_right _).trans ?_
    rw [List.flatMap_append]
    refine List.perm_append_comm.trans ?_
    show (G ++ _).Perm (G ++ φ'.flatten)
    rw [show φ'.flatten = σ.flatMap fun i => φ.getD i [] from flatMap_getD φ σ]
  have hsh := hc.sh.perm hperm
  have hnodG := hsh.nd
  have hmem : ∀ p ∈ G, ctl p.2 = false → (m.add G) p.1 = some p.2 := by
    intro p hp hpc
    rw [List.map_append, List.nodup_append] at hnodG
    exact add_get hnodG.1 hp (hsh.dis p (by simp [hp])) hpc
  have hle := Mem.le_add m G
  have hgetρ : ∀ i h, ρ[i]? = some h → ρ.getD i undef = h := fun i h hi => by rw [List.getD_eq_getElem?_getD, hi]; rfl
  have hgetφ : ∀ i f, φ[i]? = some f → φ.getD i [] = f := fun i f hi => by rw [List.getD_eq_getElem?_getD, hi]; rfl
  have hσ : ∀ i j h, posN σ i = some j → ρ[i]? = some h → ρ'[j]? = some h := by
    intro i j h hp hi
    have := posN_get hp
    simp only [ρ', List.getElem?_map, this, Option.map_some, hgetρ i h hi]
  have hfz : ∀ i h, posN σ i = none → ρ[i]? = some h → ∃ f, ORep m ρ (st.H.get i) h f ∧ ∀ p ∈ f, ctl p.2 = false → (m.add G) p.1 = some p.2 := by
    intro i h hp hi
    obtain ⟨f, hf, h1, _⟩ := hc.obj hi
    refine ⟨f, h1, fun p hpf hpc => hmem p ?_ hpc⟩
    simp only [G, List.mem_flatMap, List.mem_filter, List.mem_range, Bool.not_eq_true', List.contains_eq_mem, decide_eq_false_iff_not]
    exact ⟨i, ⟨by rw [← hc.nρ]; exact (List.getElem?_eq_some_iff.1 hi).1, posN_none hp⟩, by rw [hgetφ i f hf]; exact hpf⟩
  have hcoe : ∀ {a : AV} {v : Value}, RepA m ρ a v → RepA (m.add G) ρ' (coeA st.H σ d a) v := fun h => coe_rep (φ := φ) hle hσ hfz d h
  have hcoeL : ∀ {as' : List AV} {vs : List Value}, RepL m ρ as' vs → RepL (m.add G) ρ' (as'.map (coeA st.H σ d)) vs := by
    intro as'
    induction as' with
    | nil => intro vs h; cases vs with
      | nil => simp [RepL]
      | cons => simp [RepL] at h
    | cons a as' ih2 => intro vs h; cases vs with
      | nil => simp [RepL] at h
      | cons v vs => simp only [List.map_cons, RepL] at h ⊢; exact ⟨hcoe h.1, ih2 h.2⟩
  refine ⟨m.add G, ρ', φ', hc.mle.trans hle, ?_, by simp [ρ', hn], by simp [φ', hn], ?_, ?_, hsh.frz⟩
  · intro i h hi
    have h1 := (List.getElem?_eq_some_iff.1 hi).1
    have h2 := hpre i (by omega)
    simp only [ρ', List.getElem?_map, h2, Option.map_some, hgetρ i h (hc.pre i h hi)]
  · intro t a' ht
    obtain ⟨a, h1, h2⟩ := wkS_get hs t a' ht
    obtain ⟨v, h3, h4⟩ := hc.slots t a h1
    exact ⟨v, h3, cv_rep h2 (hcoe h4)⟩
  · intro j h f hj hf
    simp only [ρ', List.getElem?_map, Option.map_eq_some_iff] at hj
    simp only [φ', List.getElem?_map, Option.map_eq_some_iff] at hf
    obtain ⟨i, hi, rfl⟩ := hj
    obtain ⟨i', hi', rfl⟩ := hf
    rw [hi] at hi'; cases hi'
    have hin := hlt i (List.mem_of_getElem? hi)
    obtain ⟨u, hu⟩ : ∃ u, ρ[i]? = some u := ⟨_, List.getElem?_eq_getElem (by rw [hc.nρ]; exact hin)⟩
    obtain ⟨f, hf, h1, _⟩ := hc.obj hu
    rw [hgetρ i u hu, hgetφ i f hf]
    have h2 := wkO_get ho j i hi
    rw [Nat.zero_add] at h2
    have h3 : ORep (m.add G) ρ' (coeO st.H σ d (st.H.get i)) u f := by
      cases hoi : st.H.get i with
      | var T cs =>
        rw [hoi] at h1
        obtain ⟨b, us, q1, q2, q3, q4⟩ := h1
        exact ⟨b, us, q1, q2, hcoeL q3, q4⟩
      | dead => rw [hoi] at h1; exact h1
      | sl T t x =>
        rw [hoi] at h1
        obtain ⟨h0, q | ⟨b, c, cs, vs, q1, q2, q3, q4, q5, q6, q7⟩⟩ := h1
        · exact ⟨h0, .inl q⟩
        · exact ⟨h0, .inr ⟨b, c, cs, vs, q1, q2, q3, q4, q5, q6.mono hle, q7⟩⟩
      | map tk tv x =>
        rw [hoi] at h1
        have h5 : ORep (m.add G) ρ (.map tk tv x) u f := ORep.mono hle (fun _ _ h => h) h1
        exact h5
      | slo T T' t x =>
        rw [hoi] at h1
        have h5 : ORep (m.add G) ρ (.slo T T' t x) u f := ORep.mono hle (fun _ _ h => h) h1
        exact h5
      | guest p =>
        rw [hoi] at h1
        have h5 : ORep (m.add G) ρ (.guest p) u f := ORep.mono hle (fun _ _ h => h) h1
        exact h5
      | bld T E s => rw [hoi] at h1; exact h1
      | tr o x =>
        rw [hoi] at h1
        have h5 : ORep (m.add G) ρ (.tr o x) u f := ORep.mono hle (fun _ _ h => h) h1
        exact h5
      | sloh => exact ⟨_, hle, trivial⟩
      | mit tk tv left cur =>
        rw [hoi] at h1
        have h5 : ORep (m.add G) ρ (.mit tk tv left cur) u f := ORep.mono hle (fun _ _ h => h) h1
        exact h5
      | mapr tk tv x left cur j =>
        rw [hoi] at h1
        have h5 : ORep (m.add G) ρ (.mapr tk tv x left cur j) u f := ORep.mono hle (fun _ _ h => h) h1
        simp only [coeO]
        split
        · rename_i j' hj'
          obtain ⟨x', hp', b, es, cl, r, since, c0, seen, q1, q2, q3, q4⟩ := h5
          exact ⟨x', hp', b, es, cl, r, since, c0, seen, q1, q2, hσ _ _ _ hj' q3, q4⟩
        · exact ⟨_, hle, trivial⟩
      | mpt k v x hs =>
        rw [hoi] at h1
        have h5 : ORep (m.add G) ρ (.mpt k v x hs) u f := ORep.mono hle (fun _ _ h => h) h1
        simp only [coeO]
        split
        · rename_i hall
          rw [List.all_eq_true] at hall
          obtain ⟨h0, h00, x', hp', b, es, cl, fs, q1, q2, q3, q4, q5, q6⟩ := h5
          have key : ∀ (z : k.den) (j : Nat), (z, j) ∈ hs.map (fun q => (q.1, (posN σ q.2).getD 0)) → ∃ n, (z, n) ∈ hs ∧ ∀ u, ρ[n]? = some u → ρ'[j]? = some u := by
            intro z j hz
            obtain ⟨q, hq, he⟩ := List.mem_map.1 hz
            rw [Prod.mk.injEq] at he
            refine ⟨q.2, by rw [← he.1]; exact hq, fun u hu => ?_⟩
            obtain ⟨j', hj⟩ := Option.isSome_iff_exists.1 (hall _ hq)
            have := he.2
            rw [hj, Option.getD_some] at this
            rw [← this]; exact hσ _ _ _ hj hu
          refine ⟨h0, fun q hq => ?_, x', hp', b, es, cl, fs, q1, q2, q3, q4, q5, fun i p e g a1 a2 a3 => ?_⟩
          · obtain ⟨n, hn, hr⟩ := key q.1 q.2 hq
            exact (h00 _ hn).tr hr
          · obtain ⟨b1, b2, b3⟩ := q6 i p e g a1 a2 a3
            refine ⟨b1, fun j hj => ?_, fun hn => b3 fun n hm => ?_⟩
            · obtain ⟨n, hn, hr⟩ := key _ _ hj
              exact ⟨(b2 n hn).1, hr _ (b2 n hn).2⟩
            · exact hn _ (List.mem_map.2 ⟨(p.1, n), hm, rfl⟩)
        · exact ⟨_, hle, trivial⟩
    rcases h2 with h2 | ⟨T, cs', cs, h4, h5, h6⟩
    · rw [h2]; exact h3
    · rw [h4]
      rw [h5] at h3
      obtain ⟨b, us, q1, q2, q3, q4⟩ := h3
      exact ⟨b, us, q1, q2, cvL_rep h6 q3, q4⟩

section
variable {P : Program} {N : Ev} {X : Cx} {Q : APost} {st : AS}
theorem awc_wk {c : Code} {st' : AS} (h : Wk X st st') (k : AWC P N X c Q st') : AWC P N X c Q st := fun fr w m ρ φ hc => let ⟨_, _, _, h1⟩ := h fr w m ρ φ hc; k _ _ _ _ _ h1
theorem awl_wk {ops : Array Oper} {rest : List Oper} {st' : AS} (h : Wk X st st') (k : AWL P N X ops Q rest st') : AWL P N X ops Q rest st := fun fr w m ρ φ hc => let ⟨_, _, _, h1⟩ := h fr w m ρ φ hc; k _ _ _ _ _ h1

/-- A nil slice that the call will own. -/
theorem wk_own {t : Nat} (E : TypeId) (ty : Ty) (hx : st.l.look t = some .nils) : Wk X st (st.new t (.osl st.n) (.sl E ty [])) := by
  intro fr w m ρ φ hc
  obtain ⟨v, h1, h2⟩ := hc.slots t _ hx
  simp only [RepA] at h2
  subst h2
  have h3 := hc.newObj (d := t) (av := .osl st.n) (v := .slice none 0 0) (h := .slice none 0 0) (o := .sl E ty []) (f := []) (Mem.le_refl _) (by simpa using hc.sh) ⟨by simp, .inl ⟨rfl, rfl, rfl⟩⟩ (by simp only [RepA]; exact ⟨by rw [← hc.nρ]; simp, rfl⟩)
  refine ⟨m, _, _, h3.mle, h3.pre, h3.nρ, h3.nφ, ?_, h3.objs, h3.sh⟩
  intro q a hq
  obtain ⟨v, h4, h5⟩ := h3.slots q a hq
  rw [Fr.look_cons] at h4
  split at h4
  · rename_i e; subst e; cases h4; exact ⟨_, h1, h5⟩
  · exact ⟨v, h4, h5⟩

/-! loops -/
/-- Rounds until it is left, at most so many. -/
def lrun {S R : Type} (b : S → Option (S ⊕ R)) : Nat → S → Option R
  | 0, _ => none
  | k + 1, s => (b s).bind fun o => match o with
    | .inl s' => lrun b k s'
    | .inr r => some r
def loopQ {S R : Type} (X : Cx) (Inv : S → AS) (Qx : R → APost) : S ⊕ R → APost
  | .inl s', .normal, st => Wk X st (Inv s')
  | .inl _, _, _ => False
  | .inr _, .normal, _ => False
  | .inr r, e, st => Qx r e st
theorem awc_loop {S R : Type} {c : Code} (Inv : S → AS) (b : S → Option (S ⊕ R)) (Qx : R → APost) {k : Nat} {s : S} {r : R} (hr : lrun b k s = some r) (hi : Wk X st (Inv s)) (hQ : ∀ e st, Qx r e st → Q e st)
    (body : ∀ s o, b s = some o → AWC P N X c (loopQ X Inv Qx o) (Inv s)) : AWC P N X (.loop c) Q st := by
  intro fr w m ρ φ hc
  obtain ⟨m1, ρ1, φ1, h1⟩ := hi fr w m ρ φ hc
  intro a ha hg
  refine wpIn_loopG (fun (x : S × Nat) a w => ∃ fr, lrun b x.2 x.1 = some r ∧ (∃ m ρ φ, Conc X (Inv x.1) fr w m ρ φ) ∧ Holds N fr a ∧ Eng.Good N a w) (fun x => x.2) (s, k) ⟨fr, hr, ⟨_, _, _, h1⟩, ha, hg⟩ ?_
  rintro ⟨s, k⟩ a w ⟨fr, hr, ⟨m, ρ, φ, hc⟩, ha, hg⟩
  cases k with
  | zero => simp [lrun] at hr
  | succ k =>
    simp only [lrun] at hr
    obtain ⟨o, ho, hr⟩ := Option.bind_eq_some_iff.1 hr
    refine wpIn_mono (body s o ho fr w m ρ φ hc a ha hg) ?_
    rintro e a' w' ⟨l', hl', g', st', m', ρ', φ', h2, h3⟩
    cases o with
    | inl s' =>
      cases e with
      | normal =>
        obtain ⟨m2, ρ2, φ2, h4⟩ := h3 _ _ _ _ _ h2
        exact ⟨(s', k), ⟨l', hr, ⟨m2, ρ2, φ2, h4⟩, hl', g'⟩, Nat.lt_succ_self k⟩
      | _ => exact h3.elim
    | inr r' =>
      simp only [Option.some.injEq] at hr
      subst hr
      cases e with
      | normal => exact h3.elim
      | _ => exact ⟨l', hl', g', st', m', ρ', φ', h2, hQ _ _ h3⟩
end
end Go.Ab
namespace Go.Ab
open Go.RowKit Go.Shelf Go.Proofs Go.Eng

/-! the end of a function -/
def retW (P : Program) (X : Cx) (rs : List ResultVar) (k : Nat) (R : List AV → List AO → Prop) : APost
  | .normal, st | .ret, st => ∃ st', Wk X st st' ∧ aretQ P rs k R .normal st'
  | _, _ => False
theorem runs_w {P : Program} {f : FuncId} {fn : Func} {c : Code} {n : Nat} {args : List AV} {H : List AO} {R : List AV → List AO → Prop} {rs : List ResultVar} (hf : P.funcs[f]? = some fn) (hN : fn.ntmps = n) (hb : fn.body = some c) (hr : fn.results = rs.toArray) (hle : Nat.ble args.length n = true)
    (h : ∀ (w0 : World) (X : Cx), X.ρ.length = H.length → AWC P ⟨n, none, w0, nox, false⟩ X c (retW P X rs H.length R) ⟨argA 0 args, zipH 0 H, H.length⟩) : Runs P f args H R := by
  refine runs_of hf hN hb hr hle fun w0 X hX fr w m ρ φ hc => WC.mono ?_ (h w0 X hX fr w m ρ φ hc)
  rintro e l w ⟨st, m, ρ, φ, h1, h2⟩
  cases e with
  | normal => obtain ⟨st', h3, h4⟩ := h2; obtain ⟨m', ρ', φ', h5⟩ := h3 _ _ _ _ _ h1; exact ⟨st', m', ρ', φ', h5, h4⟩
  | ret => obtain ⟨st', h3, h4⟩ := h2; obtain ⟨m', ρ', φ', h5⟩ := h3 _ _ _ _ _ h1; exact ⟨st', m', ρ', φ', h5, h4⟩
  | _ => exact h2.elim
theorem ret_q {P : Program} {X : Cx} {rs : List ResultVar} {st : AS} {as' r : List AV} {l' : AFr} (h : Wk X st ⟨l', [], 0⟩) (hr : as' = r) (ho : AOuts P l' rs as') : retW P X rs 0 (fun q H' => q = r ∧ H' = []) .ret st :=
  ⟨⟨l', [], 0⟩, h, as', _, ho, rfl, rfl, hr, rfl⟩
theorem retW_norm {P : Program} {X : Cx} {rs : List ResultVar} {k : Nat} {R : List AV → List AO → Prop} {st : AS} (h : retW P X rs k R .ret st) : retW P X rs k R .normal st := h

/-! regions whose order is drawn, or whose operations are guarded -/
abbrev TT := Bool × AV
def phi (e : World) (m : Mem) (ρ : List Value) (f : Frag) (T : TT) : VP := fun v W => (T.1 = true → ∃ m', m.le m' ∧ SH e W m' f ∧ RepA m' ρ T.2 v) ∧ (T.1 = false → v = undef)
def dstAt (ops : List Oper) (j : Nat) : Nat := match ops[j]? with
  | some o => o.dst.getD 0
  | none => 0
def ttAt (Ts : List TT) (j : Nat) : TT := match Ts[j]? with
  | some T => T
  | none => (false, .bad)
def allT (Ts : List TT) : List Nat → Prop
  | [] => True
  | j :: r => (ttAt Ts j).1 = true ∧ allT Ts r
theorem allT_of {Ts : List TT} : ∀ {js : List Nat}, allT Ts js → ∀ j ∈ js, (ttAt Ts j).1 = true := by
  intro js
  induction js with
  | nil => intro _ j h; simp at h
  | cons a r ih =>
    intro h j hj
    rcases List.mem_cons.1 hj with rfl | hj
    · exact h.1
    · exact ih h.2 j hj
/-- The frame with what is asked about. -/
def depF (ops : List Oper) (Ts : List TT) : List Nat → AFr → AFr
  | [], l => l
  | j :: r, l => depF ops Ts r ((dstAt ops j, (ttAt Ts j).2) :: l)
def keepF (l : AFr) : List Nat → AFr
  | [] => []
  | t :: r => (t, match l.look t with
    | some a => a
    | none => .bad) :: keepF l r

/-- What holds of a frame behind the values asked about. -/
inductive DF (ops : List Oper) (Φ : Nat → VP) (W : World) : List Nat → Fr → Fr → Prop
  | nil {l : Fr} : DF ops Φ W [] l l
  | cons {j : Nat} {r : List Nat} {l l' : Fr} {v : Value} : Φ j v W → DF ops Φ W r ((dstAt ops j, v) :: l) l' → DF ops Φ W (j :: r) l l'

theorem gather_df {ops : List Oper} {Φs : List VP} {Φ : Nat → VP} {W : World} {K : Fr → Prop} (hΦ : ∀ j o, ops[j]? = some o → Φs[j]? = some (Φ j)) : ∀ {js : List Nat} {l : Fr}, (js.all fun j => match ops[j]? with
    | some o => o.dst.isSome
    | none => false) = true → (∀ l', DF ops Φ W js l l' → K l') → Gather (depAt ops Φs js) l W K := by
  intro js
  induction js with
  | nil => intro l _ h; exact h l .nil
  | cons j r ih =>
    intro l hd h
    simp only [List.all_cons, Bool.and_eq_true] at hd
    obtain ⟨hd1, hd2⟩ := hd
    split at hd1
    · rename_i o ho
      obtain ⟨d, hd⟩ := Option.isSome_iff_exists.1 hd1
      have e1 : (ops[j]?).bind (·.dst) = some d := by rw [ho]; exact hd
      have e2 : (Φs[j]?).getD (fun _ _ => True) = Φ j := by rw [hΦ j o ho]; rfl
      have e3 : dstAt ops j = d := by simp [dstAt, ho, hd]
      simp only [depAt, List.map_cons, e1, e2]
      intro v hv
      refine ih hd2 fun l' hl => h l' (.cons hv ?_)
      rw [e3]; exact hl
    · cases hd1

theorem DF.keep {ops : List Oper} {Φ : Nat → VP} {W : World} {js : List Nat} {l l' : Fr} (h : DF ops Φ W js l l') : ∀ {t : Nat} {v : Value}, l.look t = some v → (∀ j ∈ js, dstAt ops j ≠ t) → l'.look t = some v := by
  induction h with
  | nil => intro t v h _; exact h
  | cons hv _ ih =>
    intro t v h hn
    refine ih ?_ (fun j hj => hn j (by simp [hj]))
    rw [Fr.look_cons, if_neg (hn _ (by simp))]; exact h
theorem DF.look {ops : List Oper} {Φ : Nat → VP} {W : World} {js : List Nat} {l l' : Fr} (h : DF ops Φ W js l l') : (js.map (dstAt ops)).Nodup → ∀ {j : Nat}, j ∈ js → ∃ v, l'.look (dstAt ops j) = some v ∧ Φ j v W := by
  induction h with
  | nil => intro _ j hj; simp at hj
  | @cons i r l l' v hv hr ih =>
    intro hn j hj
    rw [List.map_cons, List.nodup_cons] at hn
    by_cases e : j ∈ r
    · exact ih hn.2 e
    · have : j = i := by rcases List.mem_cons.1 hj with h | h; exact h; exact absurd h e
      subst this
      refine ⟨v, hr.keep (by rw [Fr.look_cons, if_pos rfl]) ?_, hv⟩
      intro q hq e'
      exact hn.1 (e' ▸ List.mem_map.2 ⟨q, hq, rfl⟩)

/-- Two readings of one memory. -/
def Mem.sup (a b : Mem) : Mem := fun k => match a k with
  | some o => some o
  | none => b k
theorem sup_sh {e W : World} {a b : Mem} {f : Frag} (h : SH e W a f) (k : SH e W b f) : SH e W (a.sup b) f ∧ a.le (a.sup b) ∧ b.le (a.sup b) := by
  refine ⟨⟨h.os, h.tape, h.output, ?_, h.own, h.nd, ?_, h.noctl, ?_, h.esz⟩, fun x o hx => by simp [Mem.sup, hx], ?_⟩
  · intro x o hx
    unfold Mem.sup at hx
    split at hx
    · rename_i o' ho; cases hx; exact h.fz _ _ ho
    · exact k.fz _ _ hx
  · intro p hp
    unfold Mem.sup
    rw [h.dis p hp]; exact k.dis p hp
  · intro x o hx
    unfold Mem.sup at hx
    split at hx
    · rename_i o' ho; cases hx; exact h.mctl _ _ ho
    · exact k.mctl _ _ hx
  · intro x o hx
    unfold Mem.sup
    cases ha : a x with
    | none => exact hx
    | some o' =>
      have h1 := h.fz _ _ ha
      have h2 := k.fz _ _ hx
      rw [h1] at h2; exact h2

section
variable {P : Program} {N : Ev} {X : Cx} {Q : APost} {st : AS}

theorem conc_df {ops : List Oper} {Ts : List TT} {W : World} {m : Mem} {ρ : List Value} {φ : List Frag} {H : AH} {n : Nat} {js : List Nat} {l l' : Fr} (h : DF ops (fun j => phi X.e m ρ (φ.flatten ++ X.F) (ttAt Ts j)) W js l l') : ∀ {lA : AFr} {m1 : Mem}, m.le m1 → Conc X ⟨lA, H, n⟩ l W m1 ρ φ → (∀ j ∈ js, (ttAt Ts j).1 = true) → ∃ m', m.le m' ∧ Conc X ⟨depF ops Ts js lA, H, n⟩ l' W m' ρ φ := by
  induction h with
  | nil => intro lA m1 hm hc _; exact ⟨m1, hm, hc⟩
  | @cons j r l l' v hv _ ih =>
    intro lA m1 hm hc ht
    obtain ⟨m2, h2, h3, h4⟩ := hv.1 (ht j (by simp))
    obtain ⟨h5, h6, h7⟩ := sup_sh hc.sh h3
    have hc' : Conc X (AS.put ⟨lA, H, n⟩ (dstAt ops j) (ttAt Ts j).2) ((dstAt ops j, v) :: l) W (m1.sup m2) ρ φ := (hc.grow h6 h5).put (RepA.mono h7 (fun _ _ h => h) _ h4)
    exact ih (hm.trans h6) hc' (fun q hq => ht q (by simp [hq]))

/-- What is owed of an operation. -/
def AOb (P : Program) (N : Ev) (X : Cx) (ops : List Oper) (Ts : List TT) (lA : AFr) (H : AH) (n : Nat) (o : Oper) (T : TT) (js : List Nat) : Prop :=
  ∀ (Q : Post) lb W m0 m ρ φ, m0.le m → Conc X ⟨lA, H, n⟩ lb W m ρ φ → ∀ l', DF ops (fun j => phi X.e m0 ρ (φ.flatten ++ X.F) (ttAt Ts j)) W js lb l' →
    OpG P N (fun w W => Below w.heap.size w W) ops o (phi X.e m0 ρ (φ.flatten ++ X.F) T) Q l' W

def guardOk (ops : List Oper) (Ts : List TT) (o : Oper) (T : TT) (js : List Nat) : Prop := match o.guard with
  | none => T.1 = true
  | some (j, b) => memB j js = true ∧ nodupB (js.map (dstAt ops)) = true ∧ (match ops[j]? with
    | some o => o.dst.isSome
    | none => false) = true ∧ ∃ c, (ttAt Ts j).2 = .bool c ∧ T.1 = ((ttAt Ts j).1 && (bif b then c else !c))

theorem opg_of {ops : List Oper} {Ts : List TT} {lA : AFr} {H : AH} {n : Nat} {o : Oper} {T : TT} {js : List Nat} (hg : guardOk ops Ts o T js)
    (h : T.1 = true → ∀ (Q : Post) lb W m0 m ρ φ, m0.le m → Conc X ⟨lA, H, n⟩ lb W m ρ φ → ∀ l', DF ops (fun j => phi X.e m0 ρ (φ.flatten ++ X.F) (ttAt Ts j)) W js lb l' →
      OpW P N o (fun l'' W' => toldL o (phi X.e m0 ρ (φ.flatten ++ X.F) T) l'' W' ∧ Below W.heap.size W W') Q l' W) : AOb P N X ops Ts lA H n o T js := by
  intro Q lb W m0 m ρ φ hm hc l' hd
  unfold OpG
  unfold guardOk at hg
  cases ho : o.guard with
  | none => rw [ho] at hg; exact h hg Q lb W m0 m ρ φ hm hc l' hd
  | some p =>
    obtain ⟨j, b⟩ := p
    rw [ho] at hg
    simp only at hg
    obtain ⟨h1, h2, h3, c, h4, h5⟩ := hg
    obtain ⟨v, hv, hφ⟩ := hd.look (nodup_of h2) (memB_iff.1 h1)
    split at h3
    · rename_i o' ho'
      obtain ⟨d, hdd⟩ := Option.isSome_iff_exists.1 h3
      have e3 : dstAt ops j = d := by simp [dstAt, ho', hdd]
      rw [e3] at hv
      refine ⟨v, by rw [ho']; simp [hdd, hv], fun hvb => h ?_ Q lb W m0 m ρ φ hm hc l' hd, fun hvb => ⟨fun hT => absurd ?_ hvb, fun _ => rfl⟩⟩
      · rw [h5]
        cases hg : (ttAt Ts j).1 with
        | false => have := hφ.2 hg; rw [hvb] at this; exact absurd this.symm undef_ne
        | true =>
          obtain ⟨m', _, _, hr⟩ := hφ.1 hg
          rw [h4] at hr
          simp only [RepA] at hr
          rw [hvb] at hr
          cases hr
          cases b <;> rfl
      · rw [h5, Bool.and_eq_true] at hT
        obtain ⟨m', _, _, hr⟩ := hφ.1 hT.1
        rw [h4] at hr
        simp only [RepA] at hr
        have := hT.2
        cases b <;> simp at this <;> subst this <;> exact hr
    · cases h3

/-- An operation that gives a value. -/
theorem ob_v {ops : List Oper} {Ts : List TT} {lA : AFr} {H : AH} {n : Nat} {o : Oper} {T : TT} {js : List Nat} (hg : guardOk ops Ts o T js) (hall : T.1 = true → ∀ j ∈ js, (ttAt Ts j).1 = true)
    (h : T.1 = true → AOpV P N X o T.2 ⟨depF ops Ts js lA, H, n⟩) : AOb P N X ops Ts lA H n o T js := by
  refine opg_of hg fun hT Q lb W m0 m ρ φ hm hc l' hd => ?_
  obtain ⟨m', h1, h2⟩ := conc_df hd hm hc (hall hT)
  intro a ha hgd
  refine Oper.wpIn_mono ?_ (h hT Q l' W m' ρ φ h2 a ha hgd)
  rintro a w' ⟨l'', hl'', g'', ⟨d, v, hdd, rfl, hb, m'', hm'', hs, hr⟩⟩
  refine ⟨_, hl'', g'', told hdd (by rw [Fr.look_cons, if_pos rfl]) ⟨fun _ => ⟨m'', h1.trans hm'', hs, hr⟩, fun hf => ?_⟩, hb⟩
  rw [hT] at hf; cases hf

/-- 'p && q', 'p || q': the second one is asked about where it counts. -/
theorem ob_pick {ops : List Oper} {Ts : List TT} {lA : AFr} {H : AH} {n : Nat} {d U : Nat} {pos : String} {aft : Array Edge} {g : Option (Nat × Bool)} {c x y : Operand} {T : TT} {js js' : List Nat} {jq : Nat} {p q b : Bool}
    (hg : guardOk ops Ts ⟨some d, .pick c x y, U, pos, aft, g⟩ T js) (hjs : js = jq :: js') (hnd : nodupB (js.map (dstAt ops)) = true) (hall : T.1 = true → ∀ j ∈ js', (ttAt Ts j).1 = true)
    (hT2 : T.2 = .bool (bif b then p && q else p || q)) (hc : aev (depF ops Ts js' ((dstAt ops jq, .any) :: lA)) c = some (.bool p)) (hq : ttAt Ts jq = (T.1 && (bif b then p else !p), .bool q)) (hx : (bif b then x else y) = .tmp (dstAt ops jq)) (hy : (bif b then y else x) = .const (.bool (!b))) (hN : Nat.blt d N.n = true := by rfl) :
    AOb P N X ops Ts lA H n ⟨some d, .pick c x y, U, pos, aft, g⟩ T js := by
  refine opg_of hg fun hT Q lb W m0 m ρ φ hm hcc l' hd => ?_
  subst hjs
  obtain ⟨v, hv, hφ⟩ := hd.look (nodup_of hnd) (j := jq) (by simp)
  cases hd with
  | @cons _ _ _ _ v' hv' hr' =>
  have h1 : Conc X (AS.put ⟨lA, H, n⟩ (dstAt ops jq) .any) ((dstAt ops jq, v') :: lb) W m ρ φ := hcc.put (by simp only [RepA])
  obtain ⟨m', h2, h3⟩ := conc_df hr' hm h1 (hall hT)
  have h4 := h3.bool hc
  have hvq : (bif b then p else !p) = true → v = .bool q := by
    intro hb
    have e1 : (ttAt Ts jq).1 = true := by rw [hq]; simp only; rw [hT, hb]; rfl
    obtain ⟨_, _, _, hr⟩ := hφ.1 e1
    rw [hq] at hr
    simpa only [RepA] using hr
  have hres : toldL (⟨some d, .pick c x y, U, pos, aft, g⟩ : Oper) (phi X.e m0 ρ (φ.flatten ++ X.F) T) ((d, .bool (bif b then p && q else p || q)) :: l') W ∧ Below W.heap.size W W := by
    refine ⟨told rfl (by rw [Fr.look_cons, if_pos rfl]) ⟨fun _ => ⟨m', h2, h3.sh, by rw [hT2]; simp only [RepA]⟩, fun hf => ?_⟩, Below.refl _ _⟩
    rw [hT] at hf; cases hf
  refine op_pick (v := .bool (bif b then p && q else p || q)) h4 (fun hp => ?_) (fun hp => ?_) hN hres
  · subst hp
    cases b with
    | true =>
      simp only [cond_true] at hx ⊢
      rw [hx]
      show l'.look _ = _
      rw [hv, hvq rfl]; simp
    | false =>
      simp only [cond_false] at hy ⊢
      rw [hy]; simp [evo]
  · subst hp
    cases b with
    | true =>
      simp only [cond_true] at hy ⊢
      rw [hy]; simp [evo]
    | false =>
      simp only [cond_false] at hx ⊢
      rw [hx]
      show l'.look _ = _
      rw [hv, hvq rfl]; simp

/-- What is owed of all operations. -/
def AObs (P : Program) (N : Ev) (X : Cx) (ops : List Oper) (Ts : List TT) (lA : AFr) (H : AH) (n : Nat) : List Oper → List TT → List (List Nat) → Prop
  | o :: os, T :: r, js :: jss => AOb P N X ops Ts lA H n o T js ∧ AObs P N X ops Ts lA H n os r jss
  | [], [], [] => True
  | _, _, _ => False

/-- The check of EngD, of the slots that are kept. -/
def drawOkK (N : Nat) (ops : List Oper) (dep : List (List Nat)) (ks : List Nat) : Bool :=
  (ops.all fun o => o.dst.isNone || (Nat.blt (dstOf o) N && !memB (dstOf o) ks)) &&
  ((ops.zipIdx).all fun (o, i) => (ops.zipIdx).all fun (o', i') => Nat.beq i i' || (o.dst.isNone || (o'.dst.isNone || !Nat.beq (dstOf o) (dstOf o')))) && Nat.beq dep.length ops.length &&
  ((ops.zip dep).all fun (o, js) => js.all fun j => o.after.toList.any fun e => Region.binds .any e && Nat.beq e.on j) &&
  ((ops.zipIdx).all fun (o, i) => o.after.toList.all fun e => !Region.binds .any e || Nat.blt e.on i)
theorem look_keys : ∀ {l : Fr} {d : Nat}, (l.look d).isNone = !memB d (l.map (·.1)) := by
  intro l
  induction l with
  | nil => intro d; rfl
  | cons p l ih =>
    intro d
    obtain ⟨t, v⟩ := p
    rw [Fr.look_cons]
    simp only [List.map_cons, memB]
    by_cases h : t = d
    · subst h; simp
    · rw [if_neg h]
      have : Nat.beq d t = false := by rw [Bool.eq_false_iff]; intro hc; exact h (Nat.eq_of_beq_eq_true hc).symm
      rw [this, Bool.false_or]; exact ih
theorem draw_keys {N : Nat} {ops : List Oper} {dep : List (List Nat)} {l : Fr} (h : drawOkK N ops dep (l.map (·.1)) = true) : drawOk N ops dep l = true := by
  unfold drawOkK at h
  unfold drawOk
  simp only [look_keys]
  exact h

/-- The concrete frame of the slots that are kept. -/
theorem keep_conc {fr : Fr} {w : World} {m : Mem} {ρ : List Value} {φ : List Frag} (hc : Conc X st fr w m ρ φ) : ∀ {ks : List Nat}, (ks.all fun t => (st.l.look t).isSome) = true → ∃ lb : Fr, lb.map (·.1) = ks ∧ Sub lb fr ∧ Conc X ⟨keepF st.l ks, st.H, st.n⟩ lb w m ρ φ := by
  intro ks
  induction ks with
  | nil => intro _; exact ⟨[], rfl, trivial, hc.mle, hc.pre, hc.nρ, hc.nφ, fun t a h => by simp [keepF, AFr.look] at h, hc.objs, hc.sh⟩
  | cons t r ih =>
    intro h
    simp only [List.all_cons, Bool.and_eq_true] at h
    obtain ⟨lb, h1, h2, h3⟩ := ih h.2
    obtain ⟨a, ha⟩ := Option.isSome_iff_exists.1 h.1
    obtain ⟨v, h4, h5⟩ := hc.slots t a ha
    refine ⟨(t, v) :: lb, by simp [h1], ⟨h4, h2⟩, ?_⟩
    have : keepF st.l (t :: r) = (t, a) :: keepF st.l r := by simp only [keepF, ha]
    rw [this]
    exact h3.put (st := ⟨keepF st.l r, st.H, st.n⟩) h5

theorem phi_mono {e : World} {m : Mem} {ρ : List Value} {f : Frag} {T : TT} : Mono (fun w W => Below w.heap.size w W) (phi e m ρ f T) := by
  intro v W W' hb h
  exact ⟨fun hT => let ⟨m', h1, h2, h3⟩ := h.1 hT; ⟨m', h1, h2.ext hb, h3⟩, h.2⟩
theorem monos_phi {e : World} {m : Mem} {ρ : List Value} {f : Frag} : ∀ (Ts : List TT), Monos (fun w W => Below w.heap.size w W) (Ts.map (phi e m ρ f)) := by
  intro Ts
  induction Ts with
  | nil => trivial
  | cons T r ih => exact ⟨phi_mono, ih⟩
theorem phi_at {e : World} {m : Mem} {ρ : List Value} {f : Frag} {Ts : List TT} {ops : List Oper} (hl : Ts.length = ops.length) : ∀ (j : Nat) (o : Oper), ops[j]? = some o → (Ts.map (phi e m ρ f))[j]? = some (phi e m ρ f (ttAt Ts j)) := by
  intro j o hj
  have hlt := (List.getElem?_eq_some_iff.1 hj).1
  have h1 : Ts[j]? = some (Ts[j]'(by omega)) := List.getElem?_eq_getElem (by omega)
  rw [List.getElem?_map, h1]
  simp [ttAt, h1]

def depsOk (ops : List Oper) (dep : List (List Nat)) : Bool := dep.all fun js => js.all fun j => match ops[j]? with
  | some o => o.dst.isSome
  | none => false
theorem obs_of {ops : List Oper} {Ts : List TT} {lA : AFr} {H : AH} {n : Nat} {lb : Fr} {w : World} {m : Mem} {ρ : List Value} {φ : List Frag} {Q' : Post} (hl : Ts.length = ops.length) (hc : Conc X ⟨lA, H, n⟩ lb w m ρ φ) : ∀ {os : List Oper} {r : List TT} {jss : List (List Nat)}, depsOk ops jss = true → AObs P N X ops Ts lA H n os r jss →
    Obs P N (fun w W => Below w.heap.size w W) ops (Ts.map (phi X.e m ρ (φ.flatten ++ X.F))) Q' lb w os (r.map (phi X.e m ρ (φ.flatten ++ X.F))) jss := by
  intro os
  induction os with
  | nil => intro r jss _ h; unfold Obs; trivial
  | cons o os ih =>
    intro r jss hd h
    cases r with
    | nil => cases jss <;> trivial
    | cons T r => cases jss with
      | nil => trivial
      | cons js jss =>
        simp only [depsOk, List.all_cons, Bool.and_eq_true] at hd
        refine ⟨fun W hW => ?_, ih hd.2 h.2⟩
        exact gather_df (phi_at hl) hd.1 fun l' hl' => h.1 Q' lb W m m ρ φ (Mem.le_refl _) (hc.grow (Mem.le_refl _) (hc.sh.ext hW)) l' hl'

/-- A region whose order is drawn. -/
theorem awc_draw {id : Nat} {ops : List Oper} (hm : P.follows .mixedOrders = true) (ks : List Nat) (Ts : List TT) (dep : List (List Nat)) (live : List Nat) (hks : (ks.all fun t => (st.l.look t).isSome) = true) (hok : drawOkK N.n ops dep ks = true) (hTs : Nat.beq Ts.length ops.length = true) (hlv : (live.all fun i => Nat.blt i ops.length) = true) (hdp : depsOk ops (live :: dep) = true)
    (hob : AObs P N X ops Ts (keepF st.l ks) st.H st.n ops Ts dep) (hall : ∀ j ∈ live, (ttAt Ts j).1 = true) (k : Q .normal ⟨depF ops Ts live (keepF st.l ks), st.H, st.n⟩) : AWC P N X (.region id ops.toArray true) Q st := by
  intro fr w m ρ φ hc
  obtain ⟨lb, h1, h2, h3⟩ := keep_conc hc hks
  have hl := Nat.eq_of_beq_eq_true hTs
  simp only [depsOk, List.all_cons, Bool.and_eq_true] at hdp
  refine wc_draw hm lb h2 (Ts.map (phi X.e m ρ (φ.flatten ++ X.F))) dep live (draw_keys (by rw [h1]; exact hok)) (by rw [List.length_map]; exact hTs) hlv (monos_phi Ts) (obs_of hl h3 hdp.2 hob) ?_
  intro W hW
  refine gather_df (phi_at hl) hdp.1 fun l' hl' => ?_
  obtain ⟨m', h4, h5⟩ := conc_df hl' (Mem.le_refl _) (h3.grow (Mem.le_refl _) (h3.sh.ext hW)) hall
  exact ⟨_, m', ρ, φ, h5, k⟩
/-- A region in the text's order, with guards. -/
theorem awc_text {id : Nat} {ops : List Oper} (ks : List Nat) (Ts : List TT) (dep : List (List Nat)) (live : List Nat) (hks : (ks.all fun t => (st.l.look t).isSome) = true) (hok : drawOkK N.n ops dep ks = true) (hTs : Nat.beq Ts.length ops.length = true) (hlv : (live.all fun i => Nat.blt i ops.length) = true) (hdp : depsOk ops (live :: dep) = true)
    (hob : AObs P N X ops Ts (keepF st.l ks) st.H st.n ops Ts dep) (hall : ∀ j ∈ live, (ttAt Ts j).1 = true) (k : Q .normal ⟨depF ops Ts live (keepF st.l ks), st.H, st.n⟩) : AWC P N X (.region id ops.toArray false) Q st := by
  intro fr w m ρ φ hc
  obtain ⟨lb, h1, h2, h3⟩ := keep_conc hc hks
  have hl := Nat.eq_of_beq_eq_true hTs
  simp only [depsOk, List.all_cons, Bool.and_eq_true] at hdp
  refine wc_text lb h2 (Ts.map (phi X.e m ρ (φ.flatten ++ X.F))) dep live (draw_keys (by rw [h1]; exact hok)) (by rw [List.length_map]; exact hTs) hlv (monos_phi Ts) (obs_of hl h3 hdp.2 hob) ?_
  intro W hW
  refine gather_df (phi_at hl) hdp.1 fun l' hl' => ?_
  obtain ⟨m', h4, h5⟩ := conc_df hl' (Mem.le_refl _) (h3.grow (Mem.le_refl _) (h3.sh.ext hW)) hall
  exact ⟨_, m', ρ, φ, h5, k⟩
end
end Go.Ab
namespace Go.Ab
open Go.RowKit Go.Shelf Go.Proofs Go.Eng

/-! maps -/
def mget {α β : Type} [DecidableEq α] : List (α × β) → α → Option β
  | [], _ => none
  | p :: r, k => if k = p.1 then some p.2 else mget r k
def mset {α β : Type} [DecidableEq α] : List (α × β) → α → β → List (α × β)
  | [], k, v => [(k, v)]
  | p :: r, k, v => if k = p.1 then (k, v) :: r else p :: mset r k v
theorem mset_keys {α β : Type} [DecidableEq α] : ∀ (x : List (α × β)) (k : α) (v : β), (mset x k v).map (·.1) = if k ∈ x.map (·.1) then x.map (·.1) else x.map (·.1) ++ [k] := by
  intro x k v
  induction x with
  | nil => simp [mset]
  | cons p r ih =>
    simp only [mset]
    by_cases h : k = p.1
    · rw [if_pos h]; simp [h]
    · rw [if_neg h, List.map_cons, ih]
      simp only [List.map_cons, List.mem_cons, h, false_or]
      split <;> simp
theorem mset_nodup {α β : Type} [DecidableEq α] {x : List (α × β)} (k : α) (v : β) (h : (x.map (·.1)).Nodup) : ((mset x k v).map (·.1)).Nodup := by
  rw [mset_keys]
  split
  · exact h
  · rename_i hn
    rw [List.nodup_append]
    exact ⟨h, by simp, fun a ha b hb e => by simp at hb; subst hb e; exact hn ha⟩
/-- Entries, one for each pair. -/
def EntL (m : Mem) (tk tv : Ty) : List (tk.den × tv.den) → List MapEntry → Prop
  | [], [] => True
  | p :: x, e :: es => (RV m tk p.1 e.key ∧ RV m tv p.2 e.val) ∧ EntL m tk tv x es
  | _, _ => False
theorem ent_of {m : Mem} {tk tv : Ty} : ∀ {x : List (tk.den × tv.den)} {es : List MapEntry}, es.length = x.length → (∀ (i : Nat) (p : tk.den × tv.den) (e : MapEntry), x[i]? = some p → es[i]? = some e → RV m tk p.1 e.key ∧ RV m tv p.2 e.val) → EntL m tk tv x es := by
  intro x
  induction x with
  | nil => intro es h _; cases es with
    | nil => trivial
    | cons => simp at h
  | cons p x ih => intro es h k; cases es with
    | nil => simp at h
    | cons e es => exact ⟨k 0 p e rfl rfl, ih (by simpa using h) fun i p e hp he => k (i + 1) p e (by simpa using hp) (by simpa using he)⟩
theorem ent_get {m : Mem} {tk tv : Ty} : ∀ {x : List (tk.den × tv.den)} {es : List MapEntry}, EntL m tk tv x es → es.length = x.length ∧ ∀ (i : Nat) (p : tk.den × tv.den) (e : MapEntry), x[i]? = some p → es[i]? = some e → RV m tk p.1 e.key ∧ RV m tv p.2 e.val := by
  intro x
  induction x with
  | nil => intro es h; cases es with
    | nil => exact ⟨rfl, fun i p e hp => by simp at hp⟩
    | cons => exact h.elim
  | cons p x ih => intro es h; cases es with
    | nil => exact h.elim
    | cons e es =>
      obtain ⟨h1, h2⟩ := ih h.2
      refine ⟨by simp [h1], fun i q u hq hu => ?_⟩
      cases i with
      | zero => simp at hq hu; subst hq hu; exact h.1
      | succ i => exact h2 i q u (by simpa using hq) (by simpa using hu)

theorem rv_whole {m : Mem} {ρ : List Value} {t : Ty} {x : t.den} {v : Value} (h : RV m t x v) : RepA m ρ (whole t x) v := by
  unfold RV at h
  unfold whole
  split
  · rename_i ha
    rw [if_pos ha] at h
    obtain ⟨cs, rfl, h2⟩ := h
    simp only [RepA]
    exact ⟨cs, rfl, rc_expl h2, h2.one⟩
  · rename_i ha
    rw [if_neg ha] at h
    cases t with
    | int k => simp only [RC] at h; cases h; simp [expl, RepA]
    | bool => simp only [RC] at h; cases h; simp [expl, RepA]
    | str => simp only [RC] at h; cases h; simp [expl, RepA]
    | slice e => simpa [expl, RepA] using h
    | unit => simp [Ty.agg] at ha
    | pair a b => simp [Ty.agg] at ha
    | st a => simp [Ty.agg] at ha
    | arr n e => simp [Ty.agg] at ha
    | raw z => simp only [RC] at h; cases h; simp [expl, RepA]
    | map k v => simpa [expl, RepA] using h
    | ptr t => simpa [expl, RepA] using h
theorem whole_rv {m : Mem} {ρ : List Value} {t : Ty} {x : t.den} {v : Value} (hno : t.fit x = true) (h : RepA m ρ (whole t x) v) : RV m t x v := by
  unfold whole at h
  unfold RV
  split
  · rename_i ha
    rw [if_pos ha] at h
    simp only [RepA] at h
    obtain ⟨us, rfl, h1, _⟩ := h
    exact ⟨us, rfl, rc_of_expl hno h1⟩
  · rename_i ha
    rw [if_neg ha] at h
    refine rc_of_expl (ρ := ρ) hno ?_
    cases t with
    | int k => simp only [expl, RepL]; exact ⟨by simpa [expl] using h, trivial⟩
    | bool => simp only [expl, RepL]; exact ⟨by simpa [expl] using h, trivial⟩
    | str => simp only [expl, RepL]; exact ⟨by simpa [expl] using h, trivial⟩
    | slice e => simp only [expl, RepL]; exact ⟨by simpa [expl] using h, trivial⟩
    | unit => simp [Ty.agg] at ha
    | pair a b => simp [Ty.agg] at ha
    | st a => simp [Ty.agg] at ha
    | arr n e => simp [Ty.agg] at ha
    | raw z => simp only [expl, RepL]; exact ⟨by simpa [expl] using h, trivial⟩
    | map k v => simp only [expl, RepL]; exact ⟨by simpa [expl] using h, trivial⟩
    | ptr t => simp only [expl, RepL]; exact ⟨by simpa [expl] using h, trivial⟩

/-- How keys of a type are held against one another. -/
structure KeyT (P : Program) (kT : TypeId) (tk : Ty) [DecidableEq tk.den] : Prop where
  chk : ∀ (m : Mem) (k : tk.den) (v : Value) (b : Bool) (w : World), RV m tk k v → (Instr.checkKey b 10000 kT v).run P w = .ok () w
  find : ∀ (m : Mem) (k : tk.den) (v : Value) (tv : Ty) (x : List (tk.den × tv.den)) (es : List MapEntry) (w : World), RV m tk k v → EntL m tk tv x es →
    ∃ r, (Instr.findKey kT v es).run P w = .ok r w ∧ match r with
      | none => mget x k = none
      | some (i, u) => ∃ y, mget x k = some y ∧ RV m tv y u ∧ (x[i]?).map (·.1) = some k ∧ (∃ e : MapEntry, es[i]? = some e) ∧ ∀ j, j < i → (x[j]?).map (·.1) ≠ some k
  stays : ∀ (m : Mem) (k : tk.den) (u v : Value) (w : World), RV m tk k u → RV m tk k v → (Instr.keyThatStays u v).run P w = .ok v w

theorem key_now {P : Program} {kT : TypeId} {tk : Ty} [DecidableEq tk.den] {dsc : TypeDesc} (hU : P.underlying kT = some dsc) (hc : ∀ (m : Mem) (k : tk.den) (v : Value) (b : Bool) (w : World), RV m tk k v → (Instr.checkKey b 10000 kT v).run P w = .ok () w)
    (hs : ∀ (m : Mem) (k a : tk.den) (v u : Value), RV m tk k v → RV m tk a u → Instr.sameNow dsc v u = some (decide (k = a))) (hst : ∀ (m : Mem) (k : tk.den) (u v : Value) (w : World), RV m tk k u → RV m tk k v → (Instr.keyThatStays u v).run P w = .ok v w) : KeyT P kT tk := by
  refine ⟨hc, fun m k v tv x es w hk he => ?_, hst⟩
  have key : ∀ {x : List (tk.den × tv.den)} {es : List MapEntry} (i : Nat), EntL m tk tv x es → ∃ r, Instr.findNow dsc v es i = some r ∧ match r with
      | none => mget x k = none
      | some (q, u) => i ≤ q ∧ ∃ y, mget x k = some y ∧ RV m tv y u ∧ (x[q - i]?).map (·.1) = some k ∧ (∃ e : MapEntry, es[q - i]? = some e) ∧ ∀ j, j < q - i → (x[j]?).map (·.1) ≠ some k := by
    intro x
    induction x with
    | nil => intro es i h; cases es with
      | nil => exact ⟨none, rfl, rfl⟩
      | cons => exact h.elim
    | cons p x ih => intro es i h; cases es with
      | nil => exact h.elim
      | cons e es =>
        simp only [Instr.findNow, hs m k p.1 v e.key hk h.1.1]
        by_cases hkp : k = p.1
        · have hd : decide (k = p.1) = true := by simp [hkp]
          rw [hd]
          exact ⟨_, rfl, Nat.le_refl _, p.2, by simp [mget, hkp], h.1.2, by simp [hkp], ⟨e, by simp⟩, fun j hj => absurd hj (by omega)⟩
        · have hd : decide (k = p.1) = false := by simp [hkp]
          rw [hd]
          obtain ⟨r, h1, h2⟩ := ih (i + 1) h.2
          refine ⟨r, h1, ?_⟩
          cases r with
          | none => simp only [mget, if_neg hkp]; exact h2
          | some q =>
            obtain ⟨q, u⟩ := q
            obtain ⟨h3, y, h4, h5, h6, ⟨e', h7⟩, h8⟩ := h2
            have hq : q - i = (q - (i + 1)) + 1 := by omega
            refine ⟨by omega, y, by simp only [mget, if_neg hkp]; exact h4, h5, by rw [hq]; simpa using h6, ⟨e', by rw [hq]; simpa using h7⟩, fun j hj => ?_⟩
            cases j with
            | zero => simp; exact fun e => hkp e.symm
            | succ j => simpa using h8 j (by omega)
  obtain ⟨r, h1, h2⟩ := key 0 he
  refine ⟨r, by simp [Instr.findKey, run_underlying hU, h1], ?_⟩
  cases r with
  | none => exact h2
  | some q =>
    obtain ⟨q, u⟩ := q
    obtain ⟨_, y, h3, h4, h5, h6, h7⟩ := h2
    exact ⟨y, h3, h4, by simpa using h5, by simpa using h6, by simpa using h7⟩
theorem bstr_beq (s t : Str) : (bstr s == bstr t) = decide (s = t) := by
  show (s.toArray == t.toArray) = _
  by_cases h : s = t <;> simp [h]
theorem keyT_int {P : Program} {kT : TypeId} {k : IntKind} (hU : P.underlying kT = some (.int k)) : KeyT P kT (.int k) := by
  refine key_now hU (fun m z v b w h => ?_) (fun m z a v u hv hu => ?_) (fun m z u v w hu hv => ?_)
  · simp only [RV, Ty.agg, RC] at h; cases h
    rw [show (10000 : Nat) = 9999 + 1 from rfl]; unfold Instr.checkKey; simp [run_underlying hU]
  · simp only [RV, Ty.agg, RC] at hv hu; cases hv; cases hu
    simp only [Instr.sameNow, if_true, Option.some.injEq]
    by_cases e : z = a
    · subst e; simp
    · simp [e]
  · simp only [RV, Ty.agg, RC] at hv hu; cases hv; cases hu
    rw [show (Instr.keyThatStays (.int k z) (.int k z)) = (if Instr.sameBits 10000 (.int k z) (.int k z) then pure (.int k z) else _) from rfl]
    rw [show Instr.sameBits 10000 (.int k z) (.int k z) = (k == k && z == z) from rfl]
    simp
/-- A type's zero as a value. -/
def ZeroW (P : Program) (T : Nat) (t : Ty) : Prop := ∃ z, Eng.Zero P T z ∧ ∀ m, RV m t t.dflt z
theorem zeroW_of {P : Program} {T : Nat} {t : Ty} {z : Value} (h : Eng.Zero P T z) (hz : (if t.agg then Value.agg (zeroV t).toArray else ((zeroV t).head?).getD undef) = z) (h1 : t.agg = false → (zeroV t).length = 1) : ZeroW P T t := by
  refine ⟨z, h, fun m => ?_⟩
  unfold RV
  split
  · rename_i ha; rw [if_pos ha] at hz; exact ⟨_, hz.symm, rc_zero m t⟩
  · rename_i ha
    rw [if_neg ha] at hz
    have hl := h1 (by simpa using ha)
    obtain ⟨u, hu⟩ := List.length_eq_one_iff.1 hl
    have := rc_zero m t
    rw [hu] at this hz
    simp at hz; subst hz; exact this

section
variable {P : Program} {N : Ev} {X : Cx} {Q : APost} {st : AS}
variable {d : Nat} {T U T' : TypeId} {pos : String} {aft : Array Edge} {g : Option (Nat × Bool)} {x y z : Operand} {k ky : IntKind} {a b : Int}

/-- The order of the entries is nobody's. -/
theorem mget_perm {α β : Type} [DecidableEq α] {x y : List (α × β)} (h : x.Perm y) (hn : (x.map (·.1)).Nodup) (k : α) : mget x k = mget y k := by
  induction h with
  | nil => rfl
  | cons p _ ih =>
    simp only [List.map_cons, List.nodup_cons] at hn
    simp only [mget, ih hn.2]
  | swap p q l =>
    simp only [List.map_cons, List.nodup_cons, List.mem_cons, not_or] at hn
    simp only [mget]
    by_cases h1 : k = p.1
    · by_cases h2 : k = q.1
      · exact absurd (h2.symm.trans h1) hn.1.1
      · rw [if_neg h2, if_pos h1, if_pos h1]
    · by_cases h2 : k = q.1
      · rw [if_pos h2, if_neg h1, if_pos h2]
      · rw [if_neg h2, if_neg h1, if_neg h1, if_neg h2]
  | trans h1 h2 ih1 ih2 => rw [ih1 hn, ih2 ((h1.map _).nodup_iff.1 hn)]
theorem mset_perm {α β : Type} [DecidableEq α] {x y : List (α × β)} (h : x.Perm y) (hn : (x.map (·.1)).Nodup) (k : α) (v : β) : (mset x k v).Perm (mset y k v) := by
  induction h with
  | nil => exact List.Perm.refl _
  | cons p h ih =>
    simp only [List.map_cons, List.nodup_cons] at hn
    simp only [mset]
    split
    · exact List.Perm.cons _ h
    · exact List.Perm.cons _ (ih hn.2)
  | swap p q l =>
    simp only [List.map_cons, List.nodup_cons, List.mem_cons, not_or] at hn
    simp only [mset]
    by_cases h1 : k = p.1
    · by_cases h2 : k = q.1
      · exact absurd (h2.symm.trans h1) hn.1.1
      · rw [if_neg h2, if_pos h1, if_pos h1]; exact List.Perm.swap _ _ _
    · by_cases h2 : k = q.1
      · rw [if_pos h2, if_neg h1, if_pos h2]; exact List.Perm.swap _ _ _
      · rw [if_neg h2, if_neg h1, if_neg h1, if_neg h2]; exact List.Perm.swap _ _ _
  | trans h1 h2 ih1 ih2 => exact (ih1 hn).trans (ih2 ((h1.map _).nodup_iff.1 hn))
theorem own_map {fr : Fr} {w : World} {m : Mem} {ρ : List Value} {φ : List Frag} (hc : Conc X st fr w m ρ φ) {i : Nat} {tk tv : Ty} {xs : List (tk.den × tv.den)} {v : Value} (hv : RepA m ρ (.map i) v) (hH : st.H.get i = .map tk tv xs) :
    ∃ xs', xs'.Perm xs ∧ ∃ b es cl, v = .map (some b) ∧ ρ[i]? = some (.map (some b)) ∧ φ[i]? = some [(b, .map es cl)] ∧ w.heap[b]? = some (.map es cl) ∧ EntL m tk tv xs' es.toList ∧ (xs'.map (·.1)).Nodup ∧ Births es cl := by
  simp only [RepA] at hv
  obtain ⟨f, hf, ho, hw⟩ := hc.obj hv.1
  rw [hH] at ho
  obtain ⟨xs', hp, b, es, cl, rfl, rfl, h1, h2, hB, h3⟩ := ho
  exact ⟨xs', hp, b, es, cl, rfl, hv.1, hf, hw (b, _) (List.mem_singleton.2 rfl), ent_of h1 h3, h2, hB⟩

theorem aop_makeMap (tk tv : Ty) {r : Option Operand} {K : AS → Prop} (hr : r = none) (k : K (st.new d (.map st.n) (.map tk tv []))) (hN : Nat.blt d N.n = true := by rfl) : AOp P N X ⟨some d, .makeMap T r, U, pos, aft, g⟩ K st :=
  aop_of fun Q fr w m ρ φ hc K' hK => by
    subst hr
    refine op_val (v := .map (some w.heap.size)) rfl hN (fun ac ha => ?_) ?_ (dk_new (new_push w (.map #[] 0)))
    · simp [execOp, Instr.makeMap, newObj, Sem.run]
    · refine hK _ _ _ _ _ _ (hc.newObj (h := .map (some w.heap.size)) (f := [(w.heap.size, .map #[] 0)]) (Mem.le_refl _) (hc.sh.alloc (new_push w _) rfl) ?_ ?_) k
      · exact ⟨_, List.Perm.refl _, _, #[], 0, rfl, rfl, rfl, by simp, ⟨by simp, fun e he => by simp at he⟩, fun i p e hp => by simp at hp⟩
      · simp only [RepA]; exact ⟨by rw [← hc.nρ]; simp, rfl⟩

theorem run_getObj {w : World} {b : Nat} {es : Array MapEntry} {cl : Nat} (h : w.heap[b]? = some (.map es cl)) : (getObj b).run P w = .ok (.map es cl) w := by
  simp [getObj, Sem.run, h]

theorem run_lookup {w : World} {m : Mem} {tk tv : Ty} [DecidableEq tk.den] {xs : List (tk.den × tv.den)} {kx : tk.den} {kT eT b cl : Nat} {es : Array MapEntry} {v : Value} {ok : Bool} (hU : Und P T (.map kT eT)) (hK : KeyT P kT tk) (hZ : ZeroW P eT tv) (hw : w.heap[b]? = some (.map es cl)) (he : EntL m tk tv xs es.toList) (hk : RV m tk kx v) :
    ∃ u, RV m tv ((mget xs kx).getD tv.dflt) u ∧ (Instr.lookup T (.map (some b)) v ok).run P w = .ok (if ok then .tuple #[u, .bool (mget xs kx).isSome] else u) w := by
  obtain ⟨r, h1, h2⟩ := hK.find m kx v tv xs es.toList w hk he
  have h3 := hK.chk m kx v es.isEmpty w hk
  cases r with
  | none =>
    obtain ⟨zv, h4, h5⟩ := hZ
    rw [h2]
    refine ⟨zv, h5 m, ?_⟩
    simp only [Instr.lookup, Sem.run_bind, run_underlying hU, Result.andThen_ok, run_getObj hw, h3, h1, h4 w, Sem.run_pure]
    cases ok <;> simp
  | some q =>
    obtain ⟨q, u⟩ := q
    obtain ⟨y, h4, h5, _⟩ := h2
    rw [h4]
    refine ⟨u, h5, ?_⟩
    simp only [Instr.lookup, Sem.run_bind, run_underlying hU, Result.andThen_ok, run_getObj hw, h3, h1, Sem.run_pure]
    cases ok <;> simp
theorem av_lookup2 {i kT eT : Nat} {tk tv : Ty} [DecidableEq tk.den] {xs : List (tk.den × tv.den)} {kx : tk.den} {r : AV} (hU : Und P T (.map kT eT)) (hK : KeyT P kT tk) (hZ : ZeroW P eT tv) (hx : aev st.l x = some (.map i)) (hy : aev st.l y = some (whole tk kx)) (hH : st.H.get i = .map tk tv xs) (hno : tk.fit kx = true) (hr : .tup [whole tv ((mget xs kx).getD tv.dflt), .bool (mget xs kx).isSome] = r) (hN : Nat.blt d N.n = true := by rfl) :
    AOpV P N X ⟨some d, .lookup T x y true, U, pos, aft, g⟩ r st :=
  av_of rfl fun Q fr w m ρ φ hc => by
    subst hr
    obtain ⟨v, h1, h2⟩ := hc.ev hx
    obtain ⟨u, h3, h4⟩ := hc.ev hy
    obtain ⟨xs', hp, b, es, cl, rfl, _, _, h5, h6, hn', _⟩ := own_map hc h2 hH
    rw [← mget_perm hp hn']
    obtain ⟨q, h7, h8⟩ := run_lookup (ok := true) hU hK hZ h5 h6 (whole_rv hno h4)
    refine ⟨.tuple #[q, .bool (mget xs' kx).isSome], ?_, fun K hk => op_val rfl hN (fun ac ha => ?_) hk⟩
    · simp only [RepA]; exact ⟨[q, .bool (mget xs' kx).isSome], rfl, by simp only [RepL]; exact ⟨rv_whole h7, rep_bool, trivial⟩⟩
    · simp only [execOp, ha.eval h1, ha.eval h3]
      rw [Sem.run_bind, h8]; rfl
theorem put_setObj {w : World} {b : Nat} {o o' : Obj} (h : w.heap[b]? = some o) : Put w { w with heap := w.heap.setIfInBounds b o' } b ∧ ({ w with heap := w.heap.setIfInBounds b o' } : World).heap[b]? = some o' := by
  have hlt := (Array.getElem?_eq_some_iff.1 h).1
  refine ⟨⟨rfl, rfl, rfl, by simp, fun k hk => ?_⟩, ?_⟩
  · simp only; rw [Array.getElem?_setIfInBounds_ne (fun e => hk e.symm)]
  · simp only; rw [Array.getElem?_setIfInBounds_self_of_lt hlt]

theorem ent_set {m : Mem} {tk tv : Ty} [DecidableEq tk.den] {kx : tk.den} {vx : tv.den} {kv vv : Value} (hk : RV m tk kx kv) (hv : RV m tv vx vv) : ∀ {x : List (tk.den × tv.den)} {es : List MapEntry} {i : Nat}, EntL m tk tv x es → (x[i]?).map (·.1) = some kx → (∀ j, j < i → (x[j]?).map (·.1) ≠ some kx) → ∀ (f : MapEntry → MapEntry), (∀ e, (f e).key = kv ∧ (f e).val = vv) → EntL m tk tv (mset x kx vx) (es.modify i f) := by
  intro x
  induction x with
  | nil => intro es i h hi _ f _; simp at hi
  | cons p x ih =>
    intro es i h hi hj f hf
    cases es with
    | nil => exact h.elim
    | cons e es =>
      cases i with
      | zero =>
        simp at hi
        simp only [mset, if_pos hi.symm, List.modify_zero_cons]
        exact ⟨⟨by rw [(hf e).1]; exact hk, by rw [(hf e).2]; exact hv⟩, h.2⟩
      | succ i =>
        have hne : ¬ kx = p.1 := by
          have := hj 0 (by omega)
          simp at this
          exact fun e => this e.symm
        simp only [mset, if_neg hne, List.modify_succ_cons]
        exact ⟨h.1, ih h.2 (by simpa using hi) (fun j hjj => by simpa using hj (j + 1) (by omega)) f hf⟩
theorem ent_push {m : Mem} {tk tv : Ty} [DecidableEq tk.den] {kx : tk.den} {vx : tv.den} {kv vv : Value} {bn : Nat} (hk : RV m tk kx kv) (hv : RV m tv vx vv) : ∀ {x : List (tk.den × tv.den)} {es : List MapEntry}, EntL m tk tv x es → mget x kx = none → EntL m tk tv (mset x kx vx) (es ++ [{ key := kv, val := vv, born := bn }]) := by
  intro x
  induction x with
  | nil => intro es h _; cases es with
    | nil => exact ⟨⟨hk, hv⟩, trivial⟩
    | cons => exact h.elim
  | cons p x ih =>
    intro es h hn
    cases es with
    | nil => exact h.elim
    | cons e es =>
      simp only [mget] at hn
      split at hn
      · cases hn
      · rename_i hne
        simp only [mset, if_neg hne, List.cons_append]
        exact ⟨h.1, ih h.2 hn⟩

theorem births_push {es : Array MapEntry} {cl : Nat} (h : Births es cl) (k v : Value) : Births (es.push { key := k, val := v, born := cl }) (cl + 1) := by
  obtain ⟨h1, h2⟩ := h
  refine ⟨?_, fun e he => ?_⟩
  · rw [Array.toList_push, List.map_append, List.nodup_append]
    refine ⟨h1, by simp, fun a ha b hb e => ?_⟩
    subst e
    obtain ⟨q, hq, rfl⟩ := List.mem_map.1 ha
    have := h2 q hq
    simp at hb
    omega
  · rw [Array.toList_push, List.mem_append] at he
    rcases he with he | he
    · have := h2 e he; omega
    · simp at he; subst he; simp
theorem born_modify {es : Array MapEntry} (i : Nat) (f : MapEntry → MapEntry) (hf : ∀ e, (f e).born = e.born) : (es.modify i f).toList.map (·.born) = es.toList.map (·.born) := by
  apply List.ext_getElem?
  intro j
  simp only [List.getElem?_map, Array.getElem?_toList, Array.getElem?_modify]
  split
  · cases es[j]? <;> simp [hf]
  · rfl
theorem births_modify {es : Array MapEntry} {cl : Nat} (h : Births es cl) (i : Nat) (f : MapEntry → MapEntry) (hf : ∀ e, (f e).born = e.born) : Births (es.modify i f) cl := by
  obtain ⟨h1, h2⟩ := h
  refine ⟨by rw [born_modify i f hf]; exact h1, fun e he => ?_⟩
  have : e.born ∈ (es.modify i f).toList.map (·.born) := List.mem_map.2 ⟨e, he, rfl⟩
  rw [born_modify i f hf] at this
  obtain ⟨q, hq, hb⟩ := List.mem_map.1 this
  have := h2 q hq
  omega
theorem run_mapUpdate {w : World} {m : Mem} {tk tv : Ty} [DecidableEq tk.den] {xs : List (tk.den × tv.den)} {kx : tk.den} {vx : tv.den} {kT eT b cl : Nat} {es : Array MapEntry} {kv vv : Value} (hU : Und P T (.map kT eT)) (hK : KeyT P kT tk) (hw : w.heap[b]? = some (.map es cl)) (he : EntL m tk tv xs es.toList) (hk : RV m tk kx kv) (hv : RV m tv vx vv) :
    ∃ es' cl', (Instr.mapUpdate T (.map (some b)) kv vv).run P w = .ok () { w with heap := w.heap.setIfInBounds b (.map es' cl') } ∧ EntL m tk tv (mset xs kx vx) es'.toList ∧ (Births es cl → Births es' cl') := by
  obtain ⟨r, h1, h2⟩ := hK.find m kx kv tv xs es.toList w hk he
  have h3 := hK.chk m kx kv false w hk
  have hset : ∀ o, (setObj b o).run P w = .ok () { w with heap := w.heap.setIfInBounds b o } := fun o => by simp [setObj, Sem.run, hw]
  cases r with
  | none =>
    refine ⟨es.push { key := kv, val := vv, born := cl }, cl + 1, ?_, ?_⟩
    · simp only [Instr.mapUpdate, Sem.run_bind, run_underlying hU, Result.andThen_ok, run_getObj hw, h3, h1, hset]
    · exact ⟨by rw [Array.toList_push]; exact ent_push hk hv he h2, fun h => births_push h kv vv⟩
  | some q =>
    obtain ⟨q, u⟩ := q
    obtain ⟨y, h4, h5, h6, ⟨e, h7⟩, h8⟩ := h2
    obtain ⟨_, hg⟩ := ent_get he
    obtain ⟨p, hp, hpk⟩ := Option.map_eq_some_iff.1 h6
    have hke := (hg q p e hp h7).1
    rw [hpk] at hke
    have h9 := hK.stays m kx e.key kv w hke hk
    have h10 : es[q]? = some e := by simpa using h7
    refine ⟨es.modify q fun e => { e with key := kv, val := vv }, cl, ?_, ?_⟩
    · simp only [Instr.mapUpdate, Sem.run_bind, run_underlying hU, Result.andThen_ok, run_getObj hw, h3, h1, h10, Option.map_some, Option.getD_some, h9, hset]
    · exact ⟨by rw [Array.toList_modify]; exact ent_set hk hv he h6 h8 _ (fun e => ⟨rfl, rfl⟩), fun h => births_modify h q _ (fun _ => rfl)⟩

theorem aop_mapSet {i kT eT : Nat} {tk tv : Ty} [DecidableEq tk.den] {xs : List (tk.den × tv.den)} {kx : tk.den} {vx : tv.den} {o : Oper} {K : AS → Prop} (hU : Und P T (.map kT eT)) (hK : KeyT P kT tk) (ho : o.op = .mapUpdate T x y z ∨ o.op = .insert T x y z) (hd : o.dst = none) (hx : aev st.l x = some (.map i)) (hy : aev st.l y = some (whole tk kx)) (hz : aev st.l z = some (whole tv vx)) (hH : st.H.get i = .map tk tv xs) (hno : tk.fit kx = true) (hno' : tv.fit vx = true)
    (k : K (st.upd i (.map tk tv (mset xs kx vx)))) : AOp P N X o K st :=
  aop_of fun Q fr w m ρ φ hc K' hK' => by
    obtain ⟨v, h1, h2⟩ := hc.ev hx
    obtain ⟨kv, h3, h4⟩ := hc.ev hy
    obtain ⟨vv, h5, h6⟩ := hc.ev hz
    obtain ⟨xs', hp, b, es, cl, rfl, hρ, hf, hw, he, hnd, hBi⟩ := own_map hc h2 hH
    obtain ⟨es', cl', hr, he', hBi'⟩ := run_mapUpdate hU hK hw he (whole_rv hno h4) (whole_rv hno' h6)
    obtain ⟨hP, hb'⟩ := put_setObj (o' := .map es' cl') hw
    have hfr := hc.front hf
    obtain ⟨g1, g2⟩ := ent_get he'
    refine op_skip (w' := { w with heap := w.heap.setIfInBounds b (.map es' cl') }) hd (fun ac ha => ?_) ?_ (dk_put hP hw rfl) ?_
    · rcases ho with ho | ho <;> simp only [execOp, ho, ha.eval h1, ha.eval h3, ha.eval h5, Sem.run_bind, hr] <;> rfl
    · exact hK' _ _ (st.upd i (.map tk tv (mset xs kx vx))) _ _ _ (hc.turn hρ hf (f' := [(b, .map es' cl')]) (hfr.put hP hb' rfl) ⟨_, mset_perm hp hnd kx vx, b, es', cl', rfl, rfl, g1, mset_nodup _ _ hnd, hBi' hBi, g2⟩) k
    · rcases ho with ho | ho <;> simp [nodef, ho]
end
end Go.Ab
namespace Go.Ab
open Go.RowKit Go.Shelf Go.Proofs Go.Eng

section
variable {P : Program} {N : Ev}
end
section
variable {P : Program} {N : Ev} {X : Cx} {Q : APost} {st : AS}
end
end Go.Ab
namespace Go.Ab
open Go.RowKit Go.Shelf Go.Proofs Go.Eng

theorem buildS_of {P : Program} {T E : Nat} {t : Ty} {z : Value} (h1 : P.underlying T = some (.slice E)) (h2 : (P.info? E).map (fun i => (i.zero, i.size)) = some (some z, t.cells)) (hz : z.cells.toList = zeroV t) : BuildS P T E t := by
  cases hi : P.info? E with
  | none => rw [hi] at h2; cases h2
  | some i => rw [hi] at h2; simp at h2; exact ⟨h1, i, z, hi, h2.1, h2.2, hz⟩

/-! what a function comes to: its text -/
abbrev w64 (z : Int) : Int := IntKind.wrap .i64 z
theorem chk_some {α : Type} {c : Bool} {a : Option α} {r : α} (h : (bif c then a else none) = some r) : c = true ∧ a = some r := by
  cases c with
  | true => exact ⟨rfl, h⟩
  | false => cases h
theorem bnd_some {α β : Type} {o : Option α} {f : α → Option β} {r : β} (h : o.bind f = some r) : ∃ x, o = some x ∧ f x = some r := Option.bind_eq_some_iff.1 h
theorem if_t {α : Type} {c : Bool} {a b : Option α} {r : α} (hc : c = true) (h : (bif c then a else b) = some r) : a = some r := by subst hc; exact h
theorem if_f {α : Type} {c : Bool} {a b : Option α} {r : α} (hc : c = false) (h : (bif c then a else b) = some r) : b = some r := by subst hc; exact h
theorem get_g {α : Type} [Inhabited α] {g : Bool} {o : Option α} (h : (!g || o.isSome) = true) (hg : g = true) : o = some (o.getD default) := by
  subst hg
  cases o with
  | none => simp at h
  | some x => rfl

/-- Rounds of an index. -/
def rng {S R : Type} (g : Int → S → Option (S ⊕ R)) : Nat → Int → S → Option (S ⊕ R)
  | 0, _, s => some (.inl s)
  | k + 1, i, s => (g i s).bind fun o => match o with
    | .inl s' => rng g k (i + 1) s'
    | .inr r => some (.inr r)
/-- One round as the machine goes it. -/
def rb {S R : Type} (n : Int) (g : Int → S → Option (S ⊕ R)) (p : Int × S) : Option ((Int × S) ⊕ (S ⊕ R)) :=
  bif decide (p.1 < n) then (g p.1 p.2).bind fun o => match o with
    | .inl s' => some (.inl (w64 (p.1 + 1), s'))
    | .inr r => some (.inr (.inr r))
  else some (.inr (.inl p.2))
theorem rng_lrun {S R : Type} {n : Int} {g : Int → S → Option (S ⊕ R)} (hn : n ≤ 9223372036854775807) : ∀ (k : Nat) (i : Int) (s : S) (o : S ⊕ R), (n - i).toNat = k → 0 ≤ i → rng g k i s = some o → lrun (rb n g) (k + 1) (i, s) = some o := by
  intro k
  induction k with
  | zero =>
    intro i s o hk h0 h
    simp only [rng, Option.some.injEq] at h
    subst h
    have : decide (i < n) = false := by simp; omega
    simp [lrun, rb, this]
  | succ k ih =>
    intro i s o hk h0 h
    simp only [rng] at h
    obtain ⟨q, hq, h⟩ := bnd_some h
    have hlt : decide (i < n) = true := by simp; omega
    have hw : w64 (i + 1) = i + 1 := wrap_i64 (by omega)
    rw [lrun, rb, hlt, cond_true, hq]
    cases q with
    | inl s' => simp only [Option.bind_some, hw]; exact ih (i + 1) s' o (by omega) (by omega) h
    | inr r => simpa using h

def joinQ {S R : Type} (X : Cx) (M : S → AS) (Qx : R → APost) : S ⊕ R → APost
  | .inl s, .normal, st => Wk X st (M s)
  | .inl _, _, _ => False
  | .inr _, .normal, _ => False
  | .inr r, e, st => Qx r e st

section
variable {P : Program} {N : Ev} {X : Cx} {Q : APost} {st : AS}
theorem awc_cond_f {c : Operand} {x y : Code} (hc : aev st.l c = some (.bool false)) (ht : AWC P N X y Q st) : AWC P N X (.cond c x y) Q st := awc_cond hc (fun h => by cases h) (fun _ => ht)

/-- What goes on in one way behind several. -/
theorem awc_join {S R : Type} {c d : Code} (M : S → AS) (Qx : R → APost) {p : Option (S ⊕ R)} {o : S ⊕ R} (hp : p = some o) (h1 : p = some o → AWC P N X c (joinQ X M Qx o) st) (h2 : ∀ s, o = .inl s → AWC P N X d Q (M s)) (h3 : ∀ r, o = .inr r → ∀ e st, e ≠ .normal → Qx r e st → Q e st) : AWC P N X (.seq c d) Q st := by
  refine awc_seq (awc_mono ?_ (h1 hp))
  intro e st' hq
  cases o with
  | inl s =>
    cases e with
    | normal => exact awc_wk hq (h2 s rfl)
    | _ => exact hq.elim
  | inr r =>
    cases e with
    | normal => exact hq.elim
    | ret => exact h3 r rfl _ _ (by simp) hq
    | exit i => exact h3 r rfl _ _ (by simp) hq
    | goto i => exact h3 r rfl _ _ (by simp) hq
    | panic i => exact h3 r rfl _ _ (by simp) hq
    | outgrown => exact h3 r rfl _ _ (by simp) hq

/-- A loop over an index. -/
theorem awc_range {S R : Type} {c : Code} (n : Int) (g : Int → S → Option (S ⊕ R)) (Inv : Int × S → AS) (Qx : S ⊕ R → APost) {s : S} {o : S ⊕ R} (hn : n ≤ 9223372036854775807) (hr : rng g n.toNat 0 s = some o) (hi : Wk X st (Inv (0, s))) (hQ : ∀ e st, Qx o e st → Q e st)
    (body : ∀ i s o, rb n g (i, s) = some o → AWC P N X c (loopQ X Inv Qx o) (Inv (i, s))) : AWC P N X (.loop c) Q st :=
  awc_loop Inv (rb n g) Qx (rng_lrun hn n.toNat 0 s o (by omega) (Int.le_refl _) hr) hi hQ fun p o h => body p.1 p.2 o h
theorem rb_t {S R : Type} {n i : Int} {g : Int → S → Option (S ⊕ R)} {s : S} {o : (Int × S) ⊕ (S ⊕ R)} (hc : decide (i < n) = true) (h : rb n g (i, s) = some o) : ∃ q, g i s = some q ∧ o = match q with
    | .inl s' => .inl (w64 (i + 1), s')
    | .inr r => .inr (.inr r) := by
  unfold rb at h
  simp only [hc, cond_true] at h
  obtain ⟨q, hq, h⟩ := bnd_some h
  refine ⟨q, hq, ?_⟩
  cases q with
  | inl s' => simp at h; exact h.symm
  | inr r => simp at h; exact h.symm
theorem rb_f {S R : Type} {n i : Int} {g : Int → S → Option (S ⊕ R)} {s : S} {o : (Int × S) ⊕ (S ⊕ R)} (hc : decide (i < n) = false) (h : rb n g (i, s) = some o) : o = .inr (.inl s) := by
  unfold rb at h
  simp only [hc, cond_false] at h
  simp at h; exact h.symm

/-- How long a slice is at most. -/
theorem awc_len {c : Code} {t : Nat} {ty : Ty} {x : List ty.den} (hx : st.l.look t = some (.sl ty x)) (k : x.length ≤ cap47 → AWC P N X c Q st) : AWC P N X c Q st := by
  intro fr w m ρ φ hc
  obtain ⟨v, h1, h2⟩ := hc.slots t _ hx
  simp only [RepA] at h2
  obtain ⟨_, _, _, _, h3, _⟩ := rc_slice h2
  exact k h3 fr w m ρ φ hc
theorem len_ok {n : Nat} (h : n ≤ cap47) : ((n : Nat) : Int) ≤ 9223372036854775807 := by
  have : cap47 = 140737488355328 := rfl
  omega

/-- Rows of the call's own are read alone from now on. -/
theorem frz_conc {fr : Fr} {w : World} {m : Mem} {ρ : List Value} {φ : List Frag} (hc : Conc X st fr w m ρ φ) {i : Nat} {E : TypeId} {ty : Ty} {x : List ty.den} (hH : st.H.get i = .sl E ty x) {v : Value} (hv : RepA m ρ (.osl i) v) :
    ∃ m', m.le m' ∧ Conc X (st.upd i .dead) fr w m' ρ (φ.set i []) ∧ RepA m' ρ (.sl ty x) v := by
  simp only [RepA] at hv
  obtain ⟨f, hf, ho, hw⟩ := hc.obj hv.1
  rw [hH] at ho
  have hfr := hc.front hf
  have hz := hfr.frz
  have hle := Mem.le_add m f
  have h2 : Conc X (st.upd i .dead) fr w (m.add f) ρ (φ.set i []) := by
    refine ⟨hc.mle.trans hle, hc.pre, hc.nρ, by rw [List.length_set]; exact hc.nφ, fun t a ha => let ⟨v, h3, h4⟩ := hc.slots t a ha; ⟨v, h3, RepA.mono hle (fun _ _ h => h) a h4⟩, ?_, ?_⟩
    · intro j hd g hj hg
      simp only [AS.upd, AH.get_cons]
      by_cases e : i = j
      · subst e
        rw [if_pos rfl]
        rw [List.getElem?_set_self (List.getElem?_eq_some_iff.1 hf).1] at hg
        cases hg; rfl
      · rw [if_neg e]
        rw [List.getElem?_set_ne e] at hg
        exact (hc.objs j hd g hj hg).mono hle (fun _ _ h => h)
    · refine hz.perm ?_
      exact ((frag_split hf []).2.append_right _).symm
  refine ⟨m.add f, hle, h2, ?_⟩
  simp only [RepA]
  have hnd := hfr.nd
  rw [List.map_append, List.nodup_append] at hnd
  obtain ⟨h0, ⟨rfl, rfl, rfl⟩ | ⟨b, c, cs, vs, h3, h4, q1, q2, q3, q4, q5⟩⟩ := ho
  · simp only [RC]; exact ⟨none, 0, 0, rfl, rfl, Nat.le_refl _, Nat.zero_le _, 0, 0, fun h => absurd h (by omega), fun i y hy => by simp at hy⟩
  · subst h4
    rw [h3]
    exact rows_slice (add_get (o := .cells cs E (0, 0)) hnd.1 (List.mem_singleton.2 rfl) (hfr.dis (b, .cells cs E (0, 0)) (by simp)) rfl) (q4.mono hle) q5 q1 h0
def putAll (l : AFr) (a : AV) : List Nat → AFr
  | [] => l
  | t :: r => (t, a) :: putAll l a r
theorem wk_frz (ts : List Nat) (i : Nat) {E : TypeId} {ty : Ty} {x : List ty.den} (hi : Nat.blt i st.n = true) (hH : st.H.get i = .sl E ty x) (ht : ts.map st.l.look = ts.map fun _ => some (.osl i)) : Wk X st ⟨putAll st.l (.sl ty x) ts, (i, .dead) :: st.H, st.n⟩ := by
  intro fr w m ρ φ hc
  cases ts with
  | nil =>
    have hil : i < ρ.length := by rw [hc.nρ]; simpa using hi
    obtain ⟨f, hf, ho, _⟩ := hc.obj (List.getElem?_eq_getElem hil)
    rw [hH] at ho
    have hone : (ρ[i]'hil).oneCell' = true := by
      obtain ⟨_, ⟨_, h, _⟩ | ⟨_, _, _, _, h, _⟩⟩ := ho <;> rw [h] <;> rfl
    obtain ⟨m', _, h, _⟩ := frz_conc hc hH (v := ρ[i]'hil) (by simp only [RepA]; exact ⟨List.getElem?_eq_getElem hil, hone⟩)
    exact ⟨m', ρ, _, h⟩
  | cons t r =>
    have h0 : st.l.look t = some (.osl i) := by simp at ht; exact ht.1
    obtain ⟨v, h1, h2⟩ := hc.slots t _ h0
    obtain ⟨m', h3, h4, h5⟩ := frz_conc hc hH h2
    simp only [RepA] at h2
    refine ⟨m', ρ, _, h4.mle, h4.pre, h4.nρ, h4.nφ, ?_, h4.objs, h4.sh⟩
    have key : ∀ (us : List Nat), (us.map st.l.look = us.map fun _ => some (.osl i)) → ∀ q a, (putAll st.l (.sl ty x) us).look q = some a → ∃ u, fr.look q = some u ∧ RepA m' ρ a u := by
      intro us
      induction us with
      | nil => intro _ q a hq; exact h4.slots q a hq
      | cons s us ih =>
        intro hs q a hq
        simp only [List.map_cons, List.cons.injEq] at hs
        simp only [putAll, AFr.look_cons] at hq
        split at hq
        · rename_i e; subst e; cases hq
          obtain ⟨u, g1, g2⟩ := hc.slots s _ hs.1
          simp only [RepA] at g2
          have : u = v := by have := g2.1.symm.trans h2.1; exact Option.some.inj this
          subst this
          exact ⟨_, g1, h5⟩
        · exact ih hs.2 q a hq
    exact key _ ht

end
/-! a call that reads what the caller owns -/
section
variable {P : Program} {N : Ev} {X : Cx} {Q : APost} {st : AS}
variable {d : Nat} {T U T' : TypeId} {pos : String} {aft : Array Edge} {g : Option (Nat × Bool)} {x y : Operand}
theorem allM_nil {w : World} {b : Nat} {o : Obj} (h : w.heap[b]? = some o) (hc : ctl o = false) : allM w [] b = some o := by unfold allM; simp [h, Option.filter, hc]
theorem of_allM {w : World} {b : Nat} {o : Obj} (h : allM w [] b = some o) : w.heap[b]? = some o ∧ ctl o = false := by
  unfold allM at h
  simp only [List.map_nil, List.contains_nil, Bool.false_eq_true, if_false] at h
  have := Option.filter_eq_some_iff.1 h
  exact ⟨this.1, by simpa using this.2⟩
theorem bor_rep {fr : Fr} {w : World} {m : Mem} {ρ : List Value} {φ : List Frag} (hc : Conc X st fr w m ρ φ) {a : AV} {v : Value} (h : RepA m ρ a v) : RepA (allM w []) [] (coeA st.H [] 4 a) v := by
  have hle : m.le (allM w []) := fun b o hb => allM_nil (hc.sh.fz b o hb) (hc.sh.mctl b o hb)
  refine coe_rep (φ := φ) hle (fun i j h hp => by simp [posN] at hp) (fun i h _ hi => ?_) 4 h
  obtain ⟨f, hf, h1, hw⟩ := hc.obj hi
  exact ⟨f, h1, fun p hp hpc => allM_nil (hw p hp) hpc⟩
theorem bor_repL {fr : Fr} {w : World} {m : Mem} {ρ : List Value} {φ : List Frag} (hc : Conc X st fr w m ρ φ) : ∀ {as' : List AV} {vs : List Value}, RepL m ρ as' vs → RepL (allM w []) [] (as'.map (coeA st.H [] 4)) vs := by
  intro as'
  induction as' with
  | nil => intro vs h; cases vs with
    | nil => simp [RepL]
    | cons => simp [RepL] at h
  | cons a as' ih => intro vs h; cases vs with
    | nil => simp [RepL] at h
    | cons v vs => simp only [List.map_cons, RepL] at h ⊢; exact ⟨bor_rep hc h.1, ih h.2⟩
def flatT : AV → Bool
  | .tup vs => vs.all flatB
  | a => flatB a
theorem flatT_rep {m m' : Mem} {ρ ρ' : List Value} {a : AV} {v : Value} (hf : flatT a = true) (h : RepA m ρ a v) : RepA m' ρ' a v := by
  have hflat : ∀ {a : AV} {v : Value}, flatB a = true → RepA m ρ a v → RepA m' ρ' a v := by
    intro a v hf h
    cases a <;> simp [flatB] at hf <;> simpa only [RepA] using h
  have hL : ∀ {as' : List AV} {vs : List Value}, (as'.all flatB) = true → RepL m ρ as' vs → RepL m' ρ' as' vs := by
    intro as'
    induction as' with
    | nil => intro vs _ h; cases vs with
      | nil => simp [RepL]
      | cons => simp [RepL] at h
    | cons a as' ih => intro vs hf h; cases vs with
      | nil => simp [RepL] at h
      | cons v vs => simp only [List.all_cons, Bool.and_eq_true] at hf; simp only [RepL] at h ⊢; exact ⟨hflat hf.1 h.1, ih hf.2 h.2⟩
  cases a with
  | tup vs => simp only [flatT] at hf; simp only [RepA] at h ⊢; obtain ⟨us, h1, h2⟩ := h; exact ⟨us, h1, hL hf h2⟩
  | int => exact hflat hf h
  | bool => exact hflat hf h
  | str => exact hflat hf h
  | _ => simp [flatT, flatB] at hf
/-- A call that owns nothing, of arguments seen more weakly. -/
theorem le_allM {e w : World} {m : Mem} {f : Frag} (h : SH e w m f) : m.le (allM w []) := fun b o hb => allM_nil (h.fz b o hb) (h.mctl b o hb)
theorem av_callN {f : FuncId} {xs : List Operand} {as' bs rs : List AV} {ts : Array TypeId} {r : AV} (hr : RunsM X.m P f bs [] fun r H' => r = rs ∧ H' = []) (hf : Enters P f) (hx : xs.map (aev st.l) = as'.map some) (hcv : cvL bs as') (hrs : tupA rs = r) (hcl : renL [] bs = bs := by rfl) (hN : Nat.blt d N.n = true := by rfl) :
    AOpV P N X ⟨some d, .call ⟨.value (.func f), xs.toArray, ts⟩, U, pos, aft, g⟩ r st := by
  intro Q fr w m ρ φ hc
  obtain ⟨vs, h1, h2⟩ := hc.evl hx
  subst hrs
  refine op_call hf h1 (ret_pure hr hcl hc (cvL_rep hcv h2)) hN ?_
  rintro v w' ⟨hb, m', h3, h4, h5⟩
  exact ⟨d, v, rfl, rfl, hb, m', h3, h4, h5⟩
theorem av_callB {f : FuncId} {xs : List Operand} {as' bs rs : List AV} {ts : Array TypeId} {r : AV} (hr : RunsM X.m P f bs [] fun r H' => r = rs ∧ H' = []) (hf : Enters P f) (hx : xs.map (aev st.l) = as'.map some) (hbs : cvL bs (as'.map (coeA st.H [] 4))) (hrs : tupA rs = r) (hfl : flatT r = true) (hN : Nat.blt d N.n = true := by rfl) :
    AOpV P N X ⟨some d, .call ⟨.value (.func f), xs.toArray, ts⟩, U, pos, aft, g⟩ r st := by
  intro Q fr w m ρ φ hc
  obtain ⟨vs, h1, h2⟩ := hc.evl hx
  subst hrs
  have hv : RepL (allM w []) [] bs vs := cvL_rep hbs (bor_repL hc h2)
  have hsh : SH X.e w (allM w []) [] := ⟨hc.sh.os, hc.sh.tape, hc.sh.output, fun b o hb => (of_allM hb).1, fun p hp => by simp at hp, by simp, fun p hp => by simp at hp, fun p hp => by simp at hp, fun b o hb => (of_allM hb).2, hc.sh.esz⟩
  have hret : Ret P f vs.toArray w fun v w' => Below w.heap.size w w' ∧ RepA m ρ (tupA rs) v := by
    refine Calls.mono (hr X.e w _ [] [] [] vs (hc.mle.trans (le_allM hc.sh)) hv ⟨rfl, rfl, fun i o h f hi => by simp at hi⟩ (by simpa using hsh)) ?_
    rintro e w' ⟨v, he, hd, rs', H', m', ρ', φ', ⟨rfl, rfl⟩, hm, _, _, ho, hs, us, hu, rfl⟩
    have hφ : φ' = [] := List.eq_nil_of_length_eq_zero ho.nφ
    subst hφ
    exact ⟨_, he, hd, below_all hsh (by simpa using hs) hm hd.2 hd.1, flatT_rep hfl (rep_tup hu)⟩
  refine op_call hf h1 hret hN ?_
  rintro v w' ⟨hb, h5⟩
  exact ⟨d, v, rfl, rfl, hb, m, Mem.le_refl _, hc.sh.ext hb, h5⟩
/-! a function value that came in -/
/-- What holds of a function value that came in: that it is one of the program's. -/
structure FnIn (P : Program) (f : FuncId) (caps : List AV) : Prop where
  ent : Enters P f
theorem ret_pure0 {f : FuncId} {as' rs : List AV} {fr : Fr} {w : World} {m : Mem} {ρ : List Value} {φ : List Frag} {vs : List Value} (hr : RunsM X.m P f as' [] fun r H' => r = rs ∧ H' = []) (hc : Conc X st fr w m ρ φ) (hv : RepL m [] as' vs) :
    Ret P f vs.toArray w fun v w' => Below w.heap.size w w' ∧ ∃ m', m.le m' ∧ SH X.e w' m' (φ.flatten ++ X.F) ∧ RepA m' ρ (tupA rs) v := by
  obtain ⟨h1, h2⟩ := sh_all hc.sh
  have := hr X.e w _ [] [] (φ.flatten ++ X.F) vs (hc.mle.trans h2) (RepL.mono h2 (fun _ _ h => h) _ hv) ⟨rfl, rfl, fun i o h f hi => by simp at hi⟩ (by simpa using h1)
  refine Calls.mono this ?_
  rintro e w' ⟨v, he, hd, rs', H', m', ρ', φ', ⟨rfl, rfl⟩, hm, _, _, ho, hs, us, hu, rfl⟩
  have hρ : ρ' = [] := List.eq_nil_of_length_eq_zero ho.nρ
  have hφ : φ' = [] := List.eq_nil_of_length_eq_zero ho.nφ
  subst hρ hφ
  have hs' : SH X.e w' m' (φ.flatten ++ X.F) := by simpa using hs
  exact ⟨_, he, hd, below_all h1 hs' hm hd.2 hd.1, m', h2.trans hm, hs', RepA.mono (Mem.le_refl _) (fun i h hi => by simp at hi) _ (rep_tup hu)⟩
theorem rep_clo_fn {m : Mem} {ρ : List Value} {f : FuncId} {caps : List AV} {v : Value} (h : RepA m ρ (.clo (.fn f [] caps)) v) : ∃ ws : List Value, v = .func (.func f) #[] ws.toArray ∧ RepL m [] caps ws := by
  simp only [RepA] at h
  obtain ⟨us, ws, rfl, h5, h6⟩ := h
  cases us with
  | nil => exact ⟨ws, rfl, h6⟩
  | cons => simp [RepL] at h5
theorem av_callq {f : FuncId} {fx : Operand} {caps : List AV} {xs : List Operand} {as' rs : List AV} {ts : Array TypeId} {r : AV} (hfx : aev st.l fx = some (.clo (.fn f [] caps))) (hr : RunsM X.m P f (as' ++ caps) [] fun r H' => r = rs ∧ H' = []) (hf : FnIn P f caps) (hx : xs.map (aev st.l) = as'.map some) (hrs : tupA rs = r) (hcl : renL [] as' = as') (hN : Nat.blt d N.n = true := by rfl) :
    AOpV P N X ⟨some d, .call ⟨.value fx, xs.toArray, ts⟩, U, pos, aft, g⟩ r st := by
  intro Q fr w m ρ φ hc
  obtain ⟨vs, h1, h2⟩ := hc.evl hx
  obtain ⟨v, h3, h4⟩ := hc.ev hfx
  obtain ⟨ws, rfl, h6⟩ := rep_clo_fn h4
  subst hrs
  have h2' : RepL m [] as' vs := by
    refine renL_fwd (σ := []) (ρ := ρ) (fun i j u hi _ => by simp at hi) as' ?_
    rw [hcl]; exact h2
  refine op_callv (args := (vs ++ ws).toArray) h3 hf.ent h1 (by simp) (ret_pure0 hr hc (h2'.app h6)) hN ?_
  rintro v w' ⟨hb, m', h7, h8, h9⟩
  exact ⟨d, v, rfl, rfl, hb, m', h7, h8, h9⟩
end
end Go.Ab
namespace Go.Ab
open Go.RowKit Go.Shelf Go.Proofs Go.Eng

/-! regions whose order is drawn, with a tail that waits for the rest by way of others -/
/-- In the tail each operation waits for the one ahead. -/
def Consec (m : Nat) (ops : List Oper) : Prop := ∀ (i : Nat) (o : Oper), m < i → ops[i]? = some o → ∃ e ∈ o.after, Region.binds .any e = true ∧ e.on = i - 1
/-- What is listed has what it waits for listed. -/
def Shut (ops : List Oper) (listed : Array Bool) : Prop := ∀ (i : Nat) (o : Oper), ops[i]? = some o → listed[i]? = some true → ∀ e ∈ o.after, Region.binds .any e = true → listed[e.on]? = some true
/-- Of each operation one that waits for it, towards the tail. -/
def nextOk (m : Nat) (ops : List Oper) (nx : List Nat) : Bool := (nx.zipIdx).all (fun (q, j) => Nat.blt j q && Nat.ble q m && (match ops[q]? with
  | some o => o.after.toList.any fun e => Region.binds .any e && Nat.beq e.on j
  | none => false)) && Nat.beq nx.length m
theorem next_all {m : Nat} {ops : List Oper} {nx : List Nat} (h : nextOk m ops nx = true) {listed : Array Bool} (hs : listed.size = ops.length) (hcl : Shut ops listed) {k : Nat} {o : Oper} (hk : m ≤ k) (ho : ops[k]? = some o) (hrd : ∀ e ∈ o.after, Region.binds .any e = true → listed[e.on]? = some true) (hcons : Consec m ops) :
    ∀ j, j < m → listed[j]? = some true := by
  simp only [nextOk, Bool.and_eq_true, List.all_eq_true] at h
  obtain ⟨h1, h2⟩ := h
  have h2 := Nat.eq_of_beq_eq_true h2
  -- the tail's first operation is listed, or it is this one
  have hm : m = k ∨ listed[m]? = some true := by
    have key : ∀ d, m + d = k → m = k ∨ listed[m]? = some true := by
      intro d hd
      by_cases e : d = 0
      · left; omega
      · right
        have : ∀ q, q < d → listed[k - 1 - q]? = some true := by
          intro q
          induction q with
          | zero =>
            intro _
            obtain ⟨e, he, hb, hon⟩ := hcons k o (by omega) ho
            have := hrd e he hb
            rw [hon] at this; simpa using this
          | succ q ih =>
            intro hq
            have h3 := ih (by omega)
            have hlt := (Array.getElem?_eq_some_iff.1 h3).1
            have ho' : ops[k - 1 - q]? = some (ops[k - 1 - q]'(by omega)) := List.getElem?_eq_getElem _
            obtain ⟨e, he, hb, hon⟩ := hcons _ _ (by omega) ho'
            have := hcl _ _ ho' h3 e he hb
            rw [hon] at this
            rw [show k - 1 - (q + 1) = k - 1 - q - 1 by omega]; exact this
        have := this (d - 1) (by omega)
        rwa [show k - 1 - (d - 1) = m by omega] at this
    exact key (k - m) (by omega)
  have key : ∀ d j, m - j ≤ d → j < m → listed[j]? = some true := by
    intro d
    induction d with
    | zero => intro j h1 h2; omega
    | succ d ih =>
      intro j hd hj
      obtain ⟨q, hq⟩ : ∃ q, nx[j]? = some q := ⟨_, List.getElem?_eq_getElem (by omega)⟩
      have h3 := h1 (q, j) (by rw [List.mem_zipIdx_iff_getElem?]; simpa using hq)
      simp only [Bool.and_eq_true, Nat.blt_eq] at h3
      obtain ⟨⟨h4, h5⟩, h6⟩ := h3
      have h5 := Nat.le_of_ble_eq_true h5
      split at h6
      · rename_i o' ho'
        rw [List.any_eq_true] at h6
        obtain ⟨e, he, hb⟩ := h6
        simp only [Bool.and_eq_true] at hb
        have hon := Nat.eq_of_beq_eq_true hb.2
        have hq' : (∀ e ∈ o'.after, Region.binds .any e = true → listed[e.on]? = some true) := by
          rcases Nat.lt_or_ge q m with h7 | h7
          · exact hcl q o' ho' (ih q (by omega) h7)
          · have hqm : q = m := by omega
            subst hqm
            rcases hm with rfl | hm
            · rw [ho] at ho'; cases ho'; exact hrd
            · exact hcl _ o' ho' hm
        rw [← hon]; exact hq' e (Array.mem_toList_iff.1 he) hb.1
      · cases h6
  exact fun j hj => key m j (by omega) hj
theorem shut_set {ops : List Oper} {listed : Array Bool} (hcl : Shut ops listed) (hs : listed.size = ops.length) {i : Nat} {o : Oper} (ho : ops[i]? = some o) (hrd : ∀ e ∈ o.after, Region.binds .any e = true → listed[e.on]? = some true) : Shut ops (listed.setIfInBounds i true) := by
  have hset : ∀ (j : Nat), listed[j]? = some true → (listed.setIfInBounds i true)[j]? = some true := by
    intro j hj
    by_cases e : i = j
    · subst e; rw [Array.getElem?_setIfInBounds_self_of_lt (Array.getElem?_eq_some_iff.1 hj).1]
    · rw [Array.getElem?_setIfInBounds_ne e]; exact hj
  intro j o' ho' hj e he hb
  by_cases e1 : i = j
  · subst e1
    rw [ho] at ho'; cases ho'
    exact hset _ (hrd e he hb)
  · rw [Array.getElem?_setIfInBounds_ne e1] at hj
    exact hset _ (hcl j o' ho' hj e he hb)

section
variable {P : Program} {N : Ev} {Q : Post} {l : Fr} {w : World}
theorem ready_tail2 {ops : List Oper} {m : Nat} (hch : Consec m ops) (hback : ∀ (i : Nat) (o : Oper), ops[i]? = some o → ∀ e ∈ o.after, Region.binds .any e = true → e.on < i) {listed : Array Bool} (hs : listed.size = ops.length) {k : Nat} (hk : m ≤ k)
    (hl : ∀ j, j < ops.length → listed[j]? = some (decide (j < k))) : Region.ready .any ops.toArray listed = if k < ops.length then [k] else [] := by
  have hmem : ∀ i, i ∈ Region.ready .any ops.toArray listed ↔ i < ops.length ∧ i = k := by
    intro i
    simp only [Region.ready, List.mem_filter, List.mem_range, List.size_toArray]
    constructor
    · rintro ⟨hi, h⟩
      refine ⟨hi, ?_⟩
      rw [Bool.and_eq_true] at h
      obtain ⟨h1, h2⟩ := h
      have ho0 : ops[i]? = some (ops[i]'hi) := List.getElem?_eq_getElem hi
      have ho : ops.toArray[i]? = some (ops[i]'hi) := by simp
      have hik : ¬ i < k := by
        intro hik
        simp [Array.getD_eq_getD_getElem?, hl i hi, hik] at h1
      rcases Nat.lt_or_ge k i with h3 | h3
      · exfalso
        obtain ⟨e, he, hb, hon⟩ := hch i _ (by omega) ho0
        simp only [ho, Option.map_some, Option.getD_some, Array.all_eq_true'] at h2
        have := h2 e he
        have hkl : i - 1 < ops.length := by omega
        have hnk : ¬ i - 1 < k := by omega
        simp [hb, hon, Array.getD_eq_getD_getElem?, hl (i - 1) hkl] at this
        omega
      · omega
    · rintro ⟨hi, rfl⟩
      refine ⟨hi, ?_⟩
      have ho0 : ops[i]? = some (ops[i]'hi) := List.getElem?_eq_getElem hi
      have ho : ops.toArray[i]? = some (ops[i]'hi) := by simp
      rw [Bool.and_eq_true]
      refine ⟨by simp [Array.getD_eq_getD_getElem?, hl i hi], ?_⟩
      simp only [ho, Option.map_some, Option.getD_some, Array.all_eq_true']
      intro e he
      by_cases hb : Region.binds .any e = true
      · have hlt := hback i _ ho0 e he hb
        simp [hb, Array.getD_eq_getD_getElem?, hl e.on (by omega), hlt]
      · simp [hb]
  have hnd : (Region.ready .any ops.toArray listed).Nodup := by
    unfold Region.ready
    exact List.Pairwise.filter _ List.nodup_range
  generalize Region.ready .any ops.toArray listed = r at hmem hnd
  match r, hmem, hnd with
  | [], hmem, _ =>
    by_cases h : k < ops.length
    · have := (hmem k).2 ⟨h, rfl⟩; cases this
    · rw [if_neg h]
  | [x], hmem, _ =>
    have := (hmem x).1 (by simp)
    obtain ⟨h1, rfl⟩ := this
    rw [if_pos h1]
  | x :: y :: r, hmem, hnd =>
    have h1 := (hmem x).1 (by simp)
    have h2 := (hmem y).1 (by simp)
    have hxy : x = y := by omega
    subst hxy
    simp at hnd

theorem tail_any2 {ops : List Oper} {m : Nat} (hch : Consec m ops) (hback : ∀ (i : Nat) (o : Oper), ops[i]? = some o → ∀ e ∈ o.after, Region.binds .any e = true → e.on < i) :
    ∀ (fuel k : Nat) (listed : Array Bool) (a : Act) (W : World), m ≤ k → k + fuel ≥ ops.length → k ≤ ops.length → listed.size = ops.length → (∀ j, j < ops.length → listed[j]? = some (decide (j < k))) →
      wpListIn (FW N.ro) 0 P ops.toArray (up N Q) (ops.drop k) a W → wpAnyIn (FW N.ro) 0 P .any ops.toArray (up N Q) fuel listed a W := by
  intro fuel
  induction fuel with
  | zero =>
    intro k listed a W hmk hkf hkl hs hl h
    have hk : k = ops.length := by omega
    subst hk
    rw [List.drop_length] at h
    refine ⟨?_, h⟩
    rw [ready_tail2 hch hback hs hmk hl, if_neg (by omega)]
  | succ fuel ih =>
    intro k listed a W hmk hkf hkl hs hl h
    by_cases hk : k < ops.length
    · refine ⟨fun hr => ?_, ?_⟩
      · rw [ready_tail2 hch hback hs hmk hl, if_pos hk] at hr; cases hr
      · intro i hi
        rw [ready_tail2 hch hback hs hmk hl, if_pos hk] at hi
        simp only [List.mem_singleton] at hi
        subst hi
        rw [List.drop_eq_getElem_cons hk] at h
        have ho : ops.toArray[i]? = some (ops[i]'hk) := by simp [List.getElem?_eq_getElem hk]
        have hl' : ∀ j, j < ops.length → (listed.setIfInBounds i true)[j]? = some (decide (j < i + 1)) := by
          intro j hj
          by_cases e : i = j
          · subst e
            rw [Array.getElem?_setIfInBounds_self_of_lt (by omega)]; simp
          · rw [Array.getElem?_setIfInBounds_ne e, hl j hj]
            congr 1
            by_cases h1 : j < i
            · simp [h1]; omega
            · simp [h1]; omega
        have hnext : ∀ a' W', wpListIn (FW N.ro) 0 P ops.toArray (up N Q) (ops.drop (i + 1)) a' W' → wpAnyIn (FW N.ro) 0 P .any ops.toArray (up N Q) fuel (listed.setIfInBounds i true) a' W' :=
          fun a' W' h' => ih (i + 1) _ a' W' (by omega) (by omega) (by omega) (by simp [hs]) hl' h'
        unfold wpOpIn
        rw [ho]
        simp only []
        unfold wpListIn at h
        split
        · rename_i hw
          rw [if_pos hw] at h
          exact Oper.wpIn_mono hnext h
        · rename_i hw
          rw [if_neg hw] at h
          exact ⟨h.1, hnext _ _ h.2⟩
    · have hk' : k = ops.length := by omega
      subst hk'
      rw [List.drop_length] at h
      refine ⟨fun _ => h, ?_⟩
      intro i hi
      rw [ready_tail2 hch hback hs hmk hl, if_neg hk] at hi
      cases hi

theorem draw_tail2 {S : World → World → Prop} (hS : SR S) {ops : List Oper} {m : Nat} (hm : m ≤ ops.length) {Φ : List VP} {dep : List (List Nat)} {lb : Fr} (hok : drawOk N.n (ops.take m) dep lb = true) (hch : Consec m ops) {nx : List Nat} (hnx : nextOk m ops nx = true) (hback : ∀ (i : Nat) (o : Oper), ops[i]? = some o → ∀ e ∈ o.after, Region.binds .any e = true → e.on < i)
    (hΦ : Φ.length = m) (hmono : Monos S Φ) (hob : Obs P N S (ops.take m) Φ Q lb w (ops.take m) Φ dep)
    (hfin : ∀ a W listed, Mid N S (ops.take m) Φ lb w listed a W → (∀ i, i < m → listed[i]? = some true) → wpListIn (FW N.ro) 0 P ops.toArray (up N Q) (ops.drop m) a W) :
    ∀ (fuel : Nat) (listed : Array Bool) (a : Act) (W : World), Mid N S (ops.take m) Φ lb w listed a W → listed.size = ops.length → Shut ops listed → (∀ j, m ≤ j → j < ops.length → listed[j]? = some false) → (listed.toList.filter (! ·)).length ≤ fuel →
      wpAnyIn (FW N.ro) 0 P .any ops.toArray (up N Q) fuel listed a W := by
  have hlen : (ops.take m).length = m := by simp; omega
  have htk : ∀ (k : Nat) (o : Oper), (ops.take m)[k]? = some o → ops.toArray[k]? = some o := by
    intro k o h
    rw [List.getElem?_take] at h
    split at h
    · simpa using h
    · cases h
  intro fuel
  induction fuel with
  | zero =>
    intro listed a W hmid hs hcl hB hf
    have hnil : ∀ i, i < ops.length → listed[i]? = some true := by
      intro i hi
      have hfl : listed.toList.filter (! ·) = [] := List.eq_nil_of_length_eq_zero (by omega)
      rw [List.filter_eq_nil_iff] at hfl
      have hlt : i < listed.size := by omega
      have hm := hfl listed[i] (by simp)
      rw [Array.getElem?_eq_getElem hlt]
      simpa using hm
    have hmn : m = ops.length := by
      rcases Nat.lt_or_ge m ops.length with h | h
      · have h1 := hnil m h
        rw [hB m (Nat.le_refl _) h] at h1; cases h1
      · omega
    refine tail_any2 hch hback 0 ops.length listed a W (by omega) (by omega) (by omega) hs (fun j hj => by rw [hnil j hj]; simp [hj]) ?_
    have := hfin a W listed hmid (fun i hi => hnil i (by omega))
    rwa [hmn] at this
  | succ fuel ih =>
    intro listed a W hmid hs hcl hB hf
    by_cases hall : ∀ i, i < m → listed[i]? = some true
    · -- the line begins
      have hl : ∀ j, j < ops.length → listed[j]? = some (decide (j < m)) := by
        intro j hj
        by_cases h : j < m
        · rw [hall j h]; simp [h]
        · rw [hB j (by omega) hj]; simp [h]
      have hcnt : ops.length - m ≤ (listed.toList.filter (! ·)).length := by
        have e : listed.toList = listed.toList.take m ++ listed.toList.drop m := (List.take_append_drop m _).symm
        rw [e, List.filter_append, List.length_append]
        have e2 : (listed.toList.drop m).filter (! ·) = listed.toList.drop m := by
          rw [List.filter_eq_self]
          intro x hx
          obtain ⟨j, hj, rfl⟩ := List.getElem_of_mem hx
          simp only [List.length_drop, Array.length_toList] at hj
          have := hB (m + j) (by omega) (by omega)
          rw [Array.getElem?_eq_getElem (by omega)] at this
          simp only [Option.some.injEq] at this
          simp [this]
        rw [e2]; simp; omega
      exact tail_any2 hch hback (fuel + 1) m listed a W (Nat.le_refl _) (by omega) hm hs hl (hfin a W listed hmid hall)
    · refine ⟨fun hr => ?_, ?_⟩
      · -- something of the first part is ready
        exfalso
        apply hall
        intro i
        induction i using Nat.strongRecOn with
        | _ i ihi =>
          intro him
          rcases hli : listed[i]? with _ | b
          · simp at hli; omega
          · cases b with
            | true => rfl
            | false =>
              exfalso
              have hi : i < ops.length := by omega
              have : i ∈ Region.ready .any ops.toArray listed := by
                simp only [Region.ready, List.mem_filter, List.mem_range, List.size_toArray]
                refine ⟨hi, ?_⟩
                simp only [Array.getD_eq_getD_getElem?, hli, Option.getD_some, Bool.not_false, Bool.true_and]
                have ho0 : ops[i]? = some (ops[i]'hi) := List.getElem?_eq_getElem hi
                have ho : ops.toArray[i]? = some (ops[i]'hi) := by simp
                simp only [ho, Option.map_some, Option.getD_some, Array.all_eq_true']
                intro e he
                by_cases hb : Region.binds .any e = true
                · have hlt := hback i _ ho0 e he hb
                  simp only [hb, Bool.not_true, Bool.false_or]
                  rw [ihi e.on hlt (by omega)]; rfl
                · simp [hb]
              rw [hr] at this
              cases this
      · intro i hi
        simp only [Region.ready, List.mem_filter, List.mem_range, List.size_toArray] at hi
        obtain ⟨hlt, hi⟩ := hi
        rw [Bool.and_eq_true] at hi
        obtain ⟨hun, hrd⟩ := hi
        have ho : ops[i]? = some (ops[i]'hlt) := List.getElem?_eq_getElem hlt
        have ho' : ops.toArray[i]? = some (ops[i]'hlt) := by simp
        have hrd' : ∀ e ∈ (ops[i]'hlt).after, Region.binds .any e = true → listed[e.on]? = some true := by
          intro e he hb
          rw [ho'] at hrd
          simp only [Option.map_some, Option.getD_some, Array.all_eq_true'] at hrd
          have := hrd e he
          simp only [hb, Bool.not_true, Bool.false_or] at this
          rcases hlj : listed[e.on]? with _ | b
          · simp [Array.getD_eq_getD_getElem?, hlj] at this
          · simp [Array.getD_eq_getD_getElem?, hlj] at this; rw [this]
        have him : i < m := by
          rcases Nat.lt_or_ge i m with h | h
          · exact h
          · exfalso
            exact hall fun j hj => next_all hnx hs hcl h ho hrd' hch j hj
        have hun' : listed[i]? = some false := by
          have hlt' : i < listed.size := by omega
          rw [Array.getElem?_eq_getElem hlt']
          simp only [Array.getD_eq_getD_getElem?, Array.getElem?_eq_getElem hlt', Option.getD_some] at hun
          simpa using hun
        have hcount : ((listed.setIfInBounds i true).toList.filter (! ·)).length ≤ fuel := by
          have hlt' : i < listed.toList.length := by simp; omega
          have e1 : (listed.setIfInBounds i true).toList = listed.toList.set i true := by simp
          rw [e1]
          have e2 : listed.toList = listed.toList.take i ++ false :: listed.toList.drop (i + 1) := by
            have hg : listed.toList[i] = false := by
              have := hun'
              rw [Array.getElem?_eq_getElem (by simpa using hlt')] at this
              simpa using this
            rw [← hg, ← List.drop_eq_getElem_cons hlt']; simp
          have e3 : listed.toList.set i true = listed.toList.take i ++ true :: listed.toList.drop (i + 1) := by
            rw [List.set_eq_take_append_cons_drop, if_pos hlt']
          rw [e3]
          rw [e2] at hf
          simp only [List.filter_append, List.length_append, List.filter_cons, Bool.not_false, Bool.not_true, if_true, List.length_cons] at hf ⊢
          simp at hf ⊢
          omega
        have hot : (ops.take m)[i]? = some (ops[i]'hlt) := by rw [List.getElem?_take, if_pos him]; exact ho
        refine mid_step hS hok (by rw [hlen]; exact hΦ) hmono hob hmid hot hrd' (fun a' W' hm' => ih _ a' W' hm' (by simp [hs]) (shut_set hcl hs ho hrd') ?_ hcount) htk
        intro j hj hjl
        rw [Array.getElem?_setIfInBounds_ne (by omega)]
        exact hB j hj hjl

def consecOk (m : Nat) (ops : List Oper) : Bool := (ops.zipIdx).all fun (o, i) => Nat.ble i m || o.after.toList.any fun e => Region.binds .any e && Nat.beq e.on (i - 1)
theorem consec_of {m : Nat} {ops : List Oper} (h : consecOk m ops = true) : Consec m ops := by
  intro i o hi ho
  simp only [consecOk, List.all_eq_true] at h
  have := h (o, i) (by rw [List.mem_zipIdx_iff_getElem?]; simpa using ho)
  simp only [Bool.or_eq_true, List.any_eq_true, Bool.and_eq_true] at this
  rcases this with h1 | ⟨e, he, hb, hon⟩
  · have := Nat.le_of_ble_eq_true h1; omega
  · exact ⟨e, Array.mem_toList_iff.1 he, hb, Nat.eq_of_beq_eq_true hon⟩
theorem wc_draw_tail2 {id : Nat} {ops : List Oper} (m : Nat) (nx : List Nat) (hm : P.follows .mixedOrders = true) (lb : Fr) (hlb : Sub lb l) (Φ : List VP) (dep : List (List Nat)) (live : List Nat)
    (hml : Nat.ble m ops.length = true) (hok : drawOk N.n (ops.take m) dep lb = true) (hch : consecOk m ops = true) (hnx : nextOk m ops nx = true) (hback : backOk ops = true) (hΦ : Nat.beq Φ.length m = true) (hlive : (live.all fun i => Nat.blt i m) = true) (hmono : Monos (fun w W => Below w.heap.size w W) Φ) (hob : Obs P N (fun w W => Below w.heap.size w W) (ops.take m) Φ Q lb w (ops.take m) Φ dep)
    (hfin : ∀ W, Below w.heap.size w W → Gather (depAt (ops.take m) Φ live) lb W fun l' => WL P N ops.toArray Q (ops.drop m) l' W) : WC P N (.region id ops.toArray true) Q l w := by
  intro a ha hg
  refine wpIn_region_any hm ?_
  have hΦ' := Nat.eq_of_beq_eq_true hΦ
  have hml' := Nat.le_of_ble_eq_true hml
  refine draw_tail2 sr_below (w := { w with drawn := w.drawn + 1 }) hml' hok (consec_of hch) hnx (back_of hback) hΦ' hmono (hob.drawn sr_below) ?_ _ _ _ _ ?_ (by simp) ?_ ?_ ?_
  · intro a' W listed hmid hall
    obtain ⟨l', hl', h⟩ := Gather.use (hfin W (sr_below.drawn _ _ _ hmid.below)) hmid.base (live_told hmid (m := m) (by simp; omega) (by omega) hlive hall)
    exact h a' hl' hmid.good
  · refine ⟨sr_below.refl _, ha.sub hlb, hg.step rfl (fun _ _ h _ _ => h) (Nat.le_refl _), ?_⟩
    intro i o φ _ _ hi
    simp [Array.getElem?_replicate] at hi
  · intro i o _ hi
    simp [Array.getElem?_replicate] at hi
  · intro j hj hjl
    simp [Array.getElem?_replicate, hjl]
  · simp
end
section
variable {P : Program} {N : Ev} {X : Cx} {Q : APost} {st : AS}
theorem awc_draw_tail2 {id : Nat} {ops : List Oper} (q : Nat) (nx : List Nat) (hm : P.follows .mixedOrders = true) (ks : List Nat) (Ts : List TT) (dep : List (List Nat)) (live : List Nat) (hks : (ks.all fun t => (st.l.look t).isSome) = true) (hq : Nat.ble q ops.length = true) (hok : drawOkK N.n (ops.take q) dep ks = true) (hch : (consecOk q ops && nextOk q ops nx) = true) (hback : backOk ops = true) (hTs : Nat.beq Ts.length q = true) (hlv : (live.all fun i => Nat.blt i q) = true) (hdp : depsOk (ops.take q) (live :: dep) = true)
    (hob : AObs P N X (ops.take q) Ts (keepF st.l ks) st.H st.n (ops.take q) Ts dep) (hall : ∀ j ∈ live, (ttAt Ts j).1 = true) (k : AWL P N X ops.toArray Q (ops.drop q) ⟨depF (ops.take q) Ts live (keepF st.l ks), st.H, st.n⟩) : AWC P N X (.region id ops.toArray true) Q st := by
  intro fr w m ρ φ hc
  obtain ⟨lb, h1, h2, h3⟩ := keep_conc hc hks
  have hq' := Nat.le_of_ble_eq_true hq
  have hl : Ts.length = (ops.take q).length := by rw [Nat.eq_of_beq_eq_true hTs, List.length_take]; omega
  simp only [depsOk, List.all_cons, Bool.and_eq_true] at hdp
  rw [Bool.and_eq_true] at hch
  refine wc_draw_tail2 q nx hm lb h2 (Ts.map (phi X.e m ρ (φ.flatten ++ X.F))) dep live hq (draw_keys (by rw [h1]; exact hok)) hch.1 hch.2 hback (by rw [List.length_map]; exact hTs) hlv (monos_phi Ts) (obs_of hl h3 hdp.2 hob) ?_
  intro W hW
  refine gather_df (phi_at hl) hdp.1 fun l' hl' => ?_
  obtain ⟨m', h4, h5⟩ := conc_df hl' (Mem.le_refl _) (h3.grow (Mem.le_refl _) (h3.sh.ext hW)) hall
  exact k _ _ _ _ _ h5

variable {d : Nat} {T U T' : TypeId} {pos : String} {aft : Array Edge} {g : Option (Nat × Bool)} {x y : Operand}
/-! a slice against nil: what a list does not tell -/
end
end Go.Ab
namespace Go.Ab
open Go.RowKit Go.Shelf Go.Proofs Go.Eng

/-! calls that turn what is handed to them -/
theorem nodup_ne {α : Type} {l : List α} (h : l.Nodup) {i j : Nat} (hij : i < j) (hj : j < l.length) : l[i]? ≠ l[j]? := by
  rw [List.getElem?_eq_getElem (by omega), List.getElem?_eq_getElem hj]
  have := List.pairwise_iff_getElem.1 h i j (by omega) hj hij
  simpa using this
theorem nodup_of_ne {α : Type} {l : List α} (h : ∀ i j, i < j → j < l.length → l[i]? ≠ l[j]?) : l.Nodup := by
  refine List.pairwise_iff_getElem.2 fun i j hi hj hij => ?_
  have := h i j hij hj
  rw [List.getElem?_eq_getElem hi, List.getElem?_eq_getElem hj] at this
  simpa using this
theorem flatMap_eq {α β : Type} {l : List α} {f g : α → List β} (h : ∀ a ∈ l, f a = g a) : l.flatMap f = l.flatMap g := by
  induction l with
  | nil => rfl
  | cons a l ih => rw [List.flatMap_cons, List.flatMap_cons, h a (by simp), ih (fun b hb => h b (by simp [hb]))]
def updH : Nat → List Nat → List AO → AH → AH
  | _, [], _, H => H
  | _, _, [], H => H
  | k, i :: σ, o :: os, H => (i, o) :: updH k σ os H
/-- The numbers behind n. -/
def fromN : Nat → Nat → List Nat
  | _, 0 => []
  | n, k + 1 => n :: fromN (n + 1) k
theorem fromN_get : ∀ {k n i : Nat}, i < k → (fromN n k)[i]? = some (n + i) := by
  intro k
  induction k with
  | zero => intro n i h; omega
  | succ k ih =>
    intro n i h
    cases i with
    | zero => simp [fromN]
    | succ i => simp only [fromN, List.getElem?_cons_succ]; rw [ih (by omega)]; congr 1; omega
theorem fromN_len : ∀ {k n : Nat}, (fromN n k).length = k := by
  intro k
  induction k with
  | zero => intro n; rfl
  | succ k ih => intro n; simp [fromN, ih]
theorem updH_get : ∀ {σ : List Nat} {os : List AO} {H : AH} {k : Nat}, σ.Nodup → os.length = σ.length → (∀ (j i : Nat) (o : AO), σ[j]? = some i → os[j]? = some o → AH.get (updH k σ os H) i = o) ∧ (∀ i, i ∉ σ → AH.get (updH k σ os H) i = AH.get H i) := by
  intro σ
  induction σ with
  | nil => intro os H k _ _; exact ⟨fun j i o h => by simp at h, fun i _ => rfl⟩
  | cons a σ ih =>
    intro os H k hn hl
    cases os with
    | nil => simp at hl
    | cons o os =>
      rw [List.nodup_cons] at hn
      obtain ⟨h1, h2⟩ := ih (H := H) (k := k) hn.2 (by simpa using hl)
      refine ⟨fun j i q hj hq => ?_, fun i hi => ?_⟩
      · simp only [updH, AH.get_cons]
        cases j with
        | zero => simp at hj hq; subst hj hq; simp
        | succ j =>
          have hj' : σ[j]? = some i := by simpa using hj
          rw [if_neg (by intro e; rw [e] at hn; exact hn.1 (List.mem_of_getElem? hj'))]
          exact h1 j i q hj' (by simpa using hq)
      · simp only [List.mem_cons, not_or] at hi
        simp only [updH, AH.get_cons]
        rw [if_neg (fun e => hi.1 e.symm)]
        exact h2 i hi.2

section
variable {P : Program} {N : Ev} {X : Cx} {Q : APost} {st : AS}
variable {d : Nat} {T U T' : TypeId} {pos : String} {aft : Array Edge} {g : Option (Nat × Bool)} {x y : Operand}

/-- Behind a call: the objects σ turned, new ones behind them. -/
theorem conc_call {fr : Fr} {w w' : World} {m m' : Mem} {ρ ρ1' : List Value} {φ φ1' : List Frag} {σ : List Nat} {H' : List AO} {v : Value} {av : AV} (hc : Conc X st fr w m ρ φ) (hnd : σ.Nodup) (hlt : ∀ i ∈ σ, i < st.n) (hm : m.le m') (hk : σ.length ≤ H'.length)
    (hpre : ∀ (i j : Nat) (h : Value), σ[i]? = some j → ρ[j]? = some h → ρ1'[i]? = some h) (ho : OsRep m' ρ1' H' φ1')
    (hs : SH X.e w' m' (φ1'.flatten ++ (((List.range st.n).filter fun i => !σ.contains i).flatMap (fun i => φ.getD i []) ++ X.F)))
    (hav : ∀ ρ', (∀ (i : Nat) (u : Value), ρ1'[i]? = some u → ∃ j, (σ ++ fromN st.n (H'.length - σ.length))[i]? = some j ∧ ρ'[j]? = some u) → RepA m' ρ' av v) :
    ∃ ρ' φ', Conc X ⟨(d, av) :: st.l, updH 0 (σ ++ fromN st.n (H'.length - σ.length)) (H'.map (AO.ren (σ ++ fromN st.n (H'.length - σ.length)))) st.H, st.n + (H'.length - σ.length)⟩ ((d, v) :: fr) w' m' ρ' φ' := by
  obtain ⟨τ, hτ⟩ : ∃ τ, τ = σ ++ fromN st.n (H'.length - σ.length) := ⟨_, rfl⟩
  have hτl : τ.length = H'.length := by rw [hτ, List.length_append, fromN_len]; omega
  have hfr : ∀ i, i ∈ fromN st.n (H'.length - σ.length) ↔ st.n ≤ i ∧ i < st.n + (H'.length - σ.length) := by
    intro i
    rw [List.mem_iff_getElem?]
    constructor
    · rintro ⟨j, hj⟩
      have hjl := (List.getElem?_eq_some_iff.1 hj).1
      rw [fromN_len] at hjl
      rw [fromN_get hjl] at hj
      cases hj; omega
    · rintro ⟨h1, h2⟩
      exact ⟨i - st.n, by rw [fromN_get (by omega)]; congr 1; omega⟩
  have hfnd : (fromN st.n (H'.length - σ.length)).Nodup := by
    refine nodup_of_ne fun i j hij hjl => ?_
    rw [fromN_len] at hjl
    rw [fromN_get (by omega), fromN_get hjl]
    intro e; simp at e; omega
  have hτn : τ.Nodup := by
    rw [hτ, List.nodup_append]
    refine ⟨hnd, hfnd, fun a ha b hb e => ?_⟩
    subst e
    have := hlt a ha
    have := ((hfr a).1 hb).1
    omega
  have hτlt : ∀ i ∈ τ, i < st.n + (H'.length - σ.length) := by
    intro i hi
    rw [hτ, List.mem_append] at hi
    rcases hi with hi | hi
    · have := hlt i hi; omega
    · exact ((hfr i).1 hi).2
  -- the handles, the fragments
  let pos : Nat → Option Nat := posN τ
  let ρ' : List Value := (List.range (st.n + (H'.length - σ.length))).map fun i => match posN τ i with
    | some j => ρ1'.getD j undef
    | none => ρ.getD i undef
  let φ' : List Frag := (List.range (st.n + (H'.length - σ.length))).map fun i => match posN τ i with
    | some j => φ1'.getD j []
    | none => φ.getD i []
  have posτ : ∀ {j i : Nat}, τ[j]? = some i → posN τ i = some j := by
    intro j i hj
    cases hp : posN τ i with
    | none => exact absurd (List.mem_of_getElem? hj) (posN_none hp)
    | some q =>
      have h1 := posN_get hp
      by_cases e : q = j
      · rw [e]
      · exfalso
        rcases Nat.lt_or_ge q j with h | h
        · exact nodup_ne hτn h (List.getElem?_eq_some_iff.1 hj).1 (by rw [h1, hj])
        · exact nodup_ne hτn (show j < q by omega) (List.getElem?_eq_some_iff.1 h1).1 (by rw [h1, hj])
  have hρτ : ∀ {j i : Nat} {u : Value}, τ[j]? = some i → ρ1'[j]? = some u → ρ'[i]? = some u := by
    intro j i u hj hu
    simp only [ρ', List.getElem?_map, List.getElem?_range (hτlt i (List.mem_of_getElem? hj)), Option.map_some, posτ hj, List.getD_eq_getElem?_getD, hu, Option.getD_some]
  have hρold : ∀ (i : Nat) (h : Value), ρ[i]? = some h → ρ'[i]? = some h := by
    intro i h hi
    have hil : i < st.n := by rw [← hc.nρ]; exact (List.getElem?_eq_some_iff.1 hi).1
    simp only [ρ', List.getElem?_map, List.getElem?_range (show i < st.n + (H'.length - σ.length) by omega), Option.map_some]
    cases hp : posN τ i with
    | none => simp [List.getD_eq_getElem?_getD, hi]
    | some j =>
      have h1 := posN_get hp
      have hjσ : j < σ.length := by
        rcases Nat.lt_or_ge j σ.length with h2 | h2
        · exact h2
        · exfalso
          rw [hτ, List.getElem?_append_right h2] at h1
          have := ((hfr i).1 (List.mem_of_getElem? h1)).1
          omega
      rw [hτ, List.getElem?_append_left hjσ] at h1
      have := hpre j i h h1 hi
      simp [List.getD_eq_getElem?_getD, this]
  have hbwd : ∀ (i : Nat) (u : Value), ρ1'[i]? = some u → ∃ j, τ[i]? = some j ∧ ρ'[j]? = some u := by
    intro i u hi
    have hil : i < τ.length := by rw [hτl, ← ho.nρ]; exact (List.getElem?_eq_some_iff.1 hi).1
    exact ⟨τ[i], List.getElem?_eq_getElem hil, hρτ (List.getElem?_eq_getElem hil) hi⟩
  refine ⟨ρ', φ', hc.mle.trans hm, fun i h hi => hρold i h (hc.pre i h hi), by simp [ρ'], by simp [φ'], ?_, ?_, ?_⟩
  · intro t b hb
    simp only [AFr.look_cons] at hb
    rw [Fr.look_cons]
    split
    · rename_i e; rw [if_pos e] at hb; cases hb; exact ⟨v, rfl, hav ρ' (by rw [← hτ]; exact hbwd)⟩
    · rename_i e; rw [if_neg e] at hb
      obtain ⟨u, h1, h2⟩ := hc.slots t b hb
      exact ⟨u, h1, RepA.mono hm hρold b h2⟩
  · intro i h f hi hf
    rw [← hτ]
    have hil : i < st.n + (H'.length - σ.length) := by
      have := (List.getElem?_eq_some_iff.1 hi).1
      simpa [ρ'] using this
    obtain ⟨g1, g2⟩ := updH_get (σ := τ) (os := H'.map (AO.ren τ)) (H := st.H) (k := 0) hτn (by simp [hτl])
    simp only [ρ', List.getElem?_map, List.getElem?_range hil, Option.map_some, Option.some.injEq] at hi
    simp only [φ', List.getElem?_map, List.getElem?_range hil, Option.map_some, Option.some.injEq] at hf
    cases hp : posN τ i with
    | some j =>
      rw [hp] at hi hf
      simp only at hi hf
      have h1 := posN_get hp
      have hjl : j < H'.length := by rw [← hτl]; exact (List.getElem?_eq_some_iff.1 h1).1
      have hH : H'[j]? = some (H'[j]'hjl) := List.getElem?_eq_getElem hjl
      have h2 : ρ1'[j]? = some h := by
        have : ρ1'[j]? = some (ρ1'[j]'(by rw [ho.nρ]; exact hjl)) := List.getElem?_eq_getElem _
        rw [List.getD_eq_getElem?_getD, this] at hi
        rw [this]; simpa using hi
      have h3 : φ1'[j]? = some f := by
        have : φ1'[j]? = some (φ1'[j]'(by rw [ho.nφ]; exact hjl)) := List.getElem?_eq_getElem _
        rw [List.getD_eq_getElem?_getD, this] at hf
        rw [this]; simpa using hf
      rw [g1 j i _ h1 (by rw [List.getElem?_map, hH]; rfl)]
      exact (ho.at_ j _ h f hH h2 h3).bwd hbwd
    | none =>
      rw [hp] at hi hf
      simp only at hi hf
      have hni := posN_none hp
      rw [g2 i hni]
      have hin : i < st.n := by
        rcases Nat.lt_or_ge i st.n with h1 | h1
        · exact h1
        · exfalso
          apply hni
          rw [hτ, List.mem_append]
          exact .inr ((hfr i).2 ⟨h1, hil⟩)
      have h2 : ρ[i]? = some h := by
        have : ρ[i]? = some (ρ[i]'(by rw [hc.nρ]; exact hin)) := List.getElem?_eq_getElem _
        rw [List.getD_eq_getElem?_getD, this] at hi
        rw [this]; simpa using hi
      have h3 : φ[i]? = some f := by
        have : φ[i]? = some (φ[i]'(by rw [hc.nφ]; exact hin)) := List.getElem?_eq_getElem _
        rw [List.getD_eq_getElem?_getD, this] at hf
        rw [this]; simpa using hf
      exact (hc.objs i h f h2 h3).mono hm hρold
  · refine hs.perm ?_
    rw [← List.append_assoc]
    refine List.Perm.append_right _ ?_
    have h1 : φ'.flatten = (List.range (st.n + (H'.length - σ.length))).flatMap fun i => match posN τ i with
        | some j => φ1'.getD j []
        | none => φ.getD i [] := by rw [List.flatMap_def]
    rw [h1]
    refine List.Perm.symm (((range_split hτn hτlt).flatMap_right _).trans ?_)
    rw [List.flatMap_append]
    have h2 : (τ.flatMap fun i => match posN τ i with
        | some j => φ1'.getD j []
        | none => φ.getD i []) = φ1'.flatten := by
      rw [flatten_range, ho.nφ, ← hτl]
      have : τ = (List.range τ.length).map fun j => τ.getD j 0 := by
        apply List.ext_getElem?
        intro j
        rw [List.getElem?_map]
        rcases Nat.lt_or_ge j τ.length with h | h
        · rw [List.getElem?_range h, Option.map_some, List.getD_eq_getElem?_getD, List.getElem?_eq_getElem h]; rfl
        · rw [List.getElem?_eq_none h, List.getElem?_eq_none (by simpa using h)]; rfl
      have this2 : ∀ g : Nat → Frag, τ.flatMap g = ((List.range τ.length).map fun j => τ.getD j 0).flatMap g := fun g => by rw [← this]
      rw [this2, List.flatMap_map]
      refine flatMap_eq fun j hj => ?_
      rw [List.mem_range] at hj
      have h3 : τ[j]? = some (τ.getD j 0) := by rw [List.getD_eq_getElem?_getD, List.getElem?_eq_getElem hj]; rfl
      rw [posτ h3]
    rw [h2]
    refine List.Perm.append_left _ ?_
    -- what no name of the call's reaches
    have h4 : ((List.range (st.n + (H'.length - σ.length))).filter fun i => !τ.contains i) = (List.range st.n).filter fun i => !σ.contains i := by
      rw [List.range_add, List.filter_append]
      have h5 : ((List.range (H'.length - σ.length)).map (st.n + ·)).filter (fun i => !τ.contains i) = [] := by
        rw [List.filter_eq_nil_iff]
        intro a ha
        obtain ⟨q, hq, rfl⟩ := List.mem_map.1 ha
        rw [List.mem_range] at hq
        simp only [List.contains_eq_mem, Bool.not_eq_true', decide_eq_false_iff_not, Decidable.not_not]
        rw [hτ, List.mem_append]
        exact .inr ((hfr _).2 ⟨by omega, by omega⟩)
      rw [h5, List.append_nil]
      refine List.filter_congr fun a ha => ?_
      rw [List.mem_range] at ha
      congr 1
      simp only [List.contains_eq_mem]
      rw [hτ]
      simp only [List.mem_append, decide_eq_decide]
      constructor
      · rintro (h | h)
        · exact h
        · have := ((hfr a).1 h).1; omega
      · exact .inl
    rw [h4]
    refine List.Perm.of_eq (flatMap_eq fun i hi => ?_)
    simp only [List.mem_filter, List.mem_range, Bool.not_eq_true', List.contains_eq_mem, decide_eq_false_iff_not] at hi
    have : posN τ i = none := by
      cases hp : posN τ i with
      | none => rfl
      | some j =>
        have h5 := List.mem_of_getElem? (posN_get hp)
        rw [hτ, List.mem_append] at h5
        rcases h5 with h5 | h5
        · exact absurd h5 hi.2
        · have := ((hfr i).1 h5).1; omega
    rw [this]

theorem ret_own {f : FuncId} {as1 : List AV} {H1 : List AO} {R : List AV → List AO → Prop} {σ : List Nat} {fr : Fr} {w : World} {m : Mem} {ρ : List Value} {φ : List Frag} {vs : List Value} (hr : RunsM X.m P f as1 H1 R) (hc : Conc X st fr w m ρ φ) (hσ : (nodupB σ && σ.all fun i => Nat.blt i st.n) = true) (hH : σ.map st.H.get = H1.map (AO.ren σ)) (hv : RepL m ρ (renL σ as1) vs) :
    Ret P f vs.toArray w fun v w' => ∃ rs H' m' ρ1' φ1', R rs H' ∧ m.le m' ∧ σ.length ≤ H'.length ∧ (∀ (i j : Nat) (h : Value), σ[i]? = some j → ρ[j]? = some h → ρ1'[i]? = some h) ∧ OsRep m' ρ1' H' φ1' ∧
      SH X.e w' m' (φ1'.flatten ++ (((List.range st.n).filter fun i => !σ.contains i).flatMap (fun i => φ.getD i []) ++ X.F)) ∧ ∃ us, RepL m' ρ1' rs us ∧ v = tupleOf us := by
  rw [Bool.and_eq_true] at hσ
  have hnd := nodup_of hσ.1
  have hlt : ∀ i ∈ σ, i < st.n := by
    intro i hi
    have := hσ.2
    rw [List.all_eq_true] at this
    simpa using this i hi
  have hlen : σ.length = H1.length := by simpa using congrArg List.length hH
  let ρ1 : List Value := σ.map fun i => ρ.getD i undef
  let φ1 : List Frag := σ.map fun i => φ.getD i []
  have hfwd : ∀ (i j : Nat) (u : Value), σ[i]? = some j → ρ[j]? = some u → ρ1[i]? = some u := by
    intro i j u hi hj
    simp only [ρ1, List.getElem?_map, hi, Option.map_some, List.getD_eq_getElem?_getD, hj, Option.getD_some]
  have hsh : SH X.e w m (φ1.flatten ++ (((List.range st.n).filter fun i => !σ.contains i).flatMap (fun i => φ.getD i []) ++ X.F)) := by
    refine hc.sh.perm ?_
    rw [← List.append_assoc]
    refine List.Perm.append_right _ ?_
    rw [flatten_range, hc.nφ]
    refine ((range_split hnd hlt).flatMap_right _).trans ?_
    rw [List.flatMap_append]
    refine List.Perm.of_eq ?_
    show _ = φ1.flatten ++ _
    rw [show φ1.flatten = σ.flatMap fun i => φ.getD i [] from flatMap_getD φ σ]
  have hos : OsRep m ρ1 H1 φ1 := by
    refine ⟨by simp [ρ1, hlen], by simp [φ1, hlen], fun i o h f hi hh hf => ?_⟩
    have hil : i < σ.length := by rw [hlen]; exact (List.getElem?_eq_some_iff.1 hi).1
    have hσi : σ[i]? = some (σ[i]'hil) := List.getElem?_eq_getElem hil
    have hn := hlt _ (List.getElem_mem hil)
    have e1 := congrArg (fun l => l[i]?) hH
    simp only [List.getElem?_map, hσi, hi, Option.map_some, Option.some.injEq] at e1
    have hρi : ρ[σ[i]'hil]? = some (ρ[σ[i]'hil]'(by rw [hc.nρ]; exact hn)) := List.getElem?_eq_getElem _
    have hφi : φ[σ[i]'hil]? = some (φ[σ[i]'hil]'(by rw [hc.nφ]; exact hn)) := List.getElem?_eq_getElem _
    have h1 := hc.objs _ _ _ hρi hφi
    rw [e1] at h1
    have h2 := h1.fwd hfwd
    have eh : h = ρ[σ[i]'hil]'(by rw [hc.nρ]; exact hn) := by
      have := hfwd i _ _ hσi hρi
      rw [this] at hh; exact (Option.some.inj hh).symm
    have ef : f = φ[σ[i]'hil]'(by rw [hc.nφ]; exact hn) := by
      simp only [φ1, List.getElem?_map, hσi, Option.map_some, List.getD_eq_getElem?_getD, hφi, Option.getD_some, Option.some.injEq] at hf
      exact hf.symm
    rw [eh, ef]; exact h2
  refine Ret.mono (hr X.e w m ρ1 φ1 _ vs hc.mle (renL_fwd hfwd as1 hv) hos hsh) ?_
  rintro v w' ⟨rs, H', m', ρ1', φ1', h1, h2, h3, h4, h5, h6, h7⟩
  exact ⟨rs, H', m', ρ1', φ1', h1, h2, by rw [hlen]; exact h4, fun i j h hi hj => h3 i h (hfwd i j h hi hj), h5, h6, h7⟩

/-- A call that turns what is handed to it. -/
theorem aop_callO {f : FuncId} {xs : List Operand} {as1 as' rs : List AV} {H1 H' : List AO} {σ : List Nat} {ts : Array TypeId} {K : AS → Prop} {r : AV} (hr : RunsM X.m P f as1 H1 fun q Hq => q = rs ∧ Hq = H') (hf : Enters P f) (hx : xs.map (aev st.l) = as'.map some) (hcv : cvL (renL σ as1) as') (hσ : (nodupB σ && σ.all fun i => Nat.blt i st.n) = true) (hH : σ.map st.H.get = H1.map (AO.ren σ))
    (hrs : tupA (renL (σ ++ fromN st.n (H'.length - σ.length)) rs) = r) (k : K ⟨(d, r) :: st.l, updH 0 (σ ++ fromN st.n (H'.length - σ.length)) (H'.map (AO.ren (σ ++ fromN st.n (H'.length - σ.length)))) st.H, st.n + (H'.length - σ.length)⟩) (hN : Nat.blt d N.n = true := by rfl) :
    AOp P N X ⟨some d, .call ⟨.value (.func f), xs.toArray, ts⟩, U, pos, aft, g⟩ K st :=
  aop_of fun Q fr w m ρ φ hc K' hK => by
    obtain ⟨vs, h1, h2⟩ := hc.evl hx
    have hσ' := hσ
    rw [Bool.and_eq_true] at hσ'
    refine op_call hf h1 (ret_own hr hc hσ hH (cvL_rep hcv h2)) hN ?_
    rintro v w' ⟨rs', H'', m', ρ1', φ1', ⟨rfl, rfl⟩, g1, g2, g3, g4, g5, us, g6, rfl⟩
    subst hrs
    obtain ⟨ρ', φ', hcc⟩ := conc_call (d := d) (av := tupA (renL (σ ++ fromN st.n (H''.length - σ.length)) rs')) (v := tupleOf us) hc (nodup_of hσ'.1) (fun i hi => by have := hσ'.2; rw [List.all_eq_true] at this; simpa using this i hi) g1 g2 g3 g4 g5 (fun ρ' hb => rep_tup (renL_bwd hb _ g6))
    exact hK _ _ _ _ _ _ hcc k
end

/-- A function that ends with what was handed to it. -/
theorem ret_o {P : Program} {X : Cx} {rs : List ResultVar} {k n : Nat} {st : AS} {as' r : List AV} {l' : AFr} {Hs : AH} {H' : List AO} (h : Wk X st ⟨l', Hs, n⟩) (hr : as' = r) (hH : (List.range n).map (AH.get Hs) = H') (hk : Nat.ble k n = true) (ho : AOuts P l' rs as') : retW P X rs k (fun q Hq => q = r ∧ Hq = H') .ret st :=
  ⟨⟨l', Hs, n⟩, h, as', _, ho, hH, hk, hr, rfl⟩
end Go.Ab
namespace Go.Ab
open Go.RowKit Go.Shelf Go.Proofs Go.Eng

/-! nothing that is owned is a loop's record, but for guests' -/
theorem SlRep.noctl {m : Mem} {T : TypeId} {t : Ty} {x : List t.den} {h : Value} {f : Frag} (H : SlRep m T t x h f) : ∀ q ∈ f, ctl q.2 = false := by
  obtain ⟨_, ⟨_, _, rfl⟩ | ⟨b, c, cs, vs, _, rfl, _⟩⟩ := H
  · intro q hq; cases hq
  · intro q hq; rw [List.mem_singleton.1 hq]; rfl
theorem RowsO.noctl {m : Mem} {T : TypeId} {t : Ty} {x : List (List t.den)} {rs : List Value} {fs : List Frag} (H : RowsO m T t x rs fs) : ∀ q ∈ fs.flatten, ctl q.2 = false := by
  obtain ⟨_, l2, l3⟩ := H.at
  intro q hq
  obtain ⟨f, hf, hqf⟩ := List.mem_flatten.1 hq
  obtain ⟨i, hi, rfl⟩ := List.getElem_of_mem hf
  obtain ⟨r, g, _, h2, h3⟩ := l3 i _ (List.getElem?_eq_getElem (by omega))
  rw [List.getElem?_eq_getElem hi] at h2; cases h2
  exact h3.noctl q hqf
theorem OR.noctl {m : Mem} : ∀ {o : OT} {x : o.den} {cs : List Value} {f : Frag}, OR m o x cs f → ∀ q ∈ f, ctl q.2 = false := by
  intro o
  induction o with
  | dat t => intro x cs f h q hq; rw [h.2] at hq; cases hq
  | pair a b iha ihb =>
    intro x cs f h q hq
    obtain ⟨c, d, g, k, _, rfl, h3, h4⟩ := h
    rcases List.mem_append.1 hq with hq | hq
    · exact iha h3 q hq
    · exact ihb h4 q hq
  | pt T e ih =>
    intro x cs f h q hq
    obtain ⟨b, us, g, _, rfl, _, h4⟩ := h
    rcases List.mem_cons.1 hq with rfl | hq
    · rfl
    · exact ih h4 q hq
  | sl E e ih =>
    intro x cs f h q hq
    obtain ⟨_, ⟨_, _, rfl⟩ | ⟨b, c, arr, us, fs, _, rfl, _, _, _, h6, h7, _, h9⟩⟩ := h
    · cases hq
    · rcases List.mem_cons.1 hq with rfl | hq
      · rfl
      · obtain ⟨g, hg, hqg⟩ := List.mem_flatten.1 hq
        obtain ⟨i, hi, rfl⟩ := List.getElem_of_mem hg
        exact ih (h9 i _ _ _ (List.getElem?_eq_getElem (by omega)) (List.getElem?_eq_getElem (by omega)) (List.getElem?_eq_getElem hi)) q hqg
  | mp k v ih =>
    intro x cs f h q hq
    obtain ⟨x', _, b, es, cl, fs, _, rfl, h3, h4, _, h6⟩ := h
    rcases List.mem_cons.1 hq with rfl | hq
    · rfl
    · obtain ⟨g, hg, hqg⟩ := List.mem_flatten.1 hq
      obtain ⟨i, hi, rfl⟩ := List.getElem_of_mem hg
      obtain ⟨_, us, _, b3⟩ := h6 i _ _ _ (List.getElem?_eq_getElem (by omega)) (List.getElem?_eq_getElem (by omega)) (List.getElem?_eq_getElem hi)
      exact ih b3 q hqg
def AO.plain : AO → Bool
  | .guest _ => false
  | _ => true
theorem ORep.noctl {m : Mem} {ρ : List Value} {o : AO} {h : Value} {f : Frag} (H : ORep m ρ o h f) (hp : o.plain = true) : ∀ q ∈ f, ctl q.2 = false := by
  cases o with
  | dead => intro q hq; rw [show f = [] from H] at hq; cases hq
  | var T cs => obtain ⟨b, us, _, rfl, _⟩ := H; intro q hq; rw [List.mem_singleton.1 hq]; rfl
  | sl T t x => exact SlRep.noctl (x := x) H
  | slo T T' t x =>
    obtain ⟨rs, fs, f0, b, c, cs, _, rfl, rfl, _, _, _, _, _, h9⟩ := H
    intro q hq
    rcases List.mem_append.1 hq with hq | hq
    · rw [List.mem_singleton.1 hq]; rfl
    · exact h9.noctl q hq
  | sloh T T' t x z j =>
    obtain ⟨rs, fs, f0, b, c, cs, r, _, rfl, rfl, _, _, _, _, _, h9, _⟩ := H
    intro q hq
    rcases List.mem_append.1 hq with hq | hq
    · rw [List.mem_singleton.1 hq]; rfl
    · exact h9.noctl q hq
  | guest p => cases hp
  | tr o x =>
    obtain ⟨_, ⟨_, _, rfl⟩ | ⟨y, _, h2⟩⟩ := H
    · intro q hq; cases hq
    · exact OR.noctl h2
  | bld T E s =>
    obtain ⟨_, b, _, ⟨_, p, _, rfl⟩ | ⟨b2, c, cs, rfl, _⟩⟩ := H
    · intro q hq; rw [List.mem_singleton.1 hq]; rfl
    · intro q hq
      simp only [List.mem_cons, List.not_mem_nil, or_false] at hq
      rcases hq with rfl | rfl <;> rfl
  | mpt k v x hs =>
    obtain ⟨_, _, x', _, b, es, cl, fs, _, rfl, h3, h4, _, h6⟩ := H
    intro q hq
    rcases List.mem_cons.1 hq with rfl | hq
    · rfl
    · obtain ⟨g, hg, hqg⟩ := List.mem_flatten.1 hq
      obtain ⟨i, hi, rfl⟩ := List.getElem_of_mem hg
      obtain ⟨_, h7, h8⟩ := h6 i _ _ _ (List.getElem?_eq_getElem (by omega)) (List.getElem?_eq_getElem (by omega)) (List.getElem?_eq_getElem hi)
      by_cases e : ∃ n, ((x'[i]'(by omega)).1, n) ∈ hs
      · obtain ⟨n, hn⟩ := e
        rw [(h7 n hn).1] at hqg; cases hqg
      · exact OR.noctl (h8 fun n hn => e ⟨n, hn⟩) q hqg
  | map tk tv x => obtain ⟨_, _, b, es, cl, _, rfl, _⟩ := H; intro q hq; rw [List.mem_singleton.1 hq]; rfl
  | mapr tk tv x left cur j =>
    obtain ⟨x', _, b, es, cl, r, since, c0, seen, _, rfl, _⟩ := H
    intro q hq
    simp only [List.mem_cons, List.not_mem_nil, or_false] at hq
    rcases hq with rfl | rfl <;> rfl
  | mit tk tv left cur =>
    rcases H with ⟨r, since, c0, seen, _, _, _, rfl⟩ | ⟨b, es, cl, r, since, c0, seen, x, _, _, rfl, _⟩ <;> (intro q hq; rw [List.mem_singleton.1 hq]; rfl)
theorem OsRep.noctl {m : Mem} {ρ : List Value} {H : List AO} {φ : List Frag} (h : OsRep m ρ H φ) (hp : (H.all AO.plain) = true) : ∀ q ∈ φ.flatten, ctl q.2 = false := by
  intro q hq
  obtain ⟨g, hg, hqg⟩ := List.mem_flatten.1 hq
  obtain ⟨i, hi, rfl⟩ := List.getElem_of_mem hg
  have h1 : i < H.length := by rw [← h.nφ]; exact hi
  have h2 := h.at_ i _ _ _ (List.getElem?_eq_getElem h1) (List.getElem?_eq_getElem (by rw [h.nρ]; exact h1)) (List.getElem?_eq_getElem hi)
  rw [List.all_eq_true] at hp
  exact h2.noctl (hp _ (List.getElem_mem h1)) q hqg

/-! worlds with some records -/
theorem inC_lt {e : World} {k : Nat} (h : inC e k) : k < e.heap.size := let ⟨_, h1, _⟩ := h; (Array.getElem?_eq_some_iff.1 h1).1

/-! loops over functions -/
/-- Control blocks alone turn, none of which is owned. -/
theorem SH.but {e w w' : World} {m : Mem} {f : Frag} {b : Nat} (h : SH e w m f) (hB : But [] b w w') (hb : e.heap.size ≤ b) : SH e w' m f :=
  ⟨hB.os.trans h.os, hB.tape.trans h.tape, hB.output.trans h.output, fun x o hx => hB.same x o (h.fz _ _ hx) (by simp) (.inl (h.mctl _ _ hx)), fun p hp => hB.same _ _ (h.own p hp) (by simp) (by
    cases hc : ctl p.2 with
    | false => exact .inl rfl
    | true => exact .inr (Nat.lt_of_lt_of_le (inC_lt (h.noctl p hp hc)) hb)), h.nd, h.dis, h.noctl, h.mctl, Nat.le_trans h.esz hB.size⟩
section
variable {P : Program} {N : Ev} {X : Cx} {Q : APost} {st : AS}
variable {d : Nat} {T U T' : TypeId} {pos : String} {aft : Array Edge} {g : Option (Nat × Bool)} {x y : Operand}
end
end Go.Ab
namespace Go.Ab
open Go.RowKit Go.Shelf Go.Proofs Go.Eng

section
variable {P : Program} {N : Ev} {X : Cx} {Q : APost} {st : AS}
variable {d : Nat} {T U T' : TypeId} {pos : String} {aft : Array Edge} {g : Option (Nat × Bool)} {x y : Operand}

/-- A literal slice that the call owns. -/
theorem aop_buildSlice {E n : Nat} {t : Ty} {ps : List (Nat × Operand)} {qs : List (Nat × List AV)} {zs cs : List AV} {ys : List t.den} {K : AS → Prop} (hT : BuildS P T E t) (hx : evas st.l ps = qs.map some) (hz : ((List.replicate n (zeroV t)).flatten).map ofV1 = zs) (hl : layA (fun i => some (i * t.cells, t.cells)) zs qs = some cs) (hy : (ys.map (expl t)).flatten = cs) (hn : Nat.beq ys.length n = true) (hc : Nat.ble (n * t.cells) 16777216 = true) (hc1 : Nat.ble n 16777216 = true) (hno : (ys.all fun y => t.fit y) = true)
    (k : K (st.new d (.osl st.n) (.sl E t ys))) (hN : Nat.blt d N.n = true := by rfl) :
    AOp P N X ⟨some d, .buildSlice T n ps.toArray, U, pos, aft, g⟩ K st :=
  aop_of fun Q fr w m ρ φ hcc K' hK => by
  obtain ⟨vs, h1, h2, h3⟩ := hcc.evs hx
  have hzl := run_buildSlice (w := w) (ps := vs.toArray) hT hc (us := #[])
  have hz' : ∀ (l : List Value), RepL m ρ (l.map ofV1) l := by
    intro l
    induction l with
    | nil => simp [RepL]
    | cons v l ih => simp only [List.map_cons, RepL]; exact ⟨rep_ofV1 m ρ v, ih⟩
  obtain ⟨zz, hzz, _⟩ := hzl
  obtain ⟨us, h6, h7, h8⟩ := lay_fill (us := zz) hl h2 h3 (by rw [← hz, hzz]; exact hz' _) (by
    rw [hzz]; intro u hu
    obtain ⟨r, hr, hur⟩ := List.mem_flatten.1 hu
    rw [List.eq_of_mem_replicate hr] at hur
    exact zeroV_one t u hur)
  obtain ⟨zz', hzz', hrun⟩ := run_buildSlice (w := w) (ps := vs.toArray) hT hc (us := us)
  have hzeq : zz' = zz := Array.toList_inj.1 (hzz'.trans hzz.symm)
  subst hzeq
  have hr := hrun (by simpa using h6)
  have hn' := Nat.eq_of_beq_eq_true hn
  refine op_val (v := .slice (some ⟨w.heap.size, 0, none⟩) n n) rfl hN (fun s hs => ?_) ?_ (dk_new (new_push w (.cells us E)))
  · have e := evos_eval hs h1
    simp only [execOp, List.map_toArray, Sem.run_bind]
    rw [show (List.map (fun (x : Nat × Operand) => match x with | (i, x) => (i, s.eval x)) ps) = vs from e, hr]
    rfl
  · have hs := hcc.sh.alloc (new_push w (.cells us E)) rfl
    have hrows : RowsC m t ys us.toList := by rw [← hy] at h7; exact rows_of_expl hno h7
    have h47 : cap47 = 140737488355328 := rfl
    have hc1' := Nat.le_of_ble_eq_true hc1
    have hlen := hrows.len
    refine hK _ _ _ _ _ _ (hcc.newObj (h := .slice (some ⟨w.heap.size, 0, none⟩) n n) (f := [(w.heap.size, .cells us E)]) (Mem.le_refl _) hs ?_ ?_) k
    · refine ⟨by omega, .inr ⟨w.heap.size, n, us, us.toList, by rw [hn'], rfl, by omega, by simp only [maxLen]; omega, by rw [← hn', ← hlen]; simp, hrows, by rw [← hlen, List.take_length]⟩⟩
    · simp only [RepA]
      exact ⟨by rw [← hcc.nρ]; simp, rfl⟩
end
end Go.Ab
namespace Go.Ab
open Go.RowKit Go.Shelf Go.Proofs Go.Eng

/-! the kit's contracts of rows, of what is handed in -/
theorem OsRep.one {m : Mem} {ρ : List Value} {o : AO} {φ : List Frag} (H : OsRep m ρ [o] φ) : ∃ h f, ρ = [h] ∧ φ = [f] ∧ ORep m ρ o h f := by
  have h1 := H.nρ
  have h2 := H.nφ
  match ρ, φ, h1, h2 with
  | [h], [f], _, _ => exact ⟨h, f, rfl, rfl, H.at_ 0 o h f rfl rfl rfl⟩

end Go.Ab
namespace Go.Eng
open Go.RowKit Go.Shelf Go.Proofs

/-! regions told where an operation reads a slot that a later one writes -/
section
variable {P : Program} {N : Ev} {Q : Post} {l : Fr} {w : World}
def ObsX (P : Program) (N : Ev) (S : World → World → Prop) (ops : List Oper) (Φ : List VP) (Q : Post) (w : World) : List Oper → List VP → List (List Nat) → List Fr → Prop
  | o :: os, φ :: φs, js :: jss, b :: bs => (∀ W, S w W → Gather (depAt ops Φ js) b W fun l => OpG P N S ops o φ Q l W) ∧ ObsX P N S ops Φ Q w os φs jss bs
  | _, _, _, _ => True
theorem ObsX.at {S : World → World → Prop} {ops : List Oper} {Φ : List VP} {os : List Oper} : ∀ {φs : List VP} {jss : List (List Nat)} {bs : List Fr}, ObsX P N S ops Φ Q w os φs jss bs → ∀ {i : Nat} {o : Oper} {φ : VP} {js : List Nat} {b : Fr}, os[i]? = some o → φs[i]? = some φ → jss[i]? = some js → bs[i]? = some b →
    ∀ W, S w W → Gather (depAt ops Φ js) b W fun l => OpG P N S ops o φ Q l W := by
  induction os with
  | nil => intro φs jss bs _ i o φ js b h; simp at h
  | cons o' os ih =>
    intro φs jss bs h i o φ js b h1 h2 h3 h4
    cases φs with
    | nil => simp at h2
    | cons φ' φs =>
      cases jss with
      | nil => simp at h3
      | cons js' jss =>
        cases bs with
        | nil => simp at h4
        | cons b' bs =>
        cases i with
        | zero => simp at h1 h2 h3 h4; subst h1 h2 h3 h4; exact h.1
        | succ i => simp at h1 h2 h3 h4; exact ih h.2 h1 h2 h3 h4
theorem ObsX.drawn {S : World → World → Prop} (hS : SR S) {ops : List Oper} {Φ : List VP} {k : Nat} {os : List Oper} : ∀ {φs : List VP} {jss : List (List Nat)} {bs : List Fr}, ObsX P N S ops Φ Q w os φs jss bs → ObsX P N S ops Φ Q { w with drawn := k } os φs jss bs := by
  induction os with
  | nil => intro φs jss bs _; trivial
  | cons o os ih =>
    intro φs jss bs h
    cases φs with
    | nil => trivial
    | cons φ φs =>
      cases jss with
      | nil => trivial
      | cons js jss =>
        cases bs with
        | nil => trivial
        | cons b bs => exact ⟨fun W hW => h.1 W (hS.drawn _ _ _ hW), ih h.2⟩
end
end Go.Eng
namespace Go
section
variable {P : Program} {b : Frame} {a : Act} {k : List Item} {cs : List Frame} {w : World} {Q : Exit → Act → World → Prop} {F : Fence} {n : Nat}
end
end Go
namespace Go.Ab
open Go.RowKit Go.Shelf Go.Proofs Go.Eng
end Go.Ab
namespace Go.Ab
open Go.RowKit Go.Shelf Go.Proofs Go.Eng
section
variable {P : Program} {N : Ev} {X : Cx} {Q : APost} {st : AS}
end
end Go.Ab
namespace Go.Ab
open Go.RowKit Go.Shelf Go.Proofs Go.Eng

/-! own slices in an own slice -/
/-- A row is changed. -/
theorem RowsO.set {m : Mem} {T : TypeId} {t : Ty} {y : List t.den} {r : Value} {g : Frag} : ∀ {x : List (List t.den)} {rs : List Value} {fs : List Frag} {k : Nat}, RowsO m T t x rs fs → SlRep m T t y r g → RowsO m T t (x.set k y) (rs.set k r) (fs.set k g) := by
  intro x
  induction x with
  | nil => intro rs fs k h _; cases rs with
    | nil => cases fs with
      | nil => trivial
      | cons => exact h.elim
    | cons => exact h.elim
  | cons z x ih => intro rs fs k h hy; cases rs with
    | nil => exact h.elim
    | cons r' rs => cases fs with
      | nil => exact h.elim
      | cons f fs => cases k with
        | zero => exact ⟨hy, h.2⟩
        | succ k => exact ⟨h.1, ih h.2 hy⟩

section
variable {P : Program} {N : Ev} {X : Cx} {Q : APost} {st : AS}
variable {d : Nat} {T U T' : TypeId} {pos : String} {aft : Array Edge} {g : Option (Nat × Bool)} {x y : Operand} {k ky : IntKind} {a b : Int}

section
variable {m : Mem} {ρ ρ' : List Value} {i : Nat} {h : Value} {rs rs' : List Value}
end

end
end Go.Ab
namespace Go.Eng
open Go.RowKit Go.Shelf Go.Proofs Go.ChangeShapes Go.WideShapes

/-! arguments as they are handed in -/
def BK : Type := Option (Option IntKind)
def BK.is (k : BK) (v : Value) : Prop := match k with
  | some (some k) => ∃ z, v = .int k z ∧ (Lit.int k z).wf = true
  | some none => ∃ z : ByteArray, v = .string z ∧ z.size ≤ maxLen
  | none => ∃ z, v = .bool z
section
variable {H : Type} {enc : TypeId × Value → H} {P : Program} {w : World} {base : Nat} {sp : Nat → Bool} {held : Bool} {n : Nat}
end
end Go.Eng
namespace Go.Ab
open Go.RowKit Go.Shelf Go.Proofs Go.Eng

/-! a law's call -/
theorem sh_law (W : World) : SH W W (allM W []) [] := ⟨rfl, rfl, rfl, fun b o hb => (of_allM hb).1, fun p hp => by simp at hp, by simp, fun p hp => by simp at hp, fun p hp => by simp at hp, fun b o hb => (of_allM hb).2, Nat.le_refl _⟩
/-- What a law does. -/
theorem law_calls {P : Program} {f : FuncId} {args : List AV} {W : World} {vs : List Value} {r : Bool} (h : RunsP P f args [.bool r]) (hv : RepL (allM W []) [] args vs) : Ret P f vs.toArray W fun v W' => v = .bool r ∧ Below W.heap.size W W' := by
  have := h W W (allM W []) [] [] [] vs hv ⟨rfl, rfl, fun i o h f hi => by simp at hi⟩ (by simpa using sh_law W)
  refine Calls.mono this ?_
  rintro e w' ⟨v, he, hd, rs', H', m', ρ', φ', ⟨rfl, rfl⟩, hm, _, _, ho, hs, us, hu, rfl⟩
  have hφ : φ' = [] := List.eq_nil_of_length_eq_zero ho.nφ
  subst hφ
  have h1 := rep_tup hu
  simp only [tupA, RepA] at h1
  exact ⟨_, he, hd, h1, below_all (sh_law W) (by simpa using hs) hm hd.2 hd.1⟩
end Go.Ab
namespace Go.Ab
open Go.RowKit Go.Shelf Go.Proofs Go.Eng Go.ChangeShapes Go.WideShapes

/-! arguments of any type of data, as they are handed in -/
mutual
/-- A type of the program is a type of data. -/
inductive TyOf (P : Program) : Ty → TypeId → Prop
  | int {k : IntKind} {T : TypeId} : P.underlying T = some (.int k) → TyOf P (.int k) T
  | bool {T : TypeId} : P.underlying T = some .bool → TyOf P .bool T
  | str {T : TypeId} : P.underlying T = some .string → TyOf P .str T
  | slice {e : Ty} {T E : TypeId} : P.underlying T = some (.slice E) → P.cellsOf E = e.cells → Nat.blt 0 e.cells = true → Nat.blt 0 (P.bytesOf E) = true → TyOf P e E → TyOf P (.slice e) T
  | st {a : Ty} {T : TypeId} {fs : Array Field} : P.underlying T = some (.struct fs) → P.cellsOf T = a.cells → FdOf P a (fs.toList.map fun f => (f.type, f.offset)) 0 → TyOf P (.st a) T
  | ar {a : Ty} {T E : TypeId} {n : Nat} : P.underlying T = some (.array n E) → P.cellsOf T = a.cells → FdOf P a ((List.range n).map fun i => (E, i * P.cellsOf E)) 0 → TyOf P (.st a) T
inductive FdOf (P : Program) : Ty → List (TypeId × Nat) → Nat → Prop
  | unit {o : Nat} : FdOf P .unit [] o
  | one {a : Ty} {T : TypeId} {o : Nat} : P.cellsOf T = a.cells → TyOf P a T → FdOf P a [(T, o)] o
  | cons {a b : Ty} {T : TypeId} {o : Nat} {q : TypeId × Nat} {r : List (TypeId × Nat)} : P.cellsOf T = a.cells → TyOf P a T → FdOf P b (q :: r) (o + a.cells) → FdOf P (.pair a b) ((T, o) :: q :: r) o
end

/-- What a datum that is handed in is. -/
def WF : (t : Ty) → t.den → Prop
  | .int k, x => (Lit.int k x).wf = true
  | .bool, _ => True
  | .str, x => x.length ≤ reachBytes
  | .unit, _ => True
  | .pair a b, x => WF a x.1 ∧ WF b x.2
  | .st a, x => WF a x
  | .slice e, (x : List e.den) => x.length ≤ reachBytes ∧ ∀ y ∈ x, WF e y
  | .arr _ e, (x : List e.den) => ∀ y ∈ x, WF e y
  | .raw _, _ => True
  | .map _ _, _ => True
  | .ptr _, _ => True

section
variable {H : Type} {enc : TypeId × Value → H} {P : Program} {w : World} {held : Bool}

theorem cells_at {a : Addr} {base k : Nat} {cs : List Value} (h : w.cells? base a k = some cs) (hk : 0 < k) : a.spot = none ∧ CellsM (allM w []) a.block a.off cs := by
  obtain ⟨_, h5, h6⟩ := World.cells?_some h
  obtain ⟨b, o, sp⟩ := a
  have hspot : sp = none := by
    have g7 := h6 0 hk
    rw [List.getElem?_eq_getElem (by omega)] at g7
    simpa [Addr.add] using World.cell?_spot g7
  subst hspot
  refine ⟨rfl, fun j v hj => ?_⟩
  have hjl := (List.getElem?_eq_some_iff.1 hj).1
  have h1 := h6 j (by omega)
  rw [hj, add_lit] at h1
  unfold World.cell? at h1
  simp only at h1
  split at h1
  · rename_i cs T fr hb
    exact ⟨cs, T, fr, allM_nil hb rfl, h1⟩
  · cases h1

mutual
theorem dec_ty : ∀ {t : Ty} {T : TypeId}, TyOf P t T → ∀ {n : Nat} {cs : List Value} {y : DataW H × List MemPlace}, DataW.trod enc P w 0 (fun _ => true) held n T cs = some y → (∀ k ∈ y.1.weights P T, k ≤ reachBytes) → ∃ x : t.den, WF t x ∧ RC (allM w []) t x cs
  | _, _, .int hu, n, cs, y, h, hz => by
    obtain ⟨z, rfl, _, hw⟩ := DataW.trod_int hu h
    exact ⟨z, hw, rfl⟩
  | _, _, .bool hu, n, cs, y, h, hz => by
    obtain ⟨z, rfl, _⟩ := DataW.trod_bool hu h
    exact ⟨z, trivial, rfl⟩
  | _, _, .str hu, n, cs, y, h, hz => by
    obtain ⟨z, rfl, rfl, hw⟩ := DataW.trod_string hu h
    refine ⟨z.data.toList, hz _ (by simp [DataW.weights]), ?_⟩
    show [Value.string z] = [.string (bstr z.data.toList)]
    rw [bstr_data]
  | .slice e, T, .slice (E := E) hu hc h0 hB he, n, cs, y, h, hz => by
    have h0' : 0 < e.cells := by simpa using h0
    have hB' : 0 < P.bytesOf E := by simpa using hB
    rcases Deep.open_slice hu h with ⟨rfl, rfl⟩ | ⟨a, len, cap, m, n', D, Pl, rfl, _, hl, hm, hmm, rfl, hall⟩
    · exact ⟨([] : List e.den), ⟨Nat.zero_le _, fun y hy => by cases hy⟩, ⟨none, 0, 0, rfl, rfl, Nat.le_refl _, Nat.zero_le _, 0, 0, fun h => absurd h (by omega), fun i y hy => by simp at hy⟩⟩
    · rw [if_pos rfl] at hmm
      subst hmm
      have hwt : ∀ k, k ∈ (DataW.slice ((List.range len).map D) ((List.range (m - len)).map fun j => D (len + j))).weights P T → k ≤ reachBytes := hz
      have hlen : len ≤ reachBytes := by
        have := hwt ((((List.range len).map D).length + ((List.range (m - len)).map fun j => D (len + j)).length) * P.bytesOf E) (by simp [DataW.weights, hu])
        simp only [List.length_map, List.length_range] at this
        have z2 := Nat.le_trans (Nat.le_mul_of_pos_right _ hB') this
        omega
      have hin : ∀ i, i < len → ∀ k ∈ (D i).weights P E, k ≤ reachBytes := by
        intro i hi k hk
        refine hwt k ?_
        simp only [DataW.weights, hu, List.mem_cons, List.mem_append]
        refine .inr (.inl ?_)
        have : ∀ {l : List (DataW H)} {d : DataW H}, d ∈ l → k ∈ d.weights P E → k ∈ DataW.weightsAll P E l := by
          intro l
          induction l with
          | nil => intro d hd; cases hd
          | cons c l ih =>
            intro d hd hk
            rw [DataW.weightsAll, List.mem_append]
            rcases List.mem_cons.1 hd with rfl | hd
            · exact .inl hk
            · exact .inr (ih hd hk)
        exact this (List.mem_map.2 ⟨i, List.mem_range.2 hi, rfl⟩) hk
      rw [hc] at hall
      have hrow : ∀ i, i < len → ∃ x : e.den, ∃ us, WF e x ∧ RC (allM w []) e x us ∧ a.spot = none ∧ CellsM (allM w []) a.block (a.off + i * e.cells) us := by
        intro i hi
        obtain ⟨us, h1, h2⟩ := hall i (by omega)
        obtain ⟨x, hx1, hx2⟩ := dec_ty he h2 (hin i hi)
        obtain ⟨s0, _⟩ : a.spot = none ∧ True := by
          obtain ⟨u0, g1, _⟩ := hall 0 (by omega)
          have := (cells_at g1 h0').1
          refine ⟨?_, trivial⟩
          simpa [Addr.add] using this
        obtain ⟨b0, o0, sp⟩ := a
        simp only at s0
        subst s0
        rw [add_lit] at h1
        have := (cells_at h1 h0').2
        exact ⟨x, us, hx1, hx2, rfl, this⟩
      have hne : ∀ i, i < len → Nonempty e.den := fun i hi => let ⟨x, _⟩ := hrow i hi; ⟨x⟩
      by_cases hz0 : len = 0
      · subst hz0
        exact ⟨([] : List e.den), ⟨Nat.zero_le _, fun y hy => by cases hy⟩, ⟨some a, 0, m, rfl, rfl, Nat.zero_le _, Nat.zero_le _, 0, 0, fun h => absurd h (by omega), fun i y hy => by simp at hy⟩⟩
      · obtain ⟨x0⟩ := hne 0 (by omega)
        haveI : Inhabited e.den := ⟨x0⟩
        obtain ⟨X, hX⟩ := Deep.choose_lt hrow
        have hspot : a.spot = none := by obtain ⟨_, _, _, h, _⟩ := hX 0 (by omega); exact h
        refine ⟨(List.range len).map X, ⟨by simpa using hlen, fun y hy => ?_⟩, ⟨some a, len, m, rfl, by simp, hl, by have := reachBytes_lt; show len ≤ 140737488355328; omega, a.block, a.off, fun _ => ?_, fun i y hy => ?_⟩⟩
        · obtain ⟨i, hi, rfl⟩ := List.mem_map.1 hy
          obtain ⟨_, h1, _⟩ := hX i (List.mem_range.1 hi)
          exact h1
        · obtain ⟨b0, o0, sp⟩ := a
          simp only at hspot
          subst hspot; rfl
        · have hil : i < len := by have := (List.getElem?_eq_some_iff.1 hy).1; simpa using this
          obtain ⟨us, _, h2, _, h3⟩ := hX i hil
          have : y = X i := by
            rw [List.getElem?_map, List.getElem?_range hil] at hy
            exact (Option.some.inj hy).symm
          subst this
          exact ⟨us, h2, h3⟩
  | .st a, T, .st (fs := fs) hu hc hf, n, cs, y, h, hz => by
    obtain ⟨xs, m, _, rfl, hl, hxl, hall⟩ := DataW.trod_struct hu h
    have := dec_fd hf (n := m) (cs := cs) (xs := xs) (by simpa using hxl) (by rw [hl, hc]; omega) (fun i q hi => by
      rw [List.getElem?_map] at hi
      cases hfi : fs.toList[i]? with
      | none => rw [hfi] at hi; cases hi
      | some f => rw [hfi] at hi; cases hi; exact hall i f (by simpa using hfi)) (fun k hk => hz k (by simp only [DataW.weights, hu]; rw [List.map_map] at hk; exact hk))
    rw [List.drop_zero, List.take_of_length_le (by omega)] at this
    exact this
  | .st a, T, .ar (n := k) (E := E) hu hc hf, n, cs, y, h, hz => by
    obtain ⟨xs, m, _, rfl, hl, hxl, hall⟩ := DataW.trod_array hu h
    have hw : ∀ {l : List (DataW H)} {j : Nat}, j = l.length → DataW.weightsEach P (((List.range j).map fun i => (E, i * P.cellsOf E)).map (·.1)) l = DataW.weightsAll P E l := by
      have : ∀ {l : List (DataW H)} {ts : List TypeId}, ts = List.replicate l.length E → DataW.weightsEach P ts l = DataW.weightsAll P E l := by
        intro l
        induction l with
        | nil => intro ts h; subst h; simp [DataW.weightsEach, DataW.weightsAll]
        | cons d l ih => intro ts h; subst h; rw [List.length_cons, List.replicate_succ, DataW.weightsEach, DataW.weightsAll, ih rfl]
      intro l j hj
      refine this ?_
      subst hj
      rw [List.map_map]
      apply List.ext_getElem?
      intro i
      rw [List.getElem?_map, List.getElem?_replicate]
      by_cases hi : i < l.length
      · rw [List.getElem?_range hi, if_pos hi]; rfl
      · rw [List.getElem?_eq_none (by simpa using hi), if_neg hi]; rfl
    have := dec_fd hf (n := m) (cs := cs) (xs := xs) (by simpa using hxl) (by rw [hl, hc]; omega) (fun i q hi => by
      rw [List.getElem?_map] at hi
      by_cases hik : i < k
      · rw [List.getElem?_range hik] at hi; cases hi; exact hall i hik
      · rw [List.getElem?_eq_none (by simpa using hik)] at hi; cases hi) (fun k' hk => hz k' (by
        rw [hw (by simp [hxl])] at hk
        simp only [DataW.weights, hu]; exact hk))
    rw [List.drop_zero, List.take_of_length_le (by omega)] at this
    exact this
theorem dec_fd : ∀ {a : Ty} {r : List (TypeId × Nat)} {o : Nat}, FdOf P a r o → ∀ {n : Nat} {cs : List Value} {xs : List (DataW H × List MemPlace)}, xs.length = r.length → o + a.cells ≤ cs.length →
    (∀ (i : Nat) (q : TypeId × Nat), r[i]? = some q → DataW.trod enc P w 0 (fun _ => true) held n q.1 ((cs.drop q.2).take (P.cellsOf q.1)) = xs[i]?) → (∀ k ∈ DataW.weightsEach P (r.map (·.1)) (xs.map (·.1)), k ≤ reachBytes) →
    ∃ x : a.den, WF a x ∧ RC (allM w []) a x ((cs.drop o).take a.cells)
  | _, _, _, .unit, n, cs, xs, hl, hc, h, hz => ⟨(), trivial, by simp [RC, Ty.cells]⟩
  | a, _, o, .one (T := T) hk ht, n, cs, xs, hl, hc, h, hz => by
    obtain ⟨x, rfl⟩ := List.length_eq_one_iff.1 hl
    have h1 := h 0 _ rfl
    simp only [List.getElem?_cons_zero] at h1
    rw [← hk]
    exact dec_ty ht h1 (fun k hk => hz k (by simp only [List.map_cons, List.map_nil, DataW.weightsEach, List.mem_append]; exact .inl hk))
  | .pair a b, _, o, .cons (T := T) (q := q) (r := r) hk ht hr, n, cs, xs, hl, hc, h, hz => by
    cases xs with
    | nil => simp at hl
    | cons x xs =>
      have h1 := h 0 _ rfl
      simp only [List.getElem?_cons_zero] at h1
      obtain ⟨u, u1, u2⟩ := dec_ty ht h1 (fun k hk => hz k (by simp only [List.map_cons, DataW.weightsEach, List.mem_append]; exact .inl hk))
      simp only [Ty.cells] at hc
      obtain ⟨v, v1, v2⟩ := dec_fd hr (n := n) (cs := cs) (xs := xs) (by simpa using hl) (by omega) (fun i q hi => by
        have := h (i + 1) q (by simpa using hi)
        simpa using this) (fun k hk => hz k (by simp only [List.map_cons, DataW.weightsEach, List.mem_append] at hk ⊢; exact .inr hk))
      refine ⟨(u, v), ⟨u1, v1⟩, ⟨_, _, ?_, u2, v2⟩⟩
      rw [hk]
      simp only [Ty.cells]
      rw [List.take_add, List.drop_drop]
end

theorem fd_cast {a : Ty} {l m : List (TypeId × Nat)} {o : Nat} (h : m = l) (k : FdOf P a l o) : FdOf P a m o := h ▸ k
/-- An argument. -/
theorem arg_ty {t : Ty} {T : TypeId} (ht : TyOf P t T) (hn : t.noArr = true) {v : Value} {d : DataW H} {ps : List MemPlace} {r : Reach} {base : Nat} {ts : List TypeId} {ds : List (DataW H)} {j : Nat}
    (hok : Value.okWide P w r base T v) (hsz : (DataW.weightsEach P ts ds).all (· ≤ reachBytes) = true) (hj : ts[j]? = some T) (hd : ds[j]? = some d)
    (h : DataW.Trod enc P w 0 (fun _ => true) held T v d ps) : ∃ x : t.den, WF t x ∧ RepA (allM w []) [] (whole t x) v := by
  obtain ⟨fuel, hf⟩ := h
  obtain ⟨x, h1, h2⟩ := dec_ty ht hf (fun k hk => by
    have := List.all_eq_true.1 hsz _ (DataW.weights_mem_each hj hd k hk)
    simpa using this)
  refine ⟨x, h1, ?_⟩
  have one : ∀ {a : AV} {u : Value}, v.cells = #[v] → RepL (allM w []) [] [a] v.cells.toList → RepA (allM w []) [] a v := by
    intro a u hv hr
    rw [hv] at hr
    simp only [RepL, and_true] at hr; exact hr
  have hr := rc_expl (ρ := []) h2
  cases ht with
  | int hu => obtain ⟨n, rfl⟩ := okWide_int hu hok; simp only [Value.cells, RepL, expl, and_true] at hr; exact hr
  | bool hu => obtain ⟨n, rfl⟩ := okWide_bool hu hok; simp only [Value.cells, RepL, expl, and_true] at hr; exact hr
  | str hu => obtain ⟨n, rfl⟩ := okWide_string hu hok; simp only [Value.cells, RepL, expl, and_true] at hr; exact hr
  | slice hu _ _ _ _ => obtain ⟨a, l, c, rfl⟩ := okWide_slice hu hok; simp only [Value.cells, RepL, expl, and_true] at hr; exact hr
  | st hu hc _ =>
    obtain ⟨cs, rfl, _⟩ := okWide_struct hu hok
    simp only [whole, Ty.agg, if_true, RepA]
    exact ⟨cs.toList, by simp, hr, h2.one⟩
  | ar hu hc _ =>
    simp only [Value.okWide, hu] at hok
    obtain ⟨cs, rfl, _⟩ := hok
    simp only [whole, Ty.agg, if_true, RepA]
    exact ⟨cs.toList, by simp, hr, h2.one⟩
end
end Go.Ab
namespace Go.Ab
open Go.RowKit Go.Shelf Go.Proofs Go.Eng

/-! the tail of a slice of the call's own, cleared -/
section
variable {P : Program} {N : Ev} {K : Fr → World → Prop} {Q : Post} {l : Fr} {w : World}
end
section
variable {P : Program} {N : Ev} {X : Cx} {Q : APost} {st : AS} {ops : Array Oper} {rest : List Oper}
variable {d T U U' : TypeId} {pos pos' : String} {aft aft' : Array Edge} {x y lo : Operand}
end

end Go.Ab
namespace Go.Ab
open Go.RowKit Go.Shelf Go.Proofs Go.Eng

/-! maps of what the call owns -/
/-- Entries, one for each pair, and where they lie. -/
def Ent3 (m : Mem) (ρ : List Value) (k : Ty) (v : OT) (hs : List (k.den × Nat)) : List (k.den × v.den) → List MapEntry → List Frag → Prop
  | [], [], [] => True
  | p :: x, e :: es, g :: fs => EntT m ρ k v hs p e g ∧ Ent3 m ρ k v hs x es fs
  | _, _, _ => False
section
variable {m : Mem} {ρ : List Value} {k : Ty} {v : OT} {hs hs' : List (k.den × Nat)}
theorem ent3_of : ∀ {x : List (k.den × v.den)} {es : List MapEntry} {fs : List Frag}, es.length = x.length → fs.length = x.length → (∀ (i : Nat) (p : k.den × v.den) (e : MapEntry) (g : Frag), x[i]? = some p → es[i]? = some e → fs[i]? = some g → EntT m ρ k v hs p e g) → Ent3 m ρ k v hs x es fs := by
  intro x
  induction x with
  | nil => intro es fs h1 h2 _; cases es with
    | nil => cases fs with
      | nil => trivial
      | cons => simp at h2
    | cons => simp at h1
  | cons p x ih => intro es fs h1 h2 h; cases es with
    | nil => simp at h1
    | cons e es => cases fs with
      | nil => simp at h2
      | cons g fs => exact ⟨h 0 p e g rfl rfl rfl, ih (by simpa using h1) (by simpa using h2) fun i p e g a b c => h (i + 1) p e g (by simpa using a) (by simpa using b) (by simpa using c)⟩
theorem ent3_get : ∀ {x : List (k.den × v.den)} {es : List MapEntry} {fs : List Frag}, Ent3 m ρ k v hs x es fs → es.length = x.length ∧ fs.length = x.length ∧ ∀ (i : Nat) (p : k.den × v.den) (e : MapEntry) (g : Frag), x[i]? = some p → es[i]? = some e → fs[i]? = some g → EntT m ρ k v hs p e g := by
  intro x
  induction x with
  | nil => intro es fs h; cases es with
    | nil => cases fs with
      | nil => exact ⟨rfl, rfl, fun i p e g hp => by simp at hp⟩
      | cons => exact h.elim
    | cons => exact h.elim
  | cons p x ih => intro es fs h; cases es with
    | nil => exact h.elim
    | cons e es => cases fs with
      | nil => exact h.elim
      | cons g fs =>
        obtain ⟨h1, h2, h3⟩ := ih h.2
        refine ⟨by simp [h1], by simp [h2], fun i q u f a b c => ?_⟩
        cases i with
        | zero => simp at a b c; subst a b c; exact h.1
        | succ i => exact h3 i q u f (by simpa using a) (by simpa using b) (by simpa using c)
def rawT : Ty := .raw ⟨.bool false, rfl⟩
theorem raw3 : ∀ {x : List (k.den × v.den)} {es : List MapEntry} {fs : List Frag}, Ent3 m ρ k v hs x es fs → ∃ xr : List (k.den × rawT.den), EntL m k rawT xr es ∧ xr.map (·.1) = x.map (·.1) ∧ ∀ (i : Nat) c, xr[i]? = some c → ∃ e, es[i]? = some e ∧ e.val = (c.2 : Cell1).1 := by
  intro x
  induction x with
  | nil => intro es fs h; cases es with
    | nil => exact ⟨[], trivial, rfl, fun i c h => by simp at h⟩
    | cons => exact h.elim
  | cons p x ih => intro es fs h; cases es with
    | nil => exact h.elim
    | cons e es => cases fs with
      | nil => exact h.elim
      | cons g fs =>
        obtain ⟨xr, h1, h2, h3⟩ := ih h.2
        refine ⟨(p.1, (⟨e.val, h.1.1.2⟩ : Cell1)) :: xr, ⟨⟨h.1.1.1, rfl⟩, h1⟩, by simp [h2], fun i c hc => ?_⟩
        cases i with
        | zero => simp at hc; subst hc; exact ⟨e, rfl, rfl⟩
        | succ i => simpa using h3 i c (by simpa using hc)
theorem mget_none_iff {α β : Type} [DecidableEq α] : ∀ {x : List (α × β)} {z : α}, mget x z = none ↔ z ∉ x.map (·.1) := by
  intro x z
  induction x with
  | nil => simp [mget]
  | cons p x ih =>
    simp only [mget, List.map_cons, List.mem_cons, not_or]
    split
    · rename_i h; simp [h]
    · rename_i h; simp [ih, h]
theorem mget_first {α β : Type} [DecidableEq α] : ∀ {x : List (α × β)} {z : α} {i : Nat} {y : β}, x[i]? = some (z, y) → (∀ j, j < i → (x[j]?).map (·.1) ≠ some z) → mget x z = some y := by
  intro x
  induction x with
  | nil => intro z i y h; simp at h
  | cons p x ih =>
    intro z i y h hj
    cases i with
    | zero => simp at h; subst h; simp [mget]
    | succ i =>
      have h0 := hj 0 (by omega)
      simp at h0
      simp only [mget, if_neg (fun e : z = p.1 => h0 e.symm)]
      exact ih (by simpa using h) fun j hjj => by simpa using hj (j + 1) (by omega)
/-- The entry of a key. -/
theorem find3 {P : Program} {kT : TypeId} [DecidableEq k.den] (hK : KeyT P kT k) {x : List (k.den × v.den)} {es : List MapEntry} {fs : List Frag} {kx : k.den} {kv : Value} {w : World} (h : Ent3 m ρ k v hs x es fs) (hk : RV m k kx kv) :
    ∃ r, (Instr.findKey kT kv es).run P w = .ok r w ∧ match r with
      | none => kx ∉ x.map (·.1)
      | some (i, u) => ∃ y e g, x[i]? = some (kx, y) ∧ es[i]? = some e ∧ fs[i]? = some g ∧ e.val = u ∧ EntT m ρ k v hs (kx, y) e g ∧ ∀ j, j < i → (x[j]?).map (·.1) ≠ some kx := by
  obtain ⟨xr, h1, h2, h3⟩ := raw3 h
  obtain ⟨r, h4, h5⟩ := hK.find m kx kv rawT xr es w hk h1
  refine ⟨r, h4, ?_⟩
  have hkey : ∀ i : Nat, (xr[i]?).map (fun p => p.1) = (x[i]?).map (fun p => p.1) := fun i => by rw [← List.getElem?_map, ← List.getElem?_map, h2]
  cases r with
  | none => rw [mget_none_iff, h2] at h5; exact h5
  | some q =>
    obtain ⟨i, u⟩ := q
    obtain ⟨y, g1, g2, g3, ⟨e, g4⟩, g5⟩ := h5
    obtain ⟨c, hc, hck⟩ := Option.map_eq_some_iff.1 g3
    have hcc : xr[i]? = some (kx, c.2) := by rw [hc, ← hck]
    have hy := mget_first hcc g5
    rw [g1] at hy; cases hy
    obtain ⟨e', he', hv⟩ := h3 i c hc
    rw [g4] at he'; cases he'
    have hu : u = (c.2 : Cell1).1 := by
      simp only [RV, rawT, Ty.agg, RC] at g2
      simpa using g2
    rw [hkey] at g3
    obtain ⟨p, hp, hpk⟩ := Option.map_eq_some_iff.1 g3
    obtain ⟨l1, l2, l3⟩ := ent3_get h
    have hi := (List.getElem?_eq_some_iff.1 hp).1
    have hg : fs[i]? = some (fs[i]'(by omega)) := List.getElem?_eq_getElem _
    have hp' : x[i]? = some (kx, p.2) := by rw [hp, ← hpk]
    exact ⟨p.2, e, _, hp', g4, hg, by rw [hv, hu], l3 i _ _ _ hp' g4 hg, fun j hj => by rw [← hkey]; exact g5 j hj⟩
theorem ent_hs {p : k.den × v.den} {e : MapEntry} {g : Frag} (hh : ∀ n, (p.1, n) ∈ hs ↔ (p.1, n) ∈ hs') (h : EntT m ρ k v hs p e g) : EntT m ρ k v hs' p e g :=
  ⟨h.1, fun n hn => h.2.1 n ((hh n).2 hn), fun hn => h.2.2 fun n hm => hn n ((hh n).1 hm)⟩
theorem ent3_hs {kx : k.den} (hh : ∀ z n, z ≠ kx → ((z, n) ∈ hs ↔ (z, n) ∈ hs')) : ∀ {x : List (k.den × v.den)} {es : List MapEntry} {fs : List Frag}, kx ∉ x.map (·.1) → Ent3 m ρ k v hs x es fs → Ent3 m ρ k v hs' x es fs := by
  intro x
  induction x with
  | nil => intro es fs _ h; cases es with
    | nil => cases fs with
      | nil => trivial
      | cons => exact h.elim
    | cons => exact h.elim
  | cons p x ih => intro es fs hn h; cases es with
    | nil => exact h.elim
    | cons e es => cases fs with
      | nil => exact h.elim
      | cons g fs =>
        simp only [List.map_cons, List.mem_cons, not_or] at hn
        exact ⟨ent_hs (fun n => hh _ _ fun e => hn.1 e.symm) h.1, ih hn.2 h.2⟩
theorem ent3_set [DecidableEq k.den] {kx : k.den} {y : v.den} {g' : Frag} (hh : ∀ z n, z ≠ kx → ((z, n) ∈ hs ↔ (z, n) ∈ hs')) : ∀ {x : List (k.den × v.den)} {es : List MapEntry} {fs : List Frag} {i : Nat} {e0 : MapEntry}, Ent3 m ρ k v hs x es fs → (x.map (·.1)).Nodup → (x[i]?).map (·.1) = some kx → es[i]? = some e0 → (∀ j, j < i → (x[j]?).map (·.1) ≠ some kx) → ∀ (f : MapEntry → MapEntry), EntT m ρ k v hs' (kx, y) (f e0) g' → Ent3 m ρ k v hs' (mset x kx y) (es.modify i f) (fs.set i g') := by
  intro x
  induction x with
  | nil => intro es fs i e0 h _ hi; simp at hi
  | cons p x ih =>
    intro es fs i e0 h hnd hi he hj f hf
    cases es with
    | nil => exact h.elim
    | cons e es => cases fs with
      | nil => exact h.elim
      | cons g fs =>
        rw [List.map_cons, List.nodup_cons] at hnd
        cases i with
        | zero =>
          simp at hi he
          subst he
          simp only [mset, if_pos hi.symm, List.modify_zero_cons, List.set_cons_zero]
          exact ⟨hf, ent3_hs hh (by rw [← hi]; exact hnd.1) h.2⟩
        | succ i =>
          have hne : ¬ kx = p.1 := by
            have := hj 0 (by omega)
            simp at this
            exact fun e => this e.symm
          simp only [mset, if_neg hne, List.modify_succ_cons, List.set_cons_succ]
          exact ⟨ent_hs (fun n => hh _ _ fun e => hne e.symm) h.1, ih h.2 hnd.2 (by simpa using hi) (by simpa using he) (fun j hjj => by simpa using hj (j + 1) (by omega)) f hf⟩
theorem ent3_push [DecidableEq k.den] {kx : k.den} {y : v.den} {g' : Frag} {e' : MapEntry} (hh : ∀ z n, z ≠ kx → ((z, n) ∈ hs ↔ (z, n) ∈ hs')) (hf : EntT m ρ k v hs' (kx, y) e' g') : ∀ {x : List (k.den × v.den)} {es : List MapEntry} {fs : List Frag}, Ent3 m ρ k v hs x es fs → kx ∉ x.map (·.1) → Ent3 m ρ k v hs' (mset x kx y) (es ++ [e']) (fs ++ [g']) := by
  intro x
  induction x with
  | nil => intro es fs h _; cases es with
    | nil => cases fs with
      | nil => exact ⟨hf, trivial⟩
      | cons => exact h.elim
    | cons => exact h.elim
  | cons p x ih =>
    intro es fs h hn
    cases es with
    | nil => exact h.elim
    | cons e es => cases fs with
      | nil => exact h.elim
      | cons g fs =>
        simp only [List.map_cons, List.mem_cons, not_or] at hn
        simp only [mset, if_neg hn.1, List.cons_append]
        exact ⟨ent_hs (fun n => hh _ _ fun e => hn.1 e.symm) h.1, ih h.2 hn.2⟩
end

/-! what is put in -/
/-- A value over roots of the call's own. -/
def Pk (H : AH) : (v : OT) → v.den → List AV → List Nat → Prop
  | .dat t, x, cs, js => cs = expl t x ∧ t.fit x = true ∧ js = []
  | .pair a b, x, cs, js => ∃ c d j k, cs = c ++ d ∧ js = j ++ k ∧ Pk H a x.1 c j ∧ Pk H b x.2 d k
  | .sl E e, x, cs, js => match e, x with
    | .dat t, x => (∃ j, cs = [.osl j] ∧ H.get j = .sl E t x ∧ js = [j]) ∨ (cs = [.nils] ∧ x = [] ∧ js = [])
    | _, _ => False
  | .mp k e, x, cs, js => match e, x with
    | .dat t, x => ∃ j, cs = [.map j] ∧ H.get j = .map k t x ∧ js = [j]
    | e, x => ∃ j, cs = [.map j] ∧ H.get j = .mpt k e x [] ∧ js = [j]
  | .pt T e, x, cs, js => ∃ j us l, cs = [.ptr j 0] ∧ H.get j = .var T us ∧ js = j :: l ∧ Pk H e x us l
theorem repL_one {m : Mem} {ρ : List Value} {a : AV} {vs : List Value} (h : RepL m ρ [a] vs) : ∃ v, vs = [v] ∧ RepA m ρ a v := by
  cases vs with
  | nil => simp [RepL] at h
  | cons v vs => cases vs with
    | nil => simp only [RepL, and_true] at h; exact ⟨v, rfl, h⟩
    | cons => simp [RepL] at h
theorem or_dat {m : Mem} {k t : Ty} {p : k.den × t.den} {e : MapEntry} (h : RV m t p.2 e.val) : ∃ us : List Value, (if (OT.dat t).aggB then e.val = .agg us.toArray else us = [e.val]) ∧ OR m (.dat t) p.2 us [] := by
  unfold RV at h
  cases ha : (OT.dat t).aggB with
  | true => rw [if_pos (show t.agg = true from ha)] at h; obtain ⟨us, h1, h2⟩ := h; exact ⟨us, by simpa using h1, h2, rfl⟩
  | false => rw [if_neg (show ¬ t.agg = true from by have : t.agg = false := ha; simp [this])] at h; exact ⟨[e.val], by simp, h, rfl⟩
theorem pk_or {H : AH} {m : Mem} {ρ : List Value} {φ : List Frag} (hc : ∀ (j : Nat) (h : Value), ρ[j]? = some h → ORep m ρ (H.get j) h (φ.getD j [])) : ∀ {v : OT} {x : v.den} {cs : List AV} {js : List Nat} {vs : List Value}, Pk H v x cs js → RepL m ρ cs vs → OR m v x vs (js.flatMap fun j => φ.getD j []) := by
  intro v
  induction v with
  | dat t => intro x cs js vs h hr; obtain ⟨rfl, h2, rfl⟩ := h; exact ⟨rc_of_expl h2 hr, rfl⟩
  | pair a b iha ihb =>
    intro x cs js vs h hr
    obtain ⟨c, d, j, l, rfl, rfl, h3, h4⟩ := h
    obtain ⟨us, ws, rfl, h5, h6⟩ := RepL.split hr
    exact ⟨us, ws, _, _, rfl, List.flatMap_append, iha h3 h5, ihb h4 h6⟩
  | sl E e ih =>
    intro x cs js vs h hr
    cases e with
    | dat t =>
      rcases h with ⟨j, rfl, h2, rfl⟩ | ⟨rfl, rfl, rfl⟩
      · obtain ⟨u, rfl, hu⟩ := repL_one hr
        simp only [RepA] at hu
        have ho := hc j u hu.1
        rw [h2] at ho
        simp only [List.flatMap_cons, List.flatMap_nil, List.append_nil]
        obtain ⟨h0, ⟨g1, g2, g3⟩ | ⟨b, c, arr, ws, g1, g2, g3, g4, g5, ⟨us, g6, g7, g8⟩, g9⟩⟩ := ho
        · exact ⟨h0, .inl ⟨g1, by rw [g2], g3⟩⟩
        · refine ⟨h0, .inr ⟨b, c, arr, us, List.replicate x.length [], by rw [g1], by rw [g2]; simp, g3, g4, g5, g6, by simp, by rw [← g7]; exact g9, fun i y u g a1 a2 a3 => ⟨g8 i y u a1 a2, ?_⟩⟩⟩
          exact List.eq_of_mem_replicate (List.mem_of_getElem? a3)
      · obtain ⟨u, rfl, hu⟩ := repL_one hr
        simp only [RepA] at hu
        subst hu
        exact ⟨by simp, .inl ⟨rfl, rfl, rfl⟩⟩
    | sl => exact h.elim
    | mp => exact h.elim
    | pt => exact h.elim
    | pair => exact h.elim
  | mp k e ih =>
    intro x cs js vs h hr
    have hmpt : ∀ (e : OT) (x : List (k.den × e.den)) (j : Nat), H.get j = .mpt k e x [] → RepL m ρ [.map j] vs → OR m (.mp k e) x vs (([j] : List Nat).flatMap fun j => φ.getD j []) := by
      intro e x j h2 hr
      obtain ⟨u, rfl, hu⟩ := repL_one hr
      simp only [RepA] at hu
      have ho := hc j u hu.1
      rw [h2] at ho
      simp only [List.flatMap_cons, List.flatMap_nil, List.append_nil]
      obtain ⟨h0, _, x', hp, b, es, cl, fs, g1, g2, g3, g4, g5, g6⟩ := ho
      refine ⟨x', hp, b, es, cl, fs, by rw [g1], g2, g3, g4, g5, fun i p e' g a1 a2 a3 => ?_⟩
      obtain ⟨c1, c2, c3⟩ := g6 i p e' g a1 a2 a3
      refine ⟨c1.1, [e'.val], ?_, c3 fun n hn => by simp at hn⟩
      cases e <;> simp_all [OT.node, OT.aggB]
    cases e with
    | dat t =>
      obtain ⟨j, rfl, h2, rfl⟩ := h
      obtain ⟨u, rfl, hu⟩ := repL_one hr
      simp only [RepA] at hu
      have ho := hc j u hu.1
      rw [h2] at ho
      simp only [List.flatMap_cons, List.flatMap_nil, List.append_nil]
      obtain ⟨x', hp, b, es, cl, g1, g2, g3, g4, gB, g5⟩ := ho
      refine ⟨x', hp, b, es, cl, List.replicate x'.length [], by rw [g1], by rw [g2]; simp, g3, by simp, ⟨g4, gB⟩, fun i p e g a1 a2 a3 => ?_⟩
      obtain ⟨c1, c2⟩ := g5 i p e a1 a2
      have hg := List.eq_of_mem_replicate (List.mem_of_getElem? a3)
      subst hg
      exact ⟨c1, or_dat c2⟩
    | sl E e => obtain ⟨j, rfl, h2, rfl⟩ := h; exact hmpt _ x j h2 hr
    | mp k' e => obtain ⟨j, rfl, h2, rfl⟩ := h; exact hmpt _ x j h2 hr
    | pt T e => obtain ⟨j, rfl, h2, rfl⟩ := h; exact hmpt _ x j h2 hr
    | pair a b => obtain ⟨j, rfl, h2, rfl⟩ := h; exact hmpt _ x j h2 hr
  | pt T e ih =>
    intro x cs js vs h hr
    obtain ⟨j, us, l, rfl, h2, rfl, h4⟩ := h
    obtain ⟨u, rfl, hu⟩ := repL_one hr
    simp only [RepA] at hu
    obtain ⟨b, hb, rfl⟩ := hu
    have ho := hc j _ hb
    rw [h2] at ho
    obtain ⟨b', ws, g1, g2, g3, g4⟩ := ho
    cases g1
    refine ⟨b, ws, _, rfl, ?_, g4, ih h4 g3⟩
    rw [List.flatMap_cons, g2]; rfl
end Go.Ab
namespace Go.Ab
open Go.RowKit Go.Shelf Go.Proofs Go.Eng

section
variable {P : Program} {N : Ev} {X : Cx} {Q : APost} {st : AS}
variable {d : Nat} {T U T' : TypeId} {pos : String} {aft : Array Edge} {g : Option (Nat × Bool)} {x y z : Operand}

/-- Objects are told anew. -/
theorem Conc.re {fr : Fr} {w w' : World} {m m' : Mem} {ρ : List Value} {φ : List Frag} (hc : Conc X st fr w m ρ φ) (hm : m.le m') {H' : AH} {ρ2 : List Value} {φ1 φ2 : List Frag} (h1 : φ1.length = φ.length) (h2 : φ2.length = ρ2.length) (ho : ∀ (q : Nat) (h : Value) (f : Frag), ρ[q]? = some h → φ1[q]? = some f → ORep m' (ρ ++ ρ2) (H'.get q) h f) (ho2 : ∀ (q : Nat) (h : Value) (f : Frag), ρ2[q]? = some h → φ2[q]? = some f → ORep m' (ρ ++ ρ2) (H'.get (st.n + q)) h f) (hs : SH X.e w' m' (φ1.flatten ++ φ2.flatten ++ X.F)) :
    Conc X ⟨st.l, H', st.n + ρ2.length⟩ fr w' m' (ρ ++ ρ2) (φ1 ++ φ2) := by
  have hpre : ∀ (i : Nat) (h : Value), ρ[i]? = some h → (ρ ++ ρ2)[i]? = some h := fun i h hi => by
    rw [List.getElem?_append_left (List.getElem?_eq_some_iff.1 hi).1]; exact hi
  refine ⟨hc.mle.trans hm, fun i h hi => hpre i h (hc.pre i h hi), by simp [hc.nρ], by simp [h1, h2, hc.nφ], ?_, ?_, ?_⟩
  · intro t a ha
    obtain ⟨u, q1, q2⟩ := hc.slots t a ha
    exact ⟨u, q1, RepA.mono hm hpre a q2⟩
  · intro i h f hi hf
    rcases Nat.lt_or_ge i ρ.length with hl | hl
    · rw [List.getElem?_append_left hl] at hi
      rw [List.getElem?_append_left (by rw [h1, hc.nφ, ← hc.nρ]; exact hl)] at hf
      exact ho i h f hi hf
    · rw [List.getElem?_append_right hl] at hi
      rw [List.getElem?_append_right (by rw [h1, hc.nφ, ← hc.nρ]; exact hl)] at hf
      rw [show φ1.length = ρ.length by rw [h1, hc.nφ, hc.nρ]] at hf
      have := ho2 (i - ρ.length) h f hi hf
      rw [show st.n + (i - ρ.length) = i by rw [← hc.nρ]; omega] at this
      exact this
  · rw [List.flatten_append]; exact hs

def killF : List Frag → List Nat → List Frag
  | φ, [] => φ
  | φ, j :: js => killF (φ.set j []) js
def killH (js : List Nat) (H : AH) : AH := js.foldr (fun j H => (j, .dead) :: H) H
theorem killH_get {H : AH} : ∀ {js : List Nat} {q : Nat}, (killH js H).get q = if q ∈ js then .dead else H.get q := by
  intro js
  induction js with
  | nil => intro q; simp [killH]
  | cons j js ih =>
    intro q
    have : killH (j :: js) H = (j, .dead) :: killH js H := rfl
    rw [this, AH.get_cons, ih]
    by_cases h : j = q
    · simp [h]
    · have h' : ¬ q = j := fun e => h e.symm
      simp [h, h']
theorem killF_len : ∀ {js : List Nat} {φ : List Frag}, (killF φ js).length = φ.length := by
  intro js
  induction js with
  | nil => intro φ; rfl
  | cons j js ih => intro φ; simp [killF, ih]
theorem killF_get : ∀ {js : List Nat} {φ : List Frag} {q : Nat} {f : Frag}, (killF φ js)[q]? = some f → (q ∈ js ∧ f = []) ∨ (q ∉ js ∧ φ[q]? = some f) := by
  intro js
  induction js with
  | nil => intro φ q f h; exact .inr ⟨by simp, h⟩
  | cons j js ih =>
    intro φ q f h
    rcases ih h with ⟨h1, h2⟩ | ⟨h1, h2⟩
    · exact .inl ⟨by simp [h1], h2⟩
    · by_cases e : j = q
      · subst e
        have hl := (List.getElem?_eq_some_iff.1 h2).1
        rw [List.getElem?_set_self (by simpa using hl)] at h2
        cases h2; exact .inl ⟨by simp, rfl⟩
      · rw [List.getElem?_set_ne e] at h2
        exact .inr ⟨by simp [h1]; exact fun h => e h.symm, h2⟩
theorem killF_perm : ∀ {js : List Nat} {φ : List Frag}, js.Nodup → (∀ j ∈ js, j < φ.length) → φ.flatten.Perm ((js.flatMap fun j => φ.getD j []) ++ (killF φ js).flatten) := by
  intro js
  induction js with
  | nil => intro φ _ _; simp [killF]
  | cons j js ih =>
    intro φ hnd hl
    rw [List.nodup_cons] at hnd
    have hj := hl j (by simp)
    have hg : φ[j]? = some (φ.getD j []) := by rw [List.getD_eq_getElem?_getD, List.getElem?_eq_getElem hj]; rfl
    have h1 := frag_split hg []
    have h2 := ih (φ := φ.set j []) hnd.2 (fun q hq => by simpa using hl q (by simp [hq]))
    have h3 : (js.flatMap fun q => (φ.set j []).getD q []) = js.flatMap fun q => φ.getD q [] := by
      rw [List.flatMap_def, List.flatMap_def]
      congr 1
      apply List.map_congr_left
      intro q hq
      rw [List.getD_eq_getElem?_getD, List.getD_eq_getElem?_getD, List.getElem?_set_ne (fun e : j = q => hnd.1 (by rw [e]; exact hq))]
    rw [h3] at h2
    refine h1.1.trans ?_
    rw [List.flatMap_cons, List.append_assoc]
    refine List.Perm.append_left _ ?_
    have h4 := h1.2
    rw [List.nil_append] at h4
    exact h4.symm.trans h2

theorem or_one {m : Mem} {v : OT} {y : v.den} {u : Value} {f : Frag} (hn : v.node = true) (h : OR m v y [u] f) : u.oneCell' = true := by
  cases v with
  | dat => simp [OT.node] at hn
  | pair => simp [OT.node] at hn
  | sl E e =>
    obtain ⟨_, ⟨_, h1, _⟩ | ⟨b, c, _, _, _, h1, _⟩⟩ := h
    · cases h1; rfl
    · cases h1; rfl
  | mp k v => obtain ⟨_, _, b, _, _, _, h1, _⟩ := h; cases h1; rfl
  | pt T e => obtain ⟨b, _, _, h1, _⟩ := h; cases h1; rfl

theorem own_mpt {fr : Fr} {w : World} {m : Mem} {ρ : List Value} {φ : List Frag} (hc : Conc X st fr w m ρ φ) {i : Nat} {k : Ty} {v : OT} {xs : List (k.den × v.den)} {hs : List (k.den × Nat)} {u : Value} (hv : RepA m ρ (.map i) u) (hH : st.H.get i = .mpt k v xs hs) :
    v.node = true ∧ (∀ q ∈ hs, HoleOk ρ (xs.map (·.1)) q) ∧ ∃ xs', xs'.Perm xs ∧ ∃ b es cl fs, u = .map (some b) ∧ ρ[i]? = some (.map (some b)) ∧ φ[i]? = some ((b, .map es cl) :: fs.flatten) ∧ w.heap[b]? = some (.map es cl) ∧ Ent3 m ρ k v hs xs' es.toList fs ∧ ((xs'.map (·.1)).Nodup ∧ Births es cl) := by
  simp only [RepA] at hv
  obtain ⟨f, hf, ho, hw⟩ := hc.obj hv.1
  rw [hH] at ho
  obtain ⟨h0, h00, xs', hp, b, es, cl, fs, rfl, rfl, h1, h2, h3, h4⟩ := ho
  exact ⟨h0, h00, xs', hp, b, es, cl, fs, rfl, hv.1, hf, hw (b, _) (by simp), ent3_of h1 h2 h4, h3⟩

theorem run_lookup3 {w : World} {m : Mem} {ρ : List Value} {k : Ty} {v : OT} [DecidableEq k.den] {xs : List (k.den × v.den)} {hs : List (k.den × Nat)} {kx : k.den} {kT eT b cl : Nat} {es : Array MapEntry} {fs : List Frag} {kv zv : Value} {ok : Bool} (hU : Und P T (.map kT eT)) (hK : KeyT P kT k) (hZ : Eng.Zero P eT zv) (hw : w.heap[b]? = some (.map es cl)) (he : Ent3 m ρ k v hs xs es.toList fs) (hk : RV m k kx kv) :
    ∃ u, (Instr.lookup T (.map (some b)) kv ok).run P w = .ok (if ok then .tuple #[u, .bool (mget xs kx).isSome] else u) w ∧ ((mget xs kx = none ∧ u = zv) ∨ ∃ (i : Nat) (y : v.den) (e : MapEntry) (g : Frag), mget xs kx = some y ∧ xs[i]? = some (kx, y) ∧ e.val = u ∧ EntT m ρ k v hs (kx, y) e g) := by
  obtain ⟨r, h1, h2⟩ := find3 hK (w := w) he hk
  have h3 := hK.chk m kx kv es.isEmpty w hk
  cases r with
  | none =>
    have hn := mget_none_iff.2 h2
    refine ⟨zv, ?_, .inl ⟨hn, rfl⟩⟩
    rw [hn]
    simp only [Instr.lookup, Sem.run_bind, run_underlying hU, Result.andThen_ok, run_getObj hw, h3, h1, hZ w, Sem.run_pure]
    cases ok <;> simp
  | some q =>
    obtain ⟨q, u⟩ := q
    obtain ⟨y, e, g, g1, g2, g3, g4, g5, g6⟩ := h2
    have hy := mget_first g1 g6
    refine ⟨u, ?_, .inr ⟨q, y, e, g, hy, g1, g4, g5⟩⟩
    rw [hy]
    simp only [Instr.lookup, Sem.run_bind, run_underlying hU, Result.andThen_ok, run_getObj hw, h3, h1, Sem.run_pure]
    cases ok <;> simp

/-- An entry that is taken out: a pointer, or a map. -/
theorem av_look_own {i n kT eT : Nat} {k : Ty} {v : OT} [DecidableEq k.den] {xs : List (k.den × v.den)} {hs : List (k.den × Nat)} {kx : k.den} {yx : v.den} {zv : Value} {ok : Bool} {av r : AV} (hU : Und P T (.map kT eT)) (hK : KeyT P kT k) (hZ : Eng.Zero P eT zv) (hx : aev st.l x = some (.map i)) (hy : aev st.l y = some (whole k kx)) (hH : st.H.get i = .mpt k v xs hs) (hno : k.noArr = true) (hm : (kx, n) ∈ hs) (hg : mget xs kx = some yx)
    (hav : av = .map n ∨ (∃ T1 cs, av = .ptr n 0 ∧ st.H.get n = .var T1 cs)) (hr : (if ok then .tup [av, .bool true] else av) = r) (hN : Nat.blt d N.n = true := by rfl) :
    AOpV P N X ⟨some d, .lookup T x y ok, U, pos, aft, g⟩ r st :=
  av_of rfl fun Q fr w m ρ φ hc => by
    subst hr
    obtain ⟨v, h1, h2⟩ := hc.ev hx
    obtain ⟨u, h3, h4⟩ := hc.ev hy
    obtain ⟨_, hho, xs', hp, b, es, cl, fs, rfl, _, _, h5, h6, hn', _⟩ := own_mpt hc h2 hH
    obtain ⟨q, h7, h8⟩ := run_lookup3 (ok := ok) hU hK hZ h5 h6 (whole_rv (fit_noArr hno) h4)
    have hq : RepA m ρ av q := by
      rcases h8 with ⟨h9, rfl⟩ | ⟨p, yy, ee, gg, h9, _, rfl, h10⟩
      · rw [mget_perm hp hn', hg] at h9; cases h9
      · have hn := (h10.2.1 n hm).2
        rcases hav with rfl | ⟨T1, cs, rfl, h11⟩
        · simp only [RepA]; exact ⟨hn, h10.1.2⟩
        · obtain ⟨f, _, ho, _⟩ := hc.obj hn
          rw [h11] at ho
          obtain ⟨b', us, h12, _⟩ := ho
          simp only [RepA]
          exact ⟨b', by rw [← h12]; exact hn, h12⟩
    rw [mget_perm hp hn', hg] at h7
    refine ⟨if ok then .tuple #[q, .bool true] else q, ?_, fun K hk => op_val rfl hN (fun ac ha => ?_) hk⟩
    · cases ok
      · simpa using hq
      · simp only [if_true, RepA]; exact ⟨[q, .bool true], rfl, by simp only [RepL]; exact ⟨hq, rep_bool, trivial⟩⟩
    · simp only [execOp, ha.eval h1, ha.eval h3]
      rw [Sem.run_bind, h7]; rfl
/-- An empty map, of what the call owns from now on. -/
theorem wk_mpt {i : Nat} {tk tv : Ty} (v : OT) (hH : st.H.get i = .map tk tv []) (hv : v.node = true) : Wk X st (st.upd i (.mpt tk v [] [])) := by
  intro fr w m ρ φ hc
  by_cases hi : i < st.n
  · obtain ⟨h, hh⟩ : ∃ h, ρ[i]? = some h := ⟨_, List.getElem?_eq_getElem (by rw [hc.nρ]; exact hi)⟩
    obtain ⟨f, hf, ho, _⟩ := hc.obj hh
    rw [hH] at ho
    obtain ⟨x', hp, b, es, cl, rfl, rfl, h1, h2, h3⟩ := ho
    obtain rfl := hp.eq_nil
    have hl : es.toList.length = 0 := by simpa using h1
    exact ⟨m, ρ, _, hc.turn hh hf (f' := [(b, .map es cl)]) (hc.front hf) ⟨hv, fun q hq => by simp at hq, [], List.Perm.refl _, b, es, cl, [], rfl, rfl, by simpa using hl, rfl, ⟨by simp, h3.1⟩, fun i p e g hp => by simp at hp⟩⟩
  · refine ⟨m, ρ, φ, hc.mle, hc.pre, hc.nρ, hc.nφ, hc.slots, ?_, hc.sh⟩
    intro j h f hj hf
    have : j < ρ.length := (List.getElem?_eq_some_iff.1 hj).1
    simp only [AS.upd, AH.get_cons]
    rw [if_neg (by rw [hc.nρ] at this; omega)]
    exact hc.objs j h f hj hf
end
end Go.Ab
namespace Go.Ab
open Go.RowKit Go.Shelf Go.Proofs Go.Eng

/-- No hole but those that stay. -/
def HolesTo {κ : Type} (kx : κ) (hs hs' : List (κ × Nat)) : Prop := (∀ z n, z ≠ kx → ((z, n) ∈ hs ↔ (z, n) ∈ hs')) ∧ ∀ n, (kx, n) ∉ hs'
theorem holes0 {κ : Type} {kx : κ} : HolesTo kx [] [] := ⟨fun z n _ => Iff.rfl, fun n h => by simp at h⟩
theorem holes1 {κ : Type} {kx : κ} {n : Nat} : HolesTo kx [(kx, n)] [] := ⟨fun z n' h => by simp; exact fun e => absurd e h, fun n h => by simp at h⟩

theorem mset_keys_sub {α β : Type} [DecidableEq α] {x : List (α × β)} {k : α} {v : β} {z : α} (h : z ∉ (mset x k v).map (·.1)) : z ∉ x.map (·.1) := by
  rw [mset_keys] at h
  split at h
  · exact h
  · simp only [List.mem_append, not_or] at h; exact h.1

section
variable {P : Program} {N : Ev} {X : Cx} {Q : APost} {st : AS}
variable {d : Nat} {T U T' : TypeId} {pos : String} {aft : Array Edge} {g : Option (Nat × Bool)} {x y z : Operand}

/-- What is known of what is left behind a fall of objects, and a turn of one. -/
theorem Conc.fall {fr : Fr} {w w' : World} {m : Mem} {ρ : List Value} {φ : List Frag} (hc : Conc X st fr w m ρ φ) {i : Nat} {js : List Nat} {h : Value} {f' : Frag} {o : AO} (hnd : (i :: js).Nodup) (hl : ∀ j ∈ js, j < st.n) (hi : ρ[i]? = some h) (ho : ORep m ρ o h f')
    (hs : SH X.e w' m (f' ++ ((killF φ (i :: js)).flatten ++ X.F))) : Conc X ⟨st.l, (i, o) :: killH js st.H, st.n⟩ fr w' m ρ ((killF φ (i :: js)).set i f') := by
  have hil : i < φ.length := by rw [hc.nφ, ← hc.nρ]; exact (List.getElem?_eq_some_iff.1 hi).1
  have h1 := Conc.re hc (Mem.le_refl m) (H' := (i, o) :: killH js st.H) (ρ2 := []) (φ1 := (killF φ (i :: js)).set i f') (φ2 := []) (w' := w') (by simp [killF_len]) rfl ?_ (by intro q h f hq; simp at hq) ?_
  · simpa using h1
  · intro q hq f h2 h3
    rw [List.append_nil]
    rw [AH.get_cons]
    by_cases e : i = q
    · subst e
      rw [if_pos rfl]
      rw [hi] at h2; cases h2
      rw [List.getElem?_set_self (by simpa [killF_len] using hil)] at h3
      cases h3; exact ho
    · rw [if_neg e, killH_get]
      rw [List.getElem?_set_ne e] at h3
      rcases killF_get h3 with ⟨h4, rfl⟩ | ⟨h4, h5⟩
      · have : q ∈ js := by
          rcases List.mem_cons.1 h4 with h6 | h6
          · exact absurd h6.symm e
          · exact h6
        rw [if_pos this]; rfl
      · rw [if_neg (fun h6 => h4 (List.mem_cons.2 (.inr h6)))]
        exact hc.objs q hq f h2 h5
  · rw [List.flatten_nil, List.append_nil]
    refine hs.perm ?_
    rw [← List.append_assoc]
    refine List.Perm.append_right _ ?_
    have hg : (killF φ (i :: js))[i]? = some [] := by
      have : (killF φ (i :: js))[i]? = some ((killF φ (i :: js))[i]'(by simpa [killF_len] using hil)) := List.getElem?_eq_getElem _
      rcases killF_get this with ⟨_, h5⟩ | ⟨h4, _⟩
      · rw [this, h5]
      · exact absurd (List.mem_cons.2 (.inl rfl)) h4
    have h7 := frag_split hg f'
    have h8 := h7.1
    rw [List.nil_append] at h8
    exact (h8.append_left f').trans h7.2.symm

theorem Conc.before {fr : Fr} {w : World} {m : Mem} {ρ : List Value} {φ : List Frag} (hc : Conc X st fr w m ρ φ) {js : List Nat} (hnd : js.Nodup) (hl : ∀ j ∈ js, j < st.n) : SH X.e w m ((js.flatMap fun j => φ.getD j []) ++ ((killF φ js).flatten ++ X.F)) := by
  refine hc.sh.perm ?_
  rw [← List.append_assoc]
  exact (killF_perm hnd (fun j hj => by rw [hc.nφ]; exact hl j hj)).append_right _
theorem Conc.objD {fr : Fr} {w : World} {m : Mem} {ρ : List Value} {φ : List Frag} (hc : Conc X st fr w m ρ φ) : ∀ (j : Nat) (h : Value), ρ[j]? = some h → ORep m ρ (st.H.get j) h (φ.getD j []) := by
  intro j h hj
  obtain ⟨f, hf, ho, _⟩ := hc.obj hj
  rw [List.getD_eq_getElem?_getD, hf]; exact ho

/-- Entries, with what is put in. -/
theorem run_mapUpdate3 {w : World} {m : Mem} {ρ : List Value} {k : Ty} {v : OT} [DecidableEq k.den] {xs : List (k.den × v.den)} {hs hs' : List (k.den × Nat)} {kx : k.den} {yx : v.den} {kT eT b cl : Nat} {es : Array MapEntry} {fs : List Frag} {kv vv : Value} {G : Frag} (hU : Und P T (.map kT eT)) (hK : KeyT P kT k) (hw : w.heap[b]? = some (.map es cl)) (he : Ent3 m ρ k v hs xs es.toList fs) (hnd : (xs.map (·.1)).Nodup) (hk : RV m k kx kv) (hv : v.node = true) (hor : OR m v yx [vv] G) (hh : HolesTo kx hs hs') :
    ∃ es' cl' fs' g0, (Instr.mapUpdate T (.map (some b)) kv vv).run P w = .ok () { w with heap := w.heap.setIfInBounds b (.map es' cl') } ∧ Ent3 m ρ k v hs' (mset xs kx yx) es'.toList fs' ∧ (fs.flatten ++ G).Perm (g0 ++ fs'.flatten) ∧ (Births es cl → Births es' cl') := by
  obtain ⟨r, h1, h2⟩ := find3 hK (w := w) he hk
  have h3 := hK.chk m kx kv false w hk
  have hset : ∀ o, (setObj b o).run P w = .ok () { w with heap := w.heap.setIfInBounds b o } := fun o => by simp [setObj, Sem.run, hw]
  cases r with
  | none =>
    refine ⟨es.push { key := kv, val := vv, born := cl }, cl + 1, fs ++ [G], [], ?_, ?_, ?_⟩
    · simp only [Instr.mapUpdate, Sem.run_bind, run_underlying hU, Result.andThen_ok, run_getObj hw, h3, h1, hset]
    · rw [Array.toList_push]
      exact ent3_push hh.1 ⟨⟨hk, or_one hv hor⟩, fun n hn => absurd hn (hh.2 n), fun _ => hor⟩ he h2
    · exact ⟨by simp, fun h => births_push h kv vv⟩
  | some q =>
    obtain ⟨q, u⟩ := q
    obtain ⟨y0, e, g0, g1, g2, g3, g4, g5, g6⟩ := h2
    have h9 := hK.stays m kx e.key kv w g5.1.1 hk
    have h10 : es[q]? = some e := by simpa using g2
    refine ⟨es.modify q fun e => { e with key := kv, val := vv }, cl, fs.set q G, g0, ?_, ?_, ?_⟩
    · simp only [Instr.mapUpdate, Sem.run_bind, run_underlying hU, Result.andThen_ok, run_getObj hw, h3, h1, h10, Option.map_some, Option.getD_some, h9, hset]
    · rw [Array.toList_modify]
      exact ent3_set hh.1 he hnd (by rw [g1]; rfl) g2 g6 _ ⟨⟨hk, or_one hv hor⟩, fun n hn => absurd hn (hh.2 n), fun _ => hor⟩
    · refine ⟨?_, fun h => births_modify h q _ (fun _ => rfl)⟩
      obtain ⟨p1, p2⟩ := frag_split g3 G
      refine (p1.append_right _).trans ?_
      rw [List.append_assoc]
      refine List.Perm.append_left _ ?_
      exact List.perm_append_comm.trans p2.symm
theorem aop_mptSet {i kT eT : Nat} {k : Ty} {v : OT} [DecidableEq k.den] {xs : List (k.den × v.den)} {hs hs' : List (k.den × Nat)} {kx : k.den} {yx : v.den} {js : List Nat} {av : AV} {o : Oper} {K : AS → Prop} (hU : Und P T (.map kT eT)) (hK : KeyT P kT k) (ho : o.op = .mapUpdate T x y z ∨ o.op = .insert T x y z) (hd : o.dst = none) (hx : aev st.l x = some (.map i)) (hy : aev st.l y = some (whole k kx)) (hz : aev st.l z = some av) (hH : st.H.get i = .mpt k v xs hs) (hno : k.noArr = true) (hP : Pk st.H v yx [av] js) (hj : (nodupB (i :: js) && js.all fun j => Nat.blt j st.n) = true) (hh : HolesTo kx hs hs')
    (k : K ⟨st.l, (i, .mpt k v (mset xs kx yx) hs') :: killH js st.H, st.n⟩) : AOp P N X o K st :=
  aop_of fun Q fr w m ρ φ hc K' hK' => by
    obtain ⟨u, h1, h2⟩ := hc.ev hx
    obtain ⟨kv, h3, h4⟩ := hc.ev hy
    obtain ⟨vv, h5, h6⟩ := hc.ev hz
    simp only [Bool.and_eq_true, List.all_eq_true] at hj
    obtain ⟨hj1, hj2⟩ := hj
    have hnd := nodup_of hj1
    have hl : ∀ j ∈ js, j < st.n := fun j hj => by simpa using hj2 j hj
    obtain ⟨hv, hho, xs', hp, b, es, cl, fs, rfl, hρ, hf, hw, he, hkn, hBi⟩ := own_mpt hc h2 hH
    have hil : i < st.n := by rw [← hc.nρ]; exact (List.getElem?_eq_some_iff.1 hρ).1
    have hor : OR m v yx [vv] (js.flatMap fun j => φ.getD j []) := pk_or hc.objD hP (by simp only [RepL]; exact ⟨h6, trivial⟩)
    obtain ⟨es', cl', fs', g0, hr, he', hpm, hBi'⟩ := run_mapUpdate3 hU hK hw he hkn (whole_rv (fit_noArr hno) h4) hv hor hh
    obtain ⟨hP1, hb'⟩ := put_setObj (o' := .map es' cl') hw
    have hbf := hc.before hnd (by intro j hj; rcases List.mem_cons.1 hj with rfl | hj; exact hil; exact hl j hj)
    rw [List.flatMap_cons, List.getD_eq_getElem?_getD, hf, Option.getD_some, List.cons_append, List.cons_append] at hbf
    have hpt := hbf.put hP1 hb' rfl
    have hsh : SH X.e { w with heap := w.heap.setIfInBounds b (.map es' cl') } m (((b, .map es' cl') :: fs'.flatten) ++ ((killF φ (i :: js)).flatten ++ X.F)) := by
      refine SH.tail (f := g0) (hpt.perm ?_)
      have h7 : (g0 ++ ((b, Obj.map es' cl') :: fs'.flatten)).Perm ((b, Obj.map es' cl') :: (fs.flatten ++ js.flatMap fun j => φ.getD j [])) := by
        refine List.perm_middle.trans (List.Perm.cons _ hpm.symm)
      have h8 := (h7.append_right ((killF φ (i :: js)).flatten ++ X.F)).symm
      simpa [List.append_assoc] using h8
    obtain ⟨l1, l2, l3⟩ := ent3_get he'
    refine op_skip (w' := { w with heap := w.heap.setIfInBounds b (.map es' cl') }) hd (fun ac ha => ?_) ?_ (dk_put hP1 hw rfl) ?_
    · rcases ho with ho | ho <;> simp only [execOp, ho, ha.eval h1, ha.eval h3, ha.eval h5, Sem.run_bind, hr] <;> rfl
    · refine hK' _ _ _ _ _ _ (hc.fall hnd hl hρ (o := .mpt _ v (mset xs kx yx) hs') ⟨hv, fun q hq => ?_, _, mset_perm hp hkn kx yx, b, es', cl', fs', rfl, rfl, by simpa using l1, l2, ⟨mset_nodup _ _ hkn, hBi' hBi⟩, l3⟩ hsh) k
      obtain ⟨z, n⟩ := q
      have hz : z ≠ kx := by rintro rfl; exact hh.2 n hq
      have := hho _ ((hh.1 z n hz).2 hq)
      exact ⟨this.1, fun h => this.2 (mset_keys_sub h)⟩
    · rcases ho with ho | ho <;> simp [nodef, ho]
end
end Go.Ab
namespace Go.Ab
open Go.RowKit Go.Shelf Go.Proofs Go.Eng

/-! what is taken out -/
/-- A part's cells, and the roots that it leads to, from number n on. -/
def opn : (v : OT) → v.den → Nat → List AV × List AO
  | .dat t, x, _ => (expl t x, [])
  | .pair a b, x, n => ((opn a x.1 n).1 ++ (opn b x.2 (n + (opn a x.1 n).2.length)).1, (opn a x.1 n).2 ++ (opn b x.2 (n + (opn a x.1 n).2.length)).2)
  | .sl E e, x, n => match e, x with
    | .dat t, x => ([.osl n], [.sl E t x])
    | _, _ => ([.any], [])
  | .mp k e, x, n => match e, x with
    | .dat t, x => ([.map n], [.map k t x])
    | e, x => if e.node then ([.map n], [.mpt k e x []]) else ([.any], [])
  | .pt T e, x, n => ([.ptr n 0], .var T (opn e x (n + 1)).1 :: (opn e x (n + 1)).2)

/-- Roots, their handles, where they lie. -/
def Roots (m : Mem) (ρ : List Value) : List AO → List Value → List Frag → Prop
  | [], [], [] => True
  | o :: os, h :: hs, g :: gs => ORep m ρ o h g ∧ Roots m ρ os hs gs
  | _, _, _ => False
theorem Roots.mono {m : Mem} {ρ ρ' : List Value} (hρ : ∀ (i : Nat) (h : Value), ρ[i]? = some h → ρ'[i]? = some h) : ∀ {os : List AO} {hs : List Value} {gs : List Frag}, Roots m ρ os hs gs → Roots m ρ' os hs gs := by
  intro os
  induction os with
  | nil => intro hs gs h; cases hs with
    | nil => cases gs with
      | nil => trivial
      | cons => exact h.elim
    | cons => exact h.elim
  | cons o os ih => intro hs gs h; cases hs with
    | nil => exact h.elim
    | cons u hs => cases gs with
      | nil => exact h.elim
      | cons g gs => exact ⟨h.1.mono (Mem.le_refl _) hρ, ih h.2⟩
theorem Roots.app {m : Mem} {ρ : List Value} : ∀ {os os' : List AO} {hs hs' : List Value} {gs gs' : List Frag}, Roots m ρ os hs gs → Roots m ρ os' hs' gs' → Roots m ρ (os ++ os') (hs ++ hs') (gs ++ gs') := by
  intro os
  induction os with
  | nil => intro os' hs hs' gs gs' h k; cases hs with
    | nil => cases gs with
      | nil => exact k
      | cons => exact h.elim
    | cons => exact h.elim
  | cons o os ih => intro os' hs hs' gs gs' h k; cases hs with
    | nil => exact h.elim
    | cons u hs => cases gs with
      | nil => exact h.elim
      | cons g gs => exact ⟨h.1, ih h.2 k⟩
theorem Roots.get {m : Mem} {ρ : List Value} : ∀ {os : List AO} {hs : List Value} {gs : List Frag}, Roots m ρ os hs gs → os.length = hs.length ∧ gs.length = hs.length ∧ ∀ (q : Nat) (h : Value) (f : Frag), hs[q]? = some h → gs[q]? = some f → ∃ o, os[q]? = some o ∧ ORep m ρ o h f := by
  intro os
  induction os with
  | nil => intro hs gs h; cases hs with
    | nil => cases gs with
      | nil => exact ⟨rfl, rfl, fun q h f hq => by simp at hq⟩
      | cons => exact h.elim
    | cons => exact h.elim
  | cons o os ih => intro hs gs h; cases hs with
    | nil => exact h.elim
    | cons u hs => cases gs with
      | nil => exact h.elim
      | cons g gs =>
        obtain ⟨h1, h2, h3⟩ := ih h.2
        refine ⟨by simp [h1], by simp [h2], fun q h' f a b => ?_⟩
        cases q with
        | zero => simp at a b; subst a b; exact ⟨o, rfl, h.1⟩
        | succ q => simpa using h3 q h' f (by simpa using a) (by simpa using b)
theorem pre_apps {ρ hs : List Value} : ∀ (i : Nat) (u : Value), ρ[i]? = some u → (ρ ++ hs)[i]? = some u := by
  intro i u hi
  rw [List.getElem?_append_left (List.getElem?_eq_some_iff.1 hi).1]; exact hi
theorem sl_root {m : Mem} {ρ : List Value} {E : TypeId} {t : Ty} {x : List t.den} {cs : List Value} {f : Frag} (h : OR m (.sl E (.dat t)) x cs f) : ∃ u, cs = [u] ∧ u.oneCell' = true ∧ ORep m ρ (.sl E t x) u f := by
  obtain ⟨h0, ⟨g1, g2, g3⟩ | ⟨b, c, arr, us, fs, g1, g2, g3, g4, g5, g6, g7, g8, g9⟩⟩ := h
  · exact ⟨_, g2, rfl, h0, .inl ⟨g1, rfl, g3⟩⟩
  · have hfs : fs.flatten = [] := by
      rw [List.flatten_eq_nil_iff]
      intro g hg
      obtain ⟨i, hi⟩ := List.getElem?_of_mem hg
      have hl := (List.getElem?_eq_some_iff.1 hi).1
      exact (g9 i _ _ g (List.getElem?_eq_getElem (by omega)) (List.getElem?_eq_getElem (by omega)) hi).2
    refine ⟨_, g1, rfl, h0, .inr ⟨b, c, arr, us.flatten, rfl, by rw [g2, hfs], g3, g4, g5, ⟨us, g6, rfl, fun i y u hy hu => ?_⟩, g8⟩⟩
    have hl := (List.getElem?_eq_some_iff.1 hy).1
    exact (g9 i y u (fs[i]'(by omega)) hy hu (List.getElem?_eq_getElem _)).1
theorem map_root {m : Mem} {ρ : List Value} {k t : Ty} {x : List (k.den × t.den)} {cs : List Value} {f : Frag} (h : OR m (.mp k (.dat t)) x cs f) : ∃ u, cs = [u] ∧ u.oneCell' = true ∧ ORep m ρ (.map k t x) u f := by
  obtain ⟨x', hp, b, es, cl, fs, g1, g2, g3, g4, g5, g6⟩ := h
  have hfs : fs.flatten = [] := by
    rw [List.flatten_eq_nil_iff]
    intro g hg
    obtain ⟨i, hi⟩ := List.getElem?_of_mem hg
    have hl := (List.getElem?_eq_some_iff.1 hi).1
    obtain ⟨_, us, _, h2⟩ := g6 i _ _ g (List.getElem?_eq_getElem (by omega)) (List.getElem?_eq_getElem (by omega)) hi
    exact h2.2
  refine ⟨_, g1, rfl, x', hp, b, es, cl, rfl, by rw [g2, hfs], g3, g5.1, g5.2, fun i p e hp he => ?_⟩
  have hl := (List.getElem?_eq_some_iff.1 hp).1
  obtain ⟨c1, us, c2, c3⟩ := g6 i p e (fs[i]'(by omega)) hp he (List.getElem?_eq_getElem _)
  refine ⟨c1, ?_⟩
  unfold RV
  cases ha : (OT.dat t).aggB with
  | true => rw [if_pos (show t.agg = true from ha)]; simp only [ha, if_true] at c2; exact ⟨us, c2, c3.1⟩
  | false => rw [if_neg (show ¬ t.agg = true from by have : t.agg = false := ha; simp [this])]; simp [ha] at c2; subst c2; exact c3.1
theorem mpt_root {m : Mem} {ρ : List Value} {k : Ty} {e : OT} {x : List (k.den × e.den)} {cs : List Value} {f : Frag} (hn : e.node = true) (h : OR m (.mp k e) x cs f) : ∃ u, cs = [u] ∧ u.oneCell' = true ∧ ORep m ρ (.mpt k e x []) u f := by
  obtain ⟨x', hp, b, es, cl, fs, g1, g2, g3, g4, g5, g6⟩ := h
  refine ⟨_, g1, rfl, hn, fun q hq => by simp at hq, x', hp, b, es, cl, fs, rfl, g2, g3, g4, g5, fun i p e' g a1 a2 a3 => ?_⟩
  obtain ⟨c1, us, c2, c3⟩ := g6 i p e' g a1 a2 a3
  have ha : e.aggB = false := by cases e <;> simp_all [OT.node, OT.aggB]
  simp [ha] at c2
  subst c2
  exact ⟨⟨c1, or_one hn c3⟩, fun n hn => by simp at hn, fun _ => c3⟩
theorem opn_rep {m : Mem} : ∀ {v : OT} {x : v.den} {cs : List Value} {f : Frag} {ρ : List Value}, OR m v x cs f → ∃ hs gs g0, f.Perm (g0 ++ gs.flatten) ∧ RepL m (ρ ++ hs) (opn v x ρ.length).1 cs ∧ Roots m (ρ ++ hs) (opn v x ρ.length).2 hs gs := by
  have one : ∀ {ρ : List Value} {a : AV} {u : Value}, RepA m ρ a u → RepL m ρ [a] [u] := fun h => by simp only [RepL]; exact ⟨h, trivial⟩
  intro v
  induction v with
  | dat t => intro x cs f ρ h; obtain ⟨h1, rfl⟩ := h; exact ⟨[], [], [], by simp, rc_expl h1, trivial⟩
  | pair a b iha ihb =>
    intro x cs f ρ h
    obtain ⟨c, d, g, l, rfl, rfl, h3, h4⟩ := h
    obtain ⟨hs1, gs1, g1, p1, r1, o1⟩ := iha (ρ := ρ) h3
    obtain ⟨hs2, gs2, g2, p2, r2, o2⟩ := ihb (ρ := ρ ++ hs1) h4
    have hl : (ρ ++ hs1).length = ρ.length + (opn a x.1 ρ.length).2.length := by rw [List.length_append, o1.get.1]
    rw [hl] at r2 o2
    rw [List.append_assoc] at r2 o2
    have hpre : ∀ (i : Nat) (u : Value), (ρ ++ hs1)[i]? = some u → (ρ ++ (hs1 ++ hs2))[i]? = some u := by rw [← List.append_assoc]; exact pre_apps
    refine ⟨hs1 ++ hs2, gs1 ++ gs2, g1 ++ g2, ?_, RepL.app (RepL.mono (Mem.le_refl _) hpre _ r1) r2, (o1.mono hpre).app o2⟩
    rw [List.flatten_append]
    refine (p1.append p2).trans ?_
    rw [List.append_assoc, List.append_assoc]
    refine List.Perm.append_left _ ?_
    exact List.perm_append_comm_assoc _ _ _
  | sl E e ih =>
    intro x cs f ρ h
    cases e with
    | dat t =>
      obtain ⟨u, rfl, h1, h2⟩ := sl_root (ρ := ρ ++ [(cs.head?).getD undef]) h
      exact ⟨[u], [f], [], by simp, one (by simp only [RepA]; exact ⟨by simp, h1⟩), by simpa using h2, trivial⟩
    | sl => obtain ⟨u, rfl⟩ : ∃ u, cs = [u] := by { obtain ⟨_, ⟨_, h1, _⟩ | ⟨b, c, _, _, _, h1, _⟩⟩ := h <;> exact ⟨_, h1⟩ }
            exact ⟨[], [], f, by simp, one (by simp only [RepA]), trivial⟩
    | mp => obtain ⟨u, rfl⟩ : ∃ u, cs = [u] := by { obtain ⟨_, ⟨_, h1, _⟩ | ⟨b, c, _, _, _, h1, _⟩⟩ := h <;> exact ⟨_, h1⟩ }
            exact ⟨[], [], f, by simp, one (by simp only [RepA]), trivial⟩
    | pt => obtain ⟨u, rfl⟩ : ∃ u, cs = [u] := by { obtain ⟨_, ⟨_, h1, _⟩ | ⟨b, c, _, _, _, h1, _⟩⟩ := h <;> exact ⟨_, h1⟩ }
            exact ⟨[], [], f, by simp, one (by simp only [RepA]), trivial⟩
    | pair => obtain ⟨u, rfl⟩ : ∃ u, cs = [u] := by { obtain ⟨_, ⟨_, h1, _⟩ | ⟨b, c, _, _, _, h1, _⟩⟩ := h <;> exact ⟨_, h1⟩ }
              exact ⟨[], [], f, by simp, one (by simp only [RepA]), trivial⟩
  | mp k e ih =>
    intro x cs f ρ h
    have key : ∀ (e : OT) (x : List (k.den × e.den)), OR m (.mp k e) x cs f → ∃ hs gs g0, f.Perm (g0 ++ gs.flatten) ∧ RepL m (ρ ++ hs) (if e.node then (([.map ρ.length], [.mpt k e x []]) : List AV × List AO) else ([.any], [])).1 cs ∧ Roots m (ρ ++ hs) (if e.node then (([.map ρ.length], [.mpt k e x []]) : List AV × List AO) else ([.any], [])).2 hs gs := by
      intro e x h
      cases hn : e.node with
      | true =>
        obtain ⟨u, rfl, h1, h2⟩ := mpt_root (ρ := ρ ++ [(cs.head?).getD undef]) hn h
        exact ⟨[u], [f], [], by simp, one (by simp only [RepA]; exact ⟨by simp, h1⟩), by simpa using h2, trivial⟩
      | false =>
        obtain ⟨_, _, b, es, cl, fs, rfl, _⟩ := h
        exact ⟨[], [], f, by simp, one (by simp only [RepA]), trivial⟩
    cases e with
    | dat t =>
      obtain ⟨u, rfl, h1, h2⟩ := map_root (ρ := ρ ++ [(cs.head?).getD undef]) h
      exact ⟨[u], [f], [], by simp, one (by simp only [RepA]; exact ⟨by simp, h1⟩), by simpa using h2, trivial⟩
    | sl E e => exact key _ x h
    | mp k' e => exact key _ x h
    | pt T e => exact key _ x h
    | pair a b => exact key _ x h
  | pt T e ih =>
    intro x cs f ρ h
    obtain ⟨b, us, g, rfl, rfl, h3, h4⟩ := h
    obtain ⟨hs, gs, g0, p1, r1, o1⟩ := ih (ρ := ρ ++ [.pointer (some ⟨b, 0, none⟩)]) h4
    rw [List.length_append, List.length_singleton, List.append_assoc] at r1
    rw [List.length_append, List.length_singleton, List.append_assoc] at o1
    refine ⟨.pointer (some ⟨b, 0, none⟩) :: hs, [(b, .cells us.toArray T (0, 0))] :: gs, g0, ?_, one ?_, ?_⟩
    · rw [List.flatten_cons]
      refine (p1.cons _).trans ?_
      exact List.perm_middle.symm
    · simp only [RepA]; exact ⟨b, by simp, rfl⟩
    · exact ⟨⟨b, us, rfl, rfl, r1, h3⟩, o1⟩
end Go.Ab
namespace Go.Ab
open Go.RowKit Go.Shelf Go.Proofs Go.Eng

theorem mget_at {α β : Type} [DecidableEq α] : ∀ {x : List (α × β)} {z : α} {y : β}, mget x z = some y → ∃ i : Nat, x[i]? = some (z, y) ∧ ∀ j, j < i → (x[j]?).map (·.1) ≠ some z := by
  intro x
  induction x with
  | nil => intro z y h; simp [mget] at h
  | cons p x ih =>
    intro z y h
    simp only [mget] at h
    split at h
    · rename_i hz; cases h; exact ⟨0, by simp [hz], fun j hj => absurd hj (by omega)⟩
    · rename_i hz
      obtain ⟨i, h1, h2⟩ := ih h
      refine ⟨i + 1, by simpa using h1, fun j hj => ?_⟩
      cases j with
      | zero => simp; exact fun e => hz e.symm
      | succ j => simpa using h2 j (by omega)
theorem mset_same {α β : Type} [DecidableEq α] : ∀ {x : List (α × β)} {z : α} {y : β}, mget x z = some y → mset x z y = x := by
  intro x
  induction x with
  | nil => intro z y h; simp [mget] at h
  | cons p x ih =>
    intro z y h
    simp only [mget] at h
    split at h
    · rename_i hz; cases h; simp [mset, hz]
    · rename_i hz; simp [mset, hz, ih h]
theorem opn_head {m : Mem} {ρ : List Value} {v : OT} {x : v.den} {n : Nat} {u : Value} (hv : v.node = true) (hn : (opn v x n).2 ≠ []) (h : RepL m ρ (opn v x n).1 [u]) : ρ[n]? = some u := by
  cases v with
  | dat => simp [OT.node] at hv
  | pair => simp [OT.node] at hv
  | sl E e =>
    cases e with
    | dat t => simp only [opn, RepL, RepA] at h; exact h.1.1
    | _ => simp [opn] at hn
  | mp k e =>
    cases e with
    | dat t => simp only [opn, RepL, RepA] at h; exact h.1.1
    | pair => simp [opn, OT.node] at hn
    | sl => simp only [opn, OT.node, if_true, RepL, RepA] at h; exact h.1.1
    | mp => simp only [opn, OT.node, if_true, RepL, RepA] at h; exact h.1.1
    | pt => simp only [opn, OT.node, if_true, RepL, RepA] at h; exact h.1.1
  | pt T e =>
    simp only [opn, RepL, RepA] at h
    obtain ⟨⟨b, h1, h2⟩, _⟩ := h
    rw [h1, h2]

section
variable {P : Program} {N : Ev} {X : Cx} {Q : APost} {st : AS}

/-- An entry is taken out. -/
theorem wk_open {i : Nat} {k : Ty} {v : OT} [DecidableEq k.den] {xs : List (k.den × v.den)} {hs : List (k.den × Nat)} {kx : k.den} {yx : v.den} (os : List AO) (hi : Nat.blt i st.n = true) (hH : st.H.get i = .mpt k v xs hs) (hg : mget xs kx = some yx) (hn : ∀ n, (kx, n) ∉ hs) (ho : (opn v yx st.n).2 = os) (hne : os.isEmpty = false) :
    Wk X st ⟨st.l, (i, .mpt k v xs ((kx, st.n) :: hs)) :: (zipH st.n os ++ st.H), st.n + os.length⟩ := by
  intro fr w m ρ φ hc
  have hil : i < st.n := by simpa using hi
  obtain ⟨u, hu⟩ : ∃ u, ρ[i]? = some u := ⟨_, List.getElem?_eq_getElem (by rw [hc.nρ]; exact hil)⟩
  obtain ⟨f, hf, hor, hw⟩ := hc.obj hu
  rw [hH] at hor
  obtain ⟨hv, hho, xs', hp, b, es, cl, fs, rfl, rfl, h1, h2, h3, h4⟩ := hor
  have he := ent3_of (m := m) (ρ := ρ) h1 h2 h4
  have hg := (mget_perm hp h3.1 kx).trans hg
  obtain ⟨p, g1, g2⟩ := mget_at hg
  have hpl := (List.getElem?_eq_some_iff.1 g1).1
  have g3 : es.toList[p]? = some (es.toList[p]'(by omega)) := List.getElem?_eq_getElem _
  have g4 : fs[p]? = some (fs[p]'(by omega)) := List.getElem?_eq_getElem _
  have hE := h4 p _ _ _ g1 g3 g4
  have hOR := hE.2.2 hn
  obtain ⟨hds, gs, g0, p1, r1, o1⟩ := opn_rep (ρ := ρ) hOR
  rw [hc.nρ] at r1 o1
  have hne' : (opn v yx st.n).2 ≠ [] := by rw [ho]; intro e; rw [e] at hne; cases hne
  have hhead := opn_head hv hne' r1
  rw [ho] at o1
  obtain ⟨l1, l2, l3⟩ := o1.get
  obtain ⟨p2, p3⟩ := frag_split g4 []
  obtain ⟨q1, q2⟩ := frag_split hf ((b, .map es cl) :: (fs.set p []).flatten)
  have hsh : SH X.e w m ((φ.set i ((b, .map es cl) :: (fs.set p []).flatten)).flatten ++ gs.flatten ++ X.F) := by
    refine SH.tail (f := g0) ((hc.sh.perm ?_))
    rw [← List.append_assoc]
    refine List.Perm.append_right _ ?_
    refine q1.trans ?_
    have a1 : ((b, Obj.map es cl) :: fs.flatten).Perm ((b, Obj.map es cl) :: ((g0 ++ gs.flatten) ++ (fs.set p []).flatten)) := by
      refine List.Perm.cons _ (p2.trans ?_)
      refine (p1.append_right _).trans ?_
      refine List.Perm.append_left _ ?_
      rw [List.nil_append] at p3
      exact p3.symm
    refine (a1.append_right _).trans ?_
    have a2 : (g0 ++ ((φ.set i ((b, .map es cl) :: (fs.set p []).flatten)).flatten ++ gs.flatten)).Perm (g0 ++ ((((b, .map es cl) :: (fs.set p []).flatten) ++ (φ.eraseIdx i).flatten) ++ gs.flatten)) := List.Perm.append_left _ (q2.append_right _)
    refine List.Perm.trans ?_ a2.symm
    simp only [List.cons_append, List.append_assoc]
    refine List.Perm.trans ?_ List.perm_middle.symm
    refine List.Perm.cons _ (List.Perm.append_left _ ?_)
    refine List.perm_append_comm.trans ?_
    rw [List.append_assoc]
  have hre := Conc.re hc (Mem.le_refl m) (H' := (i, .mpt k v xs ((kx, st.n) :: hs)) :: (zipH st.n os ++ st.H)) (ρ2 := hds) (φ1 := φ.set i ((b, .map es cl) :: (fs.set p []).flatten)) (φ2 := gs) (w' := w) (by simp) l2 ?_ ?_ hsh
  · rw [show st.n + os.length = st.n + hds.length by rw [l1]]
    exact ⟨m, _, _, hre⟩
  · intro q h f hq hfq
    rw [AH.get_cons]
    by_cases e : i = q
    · subst e
      rw [if_pos rfl]
      rw [hu] at hq; cases hq
      rw [List.getElem?_set_self (by rw [hc.nφ]; exact hil)] at hfq
      cases hfq
      have hE3 : Ent3 m (ρ ++ hds) k v ((kx, st.n) :: hs) (mset xs' kx yx) (es.toList.modify p fun e => e) (fs.set p []) := by
        refine ent3_set (hs := hs) ?_ (ent3_of h1 h2 fun i p e g a b c => (h4 i p e g a b c).mono (Mem.le_refl _) pre_apps) h3.1 (by rw [g1]; rfl) g3 g2 _ ⟨hE.1, fun n hn' => ⟨rfl, ?_⟩, fun hn' => absurd (List.mem_cons.2 (.inl rfl)) (hn' st.n)⟩
        · intro z n hz
          simp only [List.mem_cons, Prod.mk.injEq]
          exact ⟨fun h => .inr h, fun h => h.resolve_left fun e => hz e.1⟩
        · rcases List.mem_cons.1 hn' with e | e
          · rw [Prod.mk.injEq] at e; rw [e.2]; exact hhead
          · exact absurd e (hn n)
      rw [mset_same hg] at hE3
      have hid : (es.toList.modify p fun e => e) = es.toList := List.modify_id _ _
      rw [hid] at hE3
      obtain ⟨t1, t2, t3⟩ := ent3_get hE3
      refine ⟨hv, fun q hq => ?_, xs', hp, b, es, cl, _, rfl, rfl, t1, t2, h3, t3⟩
      rcases List.mem_cons.1 hq with rfl | hq
      · refine ⟨⟨_, hhead⟩, fun hz => absurd ?_ hz⟩
        exact (hp.map _).mem_iff.1 (List.mem_map.2 ⟨_, List.mem_of_getElem? g1, rfl⟩)
      · exact (hho q hq).tr fun u hu => pre_apps _ _ hu
    · rw [if_neg e]
      rw [List.getElem?_set_ne e] at hfq
      have hqn : q < st.n := by rw [← hc.nρ]; exact (List.getElem?_eq_some_iff.1 hq).1
      have : AH.get (zipH st.n os ++ st.H) q = st.H.get q := by
        have key : ∀ (os : List AO) (n : Nat), q < n → AH.get (zipH n os ++ st.H) q = st.H.get q := by
          intro os
          induction os with
          | nil => intro n _; rfl
          | cons o os ih =>
            intro n hn
            rw [zipH, List.cons_append, AH.get_cons, if_neg (by omega)]
            exact ih (n + 1) (by omega)
        exact key os _ hqn
      rw [this]
      exact (hc.objs q h f hq hfq).mono (Mem.le_refl _) pre_apps
  · intro q h f hq hfq
    obtain ⟨o, ho1, ho2⟩ := l3 q h f hq hfq
    rw [AH.get_cons, if_neg (by omega)]
    have key : ∀ (os : List AO) (n q : Nat) (o : AO), os[q]? = some o → AH.get (zipH n os ++ st.H) (n + q) = o := by
      intro os
      induction os with
      | nil => intro n q o h; simp at h
      | cons a os ih =>
        intro n q o h
        rw [zipH, List.cons_append, AH.get_cons]
        cases q with
        | zero => simp at h; subst h; simp
        | succ q =>
          rw [if_neg (by omega)]
          have := ih (n + 1) q o (by simpa using h)
          rw [show n + (q + 1) = n + 1 + q by omega]; exact this
    rw [key os _ _ _ ho1]; exact ho2
end
end Go.Ab
namespace Go.Ab
open Go.RowKit Go.Shelf Go.Proofs Go.Eng

/-! regions whose order is drawn, in which values are read ahead of a turn or behind it -/
section
variable {P : Program} {N : Ev} {Q : Post} {l : Fr} {w : World}

theorem count_set {listed : Array Bool} {i fuel : Nat} (hun : listed[i]? = some false) (hf : (listed.toList.filter (! ·)).length ≤ fuel + 1) : ((listed.setIfInBounds i true).toList.filter (! ·)).length ≤ fuel := by
  have hlt := (Array.getElem?_eq_some_iff.1 hun).1
  have hlt' : i < listed.toList.length := by simpa using hlt
  have e1 : (listed.setIfInBounds i true).toList = listed.toList.set i true := by simp
  rw [e1]
  have e2 : listed.toList = listed.toList.take i ++ false :: listed.toList.drop (i + 1) := by
    have hg : listed.toList[i] = false := by
      have := hun
      rw [Array.getElem?_eq_getElem hlt] at this
      simpa using this
    rw [← hg, ← List.drop_eq_getElem_cons hlt']; simp
  have e3 : listed.toList.set i true = listed.toList.take i ++ true :: listed.toList.drop (i + 1) := by
    rw [List.set_eq_take_append_cons_drop, if_pos hlt']
  rw [e3]
  rw [e2] at hf
  simp only [List.filter_append, List.length_append, List.filter_cons, Bool.not_false, Bool.not_true, if_true, List.length_cons] at hf ⊢
  simp at hf ⊢
  omega

end
end Go.Ab
namespace Go.Ab
open Go.RowKit Go.Shelf Go.Proofs Go.Eng

section
variable {P : Program} {N : Ev} {Q : Post} {l : Fr} {w : World}
end
end Go.Ab
namespace Go.Ab
open Go.RowKit Go.Shelf Go.Proofs Go.Eng

section
variable {P : Program} {N : Ev} {X : Cx} {Q : APost} {st : AS}

/-- What is owed of the values that are read late, behind the turn. -/
def LateV (P : Program) (N : Ev) (ops : List Oper) (Ts : List TT) (dl : List (List Nat)) (l : AFr) (H : AH) (n : Nat) : List Nat → Prop
  | [] => True
  | j :: r => (∀ X' o, ops[j]? = some o → AOpV P N X' o (ttAt Ts j).2 ⟨depF ops Ts ((dl[j]?).getD []) l, H, n⟩) ∧ LateV P N ops Ts dl l H n r
theorem LateV.at {ops : List Oper} {Ts : List TT} {dl : List (List Nat)} {l : AFr} {H : AH} {n : Nat} : ∀ {fl : List Nat}, LateV P N ops Ts dl l H n fl → ∀ j ∈ fl, ∀ X' o, ops[j]? = some o → AOpV P N X' o (ttAt Ts j).2 ⟨depF ops Ts ((dl[j]?).getD []) l, H, n⟩ := by
  intro fl
  induction fl with
  | nil => intro _ j hj; simp at hj
  | cons a r ih =>
    intro h j hj
    rcases List.mem_cons.1 hj with rfl | hj
    · exact h.1
    · exact ih h.2 j hj

end
end Go.Ab
namespace Go.Ab
open Go.RowKit Go.Shelf Go.Proofs Go.Eng

section
variable {P : Program} {N : Ev} {X : Cx} {Q : APost} {st : AS}
variable {d : Nat} {T U T' : TypeId} {pos : String} {aft : Array Edge} {g : Option (Nat × Bool)} {x y : Operand}
/-! a pointer against nil -/
theorem ptr_equal {E : TypeId} {w : World} (hU : Und P T (.pointer E)) (p q : Option Addr) (hq : q = none) : (Op.equal T (.pointer p) (.pointer q)).run P w = .ok p.isNone w := by
  subst hq
  unfold Op.equal
  rw [show Op.maxDepth = 9999 + 1 from rfl]
  unfold Op.equalIn
  cases p <;> simp [run_underlying hU]
theorem av_ptrnil {E : TypeId} {i o : Nat} (hU : Und P T (.pointer E)) (hx : aev st.l x = some (.ptr i o)) (hy : aev st.l y = some .nilp) (hN : Nat.blt d N.n = true := by rfl) : AOpV P N X ⟨some d, .binOp .eql T x y T', U, pos, aft, g⟩ (.bool false) st :=
  av_of rfl fun Q fr w m ρ φ hc => by
    obtain ⟨v, h1, h2⟩ := hc.ev hx
    obtain ⟨u, h3, h4⟩ := hc.ev hy
    simp only [RepA] at h2 h4
    obtain ⟨b, _, rfl⟩ := h2
    subst h4
    refine ⟨_, rep_bool, fun K hk => op_val rfl hN (fun ac ha => ?_) hk⟩
    have he := ptr_equal (w := w) hU (some ⟨b, o, none⟩) none rfl
    simp [execOp, eqGuard, binOp, ha.eval h1, ha.eval h3, he]
end
end Go.Ab
namespace Go.Ab
open Go.RowKit Go.Shelf Go.Proofs Go.Eng

/-! calls of closures that turn what they hold -/
section
variable {P : Program} {N : Ev} {X : Cx} {Q : APost} {st : AS}
variable {d : Nat} {U : TypeId} {pos : String} {aft : Array Edge} {g : Option (Nat × Bool)}
theorem aop_callOv {f : FuncId} {fx : Operand} {first caps : List AV} {xs : List Operand} {as1 as' rs : List AV} {H1 H' : List AO} {σ : List Nat} {ts : Array TypeId} {K : AS → Prop} {r : AV} (hfx : aev st.l fx = some (.fn f first caps)) (hr : RunsM X.m P f as1 H1 fun q Hq => q = rs ∧ Hq = H') (hf : Enters P f) (hx : xs.map (aev st.l) = as'.map some) (hcv : cvL (renL σ as1) (first ++ as' ++ caps)) (hσ : (nodupB σ && σ.all fun i => Nat.blt i st.n) = true) (hH : σ.map st.H.get = H1.map (AO.ren σ))
    (hrs : tupA (renL (σ ++ fromN st.n (H'.length - σ.length)) rs) = r) (k : K ⟨(d, r) :: st.l, updH 0 (σ ++ fromN st.n (H'.length - σ.length)) (H'.map (AO.ren (σ ++ fromN st.n (H'.length - σ.length)))) st.H, st.n + (H'.length - σ.length)⟩) (hN : Nat.blt d N.n = true := by rfl) :
    AOp P N X ⟨some d, .call ⟨.value fx, xs.toArray, ts⟩, U, pos, aft, g⟩ K st :=
  aop_of fun Q fr w m ρ φ hc K' hK => by
    obtain ⟨vs, h1, h2⟩ := hc.evl hx
    obtain ⟨v, h3, h4⟩ := hc.ev hfx
    simp only [RepA] at h4
    obtain ⟨us, ws, rfl, h5, h6⟩ := h4
    have hσ' := hσ
    rw [Bool.and_eq_true] at hσ'
    refine op_callv (args := (us ++ vs ++ ws).toArray) h3 hf h1 (by simp) (ret_own hr hc hσ hH (cvL_rep hcv ((h5.app h2).app h6))) hN ?_
    rintro v w' ⟨rs', H'', m', ρ1', φ1', ⟨rfl, rfl⟩, g1, g2, g3, g4, g5, us, g6, rfl⟩
    subst hrs
    obtain ⟨ρ', φ', hcc⟩ := conc_call (d := d) (av := tupA (renL (σ ++ fromN st.n (H''.length - σ.length)) rs')) (v := tupleOf us) hc (nodup_of hσ'.1) (fun i hi => by have := hσ'.2; rw [List.all_eq_true] at this; simpa using this i hi) g1 g2 g3 g4 g5 (fun ρ' hb => rep_tup (renL_bwd hb _ g6))
    exact hK _ _ _ _ _ _ hcc k
end
end Go.Ab
namespace Go.Ab
open Go.RowKit Go.Shelf Go.Proofs Go.Eng

/-! maps that are read alone -/
theorem dm_cases {m : Mem} {tk tv : Ty} {x : List (tk.den × tv.den)} {v : Value} (h : RC m (.map tk tv) x [v]) : (x = [] ∧ v = .map none) ∨ ∃ x', x'.Perm x ∧ ∃ b es cl, v = .map (some b) ∧ m b = some (.map es cl) ∧ EntM m tk tv x' es cl := by
  rcases h with ⟨h1, h2⟩ | ⟨x', hp, b, es, cl, h1, h2, h3⟩
  · exact .inl ⟨h1, by simpa using h2⟩
  · exact .inr ⟨x', hp, b, es, cl, by simpa using h1, h2, h3⟩
theorem entM_L {m : Mem} {tk tv : Ty} {x : List (tk.den × tv.den)} {es : Array MapEntry} {cl : Nat} (h : EntM m tk tv x es cl) : EntL m tk tv x es.toList := ent_of h.1 h.2.2.2

section
variable {P : Program} {N : Ev} {X : Cx} {Q : APost} {st : AS}
variable {d : Nat} {T U T' : TypeId} {pos : String} {aft : Array Edge} {g : Option (Nat × Bool)} {x y z : Operand} {k ky : IntKind} {a b : Int}

theorem run_lookupN {w : World} {m : Mem} {tk tv : Ty} [DecidableEq tk.den] {kx : tk.den} {kT eT : Nat} {v : Value} {ok : Bool} (hU : Und P T (.map kT eT)) (hK : KeyT P kT tk) (hZ : ZeroW P eT tv) (hk : RV m tk kx v) :
    ∃ u, RV m tv tv.dflt u ∧ (Instr.lookup T (.map none) v ok).run P w = .ok (if ok then .tuple #[u, .bool false] else u) w := by
  obtain ⟨r, h1, h2⟩ := hK.find m kx v tv [] [] w hk trivial
  have h3 := hK.chk m kx v true w hk
  obtain ⟨zv, h4, h5⟩ := hZ
  cases r with
  | some q => obtain ⟨q, u⟩ := q; obtain ⟨y, h6, _⟩ := h2; simp [mget] at h6
  | none =>
    refine ⟨zv, h5 m, ?_⟩
    simp only [Instr.lookup, Sem.run_bind, run_underlying hU, Result.andThen_ok, Sem.run_pure, Array.isEmpty_empty, h3, h1, h4 w]
theorem dm_lookup {fr : Fr} {w : World} {m : Mem} {ρ : List Value} {φ : List Frag} (hc : Conc X st fr w m ρ φ) {kT eT : Nat} {tk tv : Ty} [DecidableEq tk.den] {xs : List (tk.den × tv.den)} {kx : tk.den} {v u : Value} {ok : Bool} (hU : Und P T (.map kT eT)) (hK : KeyT P kT tk) (hZ : ZeroW P eT tv) (hv : RepA m ρ (.dm tk tv xs) v) (hk : RV m tk kx u) :
    ∃ q, RV m tv ((mget xs kx).getD tv.dflt) q ∧ (Instr.lookup T v u ok).run P w = .ok (if ok then .tuple #[q, .bool (mget xs kx).isSome] else q) w := by
  simp only [RepA] at hv
  rcases dm_cases hv with ⟨rfl, rfl⟩ | ⟨xs', hp, b, es, cl, rfl, h1, h2⟩
  · exact run_lookupN (w := w) hU hK hZ hk
  · rw [← mget_perm hp h2.2.1]; exact run_lookup hU hK hZ (hc.sh.fz _ _ h1) (entM_L h2) hk
theorem av_lookup_dm {kT eT : Nat} {tk tv : Ty} [DecidableEq tk.den] {xs : List (tk.den × tv.den)} {kx : tk.den} {r : AV} (hU : Und P T (.map kT eT)) (hK : KeyT P kT tk) (hZ : ZeroW P eT tv) (hx : aev st.l x = some (.dm tk tv xs)) (hy : aev st.l y = some (whole tk kx)) (hno : tk.noArr = true) (hr : whole tv ((mget xs kx).getD tv.dflt) = r) (hN : Nat.blt d N.n = true := by rfl) :
    AOpV P N X ⟨some d, .lookup T x y false, U, pos, aft, g⟩ r st :=
  av_of rfl fun Q fr w m ρ φ hc => by
    subst hr
    obtain ⟨v, h1, h2⟩ := hc.ev hx
    obtain ⟨u, h3, h4⟩ := hc.ev hy
    obtain ⟨q, h7, h8⟩ := dm_lookup (ok := false) hc hU hK hZ h2 (whole_rv (fit_noArr hno) h4)
    refine ⟨q, rv_whole h7, fun K hk => op_val rfl hN (fun ac ha => ?_) hk⟩
    simp only [execOp, ha.eval h1, ha.eval h3]
    rw [Sem.run_bind, h8]; rfl
theorem av_lookup2_dm {kT eT : Nat} {tk tv : Ty} [DecidableEq tk.den] {xs : List (tk.den × tv.den)} {kx : tk.den} {r : AV} (hU : Und P T (.map kT eT)) (hK : KeyT P kT tk) (hZ : ZeroW P eT tv) (hx : aev st.l x = some (.dm tk tv xs)) (hy : aev st.l y = some (whole tk kx)) (hno : tk.noArr = true) (hr : .tup [whole tv ((mget xs kx).getD tv.dflt), .bool (mget xs kx).isSome] = r) (hN : Nat.blt d N.n = true := by rfl) :
    AOpV P N X ⟨some d, .lookup T x y true, U, pos, aft, g⟩ r st :=
  av_of rfl fun Q fr w m ρ φ hc => by
    subst hr
    obtain ⟨v, h1, h2⟩ := hc.ev hx
    obtain ⟨u, h3, h4⟩ := hc.ev hy
    obtain ⟨q, h7, h8⟩ := dm_lookup (ok := true) hc hU hK hZ h2 (whole_rv (fit_noArr hno) h4)
    refine ⟨.tuple #[q, .bool (mget xs kx).isSome], ?_, fun K hk => op_val rfl hN (fun ac ha => ?_) hk⟩
    · simp only [RepA]; exact ⟨[q, .bool (mget xs kx).isSome], rfl, by simp only [RepL]; exact ⟨rv_whole h7, rep_bool, trivial⟩⟩
    · simp only [execOp, ha.eval h1, ha.eval h3]
      rw [Sem.run_bind, h8]; rfl
/-! loops over maps -/
/-! the next one -/
end

end Go.Ab
namespace Go.Ab
open Go.RowKit Go.Shelf Go.Proofs Go.Eng

/-! functions that may give more than one thing: told by what holds of all of them -/
section
variable {P : Program} {N : Ev} {X : Cx} {Q : APost} {st : AS}
variable {d : Nat} {T U T' : TypeId} {pos : String} {aft : Array Edge} {g : Option (Nat × Bool)} {x y z : Operand}
end
end Go.Ab
namespace Go.Ab
open Go.RowKit Go.Shelf Go.Proofs Go.Eng

/-! tables that lie in the memory that is read alone -/
abbrev Tabs := List (Nat × Array Value)
def TabM (L : Tabs) (m : Mem) : Prop := ∀ p ∈ L, ∃ T fr, m p.1 = some (.cells p.2 T fr)
theorem TabM.mono {L : Tabs} {m m' : Mem} (hm : m.le m') (h : TabM L m) : TabM L m' := fun p hp => let ⟨T, fr, h1⟩ := h p hp; ⟨T, fr, hm _ _ h1⟩
/-! the kit's contracts of functions of whole numbers and texts -/
theorem repL_flat {m : Mem} {ρ : List Value} : ∀ {rs : List AV}, (rs.all flatB) = true → RepL m ρ rs (rs.map flatV) := by
  intro rs
  induction rs with
  | nil => intro _; simp [RepL]
  | cons a rs ih =>
    intro h
    simp only [List.all_cons, Bool.and_eq_true] at h
    simp only [List.map_cons, RepL]
    refine ⟨?_, ih h.2⟩
    cases a <;> simp_all [flatB, flatV, RepA]
theorem runs_flat {P : Program} {f : FuncId} {as' rs : List AV} (ha : (as'.all flatB) = true) (hr : (rs.all flatB) = true)
    (h : ∀ w, Calls P f (as'.map flatV).toArray w fun e w' => e = .returned (tupleOf (rs.map flatV)) ∧ Below w.heap.size w w') : RunsP P f as' rs := by
  intro e w m ρ φ F vs hv ho hs
  rw [flat_repL ha hv]
  refine Calls.mono (h w) ?_
  rintro ex w' ⟨rfl, hb⟩
  exact ⟨_, rfl, ⟨DK.of_below hb, hb.size⟩, rs, [], m, ρ, φ, ⟨rfl, rfl⟩, Mem.le_refl _, fun _ _ h => h, Nat.le_refl _, ho, hs.ext hb, _, repL_flat hr, rfl⟩
end Go.Ab
namespace Go.Ab
open Go.RowKit Go.Shelf Go.Proofs Go.Eng

/-! strings.Builder -/
section
variable {P : Program}
variable {ρ : Ren}
abbrev selfP (b : Nat) : Value := .pointer (some ⟨b, 0, none⟩)
theorem setCell_put {w : World} {b j : Nat} {cs : Array Value} {T : TypeId} {v : Value} (h : w.heap[b]? = some (.cells cs T (0, 0))) : Put w (w.setCell ⟨b, j, none⟩ v) b ∧ (w.setCell ⟨b, j, none⟩ v).heap[b]? = some (.cells (cs.setIfInBounds j v) T (0, 0)) := by
  refine ⟨⟨rfl, rfl, rfl, by simp [World.setCell], fun k hk => Below.heap_setCell _ _ _ _ hk⟩, ?_⟩
  simp only [World.setCell, Array.getElem?_modify, if_true, h, Option.map_some]
  rfl
theorem bld_copy (L : Lays.n240 P ρ) (X : Builder.X72 P ρ) {b : Nat} {w : World} {p buf : Value} (hp : p = .pointer none ∨ p = selfP b) (hbk : w.heap[b]? = some (.cells #[p, buf] (ρ.t 72) (0, 0))) :
    Calls P (ρ.f 240) #[selfP b] w fun e w' => e = .returned (.tuple #[]) ∧ Put w w' b ∧ w'.heap[b]? = some (.cells #[selfP b, buf] (ρ.t 72) (0, 0)) := by
  have c0 : w.cell? ⟨b, 0, none⟩ = some p := by rw [Lib.cell_of_heap hbk]; rfl
  rcases hp with rfl | rfl
  · refine (Any.Builder_copyCheck_fresh L X b w c0 (by simp [World.shape?, hbk]) (Lib.frozen_of_heap hbk 0)).mono ?_
    rintro e w' ⟨rfl, rfl⟩
    obtain ⟨h1, h2⟩ := setCell_put (j := 0) (v := selfP b) hbk
    exact ⟨rfl, h1, h2⟩
  · refine (Any.Builder_copyCheck_used L X b w c0).mono ?_
    rintro e w' ⟨rfl, rfl⟩
    exact ⟨rfl, ⟨rfl, rfl, rfl, rfl, fun _ _ => rfl⟩, hbk⟩
theorem strCells_bstr (s : Str) : Lib.strCells (bstr s) = s.map fun x => Value.int .u8 x.toNat := by simp [Lib.strCells, bstr]
theorem bld_open {m : Mem} {ρ : List Value} {T E : TypeId} {s0 : Str} {h : Value} {f : Frag} {w : World} (ho : ORep m ρ (.bld T E s0) h f) (hw : ∀ p ∈ f, w.heap[p.1]? = some p.2) :
    s0.length ≤ cap47 ∧ ∃ b p buf fb, h = selfP b ∧ (p = .pointer none ∨ p = selfP b) ∧ f = (b, .cells #[p, buf] T (0, 0)) :: fb ∧ w.ownsRow 0 E 1 buf s0.length (Lib.strCells (bstr s0)) ∧ ((buf.ownBlock = none ∧ fb = []) ∨ ∃ b2 o, buf.ownBlock = some b2 ∧ fb = [(b2, o)]) ∧ (∀ q ∈ fb, ctl q.2 = false) := by
  obtain ⟨h0, b, rfl, ⟨rfl, p, hp, rfl⟩ | ⟨b2, c, cs, rfl, h1, h2, h3, h4⟩⟩ := ho
  · exact ⟨h0, b, p, .slice none 0 0, [], rfl, hp, rfl, World.ownsRow_nil w 0 E 1, .inl ⟨rfl, rfl⟩, fun q hq => by cases hq⟩
  · refine ⟨h0, b, _, _, [(b2, .cells cs E (0, 0))], rfl, .inr rfl, rfl, ⟨by rw [strCells_bstr]; simp, .inr ⟨b2, c, cs, rfl, Nat.zero_le _, hw (b2, _) (by simp), h1, h2, by simpa using h3, by rw [strCells_bstr]; simpa using h4⟩⟩, .inr ⟨b2, _, rfl, rfl⟩, fun q hq => by rw [List.mem_singleton.1 hq]; rfl⟩
theorem bld_close {m : Mem} {ρ : List Value} {T E : TypeId} {s0 : Str} {b : Nat} {v' : Value} {f' : Frag} (h0 : s0.length ≤ cap47)
    (h : (v' = .slice none 0 0 ∧ s0.length = 0 ∧ f' = []) ∨ ∃ g cap cur, v' = .slice (some ⟨g, 0, none⟩) s0.length cap ∧ f' = [(g, .cells cur E (0, 0))] ∧ s0.length ≤ cap ∧ cap ≤ maxLen ∧ cur.size = cap * 1 ∧ cur.toList.take (s0.length * 1) = Lib.strCells (bstr s0)) :
    ORep m ρ (.bld T E s0) (selfP b) ((b, .cells #[selfP b, v'] T (0, 0)) :: f') := by
  refine ⟨h0, b, rfl, ?_⟩
  rcases h with ⟨rfl, h1, rfl⟩ | ⟨g, cap, cur, rfl, rfl, h1, h2, h3, h4⟩
  · exact .inl ⟨List.eq_nil_of_length_eq_zero h1, _, .inr rfl, rfl⟩
  · exact .inr ⟨g, cap, cur, rfl, h1, h2, by simpa using h3, by rw [strCells_bstr] at h4; simpa using h4⟩
theorem rep2_ptr {m : Mem} {ρ : List Value} {as' : List AV} {vs : List Value} (hv : RepL m ρ (.ptr 0 0 :: as') vs) : ∃ b us, ρ[0]? = some (selfP b) ∧ vs = selfP b :: us ∧ RepL m ρ as' us := by
  obtain ⟨u, us, rfl, h1, h2⟩ := RepL.one1 hv
  simp only [RepA] at h1
  obtain ⟨b, h3, rfl⟩ := h1
  exact ⟨b, us, h3, rfl, h2⟩
theorem os_one {m : Mem} {ρ : List Value} {o : AO} {φ : List Frag} {h : Value} (ho : OsRep m ρ [o] φ) (hh : ρ[0]? = some h) : ∃ f, φ = [f] ∧ ρ = [h] ∧ ORep m ρ o h f := by
  have h1 : ρ.length = 1 := ho.nρ
  have h2 : φ.length = 1 := ho.nφ
  obtain ⟨f, rfl⟩ := List.length_eq_one_iff.1 h2
  obtain ⟨h', rfl⟩ := List.length_eq_one_iff.1 h1
  simp at hh; subst hh
  exact ⟨f, rfl, rfl, ho.at_ 0 _ _ _ rfl rfl rfl⟩
theorem os_mk {m : Mem} {h : Value} {o : AO} {f : Frag} (ho : ORep m [h] o h f) : OsRep m [h] [o] [f] := ⟨rfl, rfl, fun i o' h' f' a b c => by
  cases i with
  | zero => simp at a b c; subst a b c; exact ho
  | succ i => simp at a⟩
/-- But one block all stand as they stood. -/
structure ButB (g : Nat) (w w' : World) : Prop where
  os : w'.os = w.os
  tape : w'.tape = w.tape
  output : w'.output = w.output
  size : w.heap.size ≤ w'.heap.size
  other : ∀ k, k < w.heap.size → k ≠ g → w'.heap[k]? = w.heap[k]?
theorem butB_freeze {w : World} {g n : Nat} : ButB g w (w.drew.freeze ⟨g, 0, none⟩ n) := by
  unfold World.freeze
  split
  · exact ⟨rfl, rfl, rfl, Nat.le_refl _, fun _ _ _ => rfl⟩
  · exact ⟨rfl, rfl, rfl, by simp, fun k _ hk => by simp only [Array.getElem?_modify]; rw [if_neg (fun e => hk e.symm)]; rfl⟩
theorem ButB.sh {e w w' : World} {m : Mem} {g : Nat} {o : Obj} {r : Frag} (h : ButB g w w') (hs : SH e w m ((g, o) :: r)) : SH e w' m r := by
  have hlt : ∀ x o', w.heap[x]? = some o' → x < w.heap.size := fun x o' hx => (Array.getElem?_eq_some_iff.1 hx).1
  have hnd := hs.nd
  rw [List.map_cons, List.nodup_cons] at hnd
  refine ⟨h.os.trans hs.os, h.tape.trans hs.tape, h.output.trans hs.output, fun x o' hx => ?_, fun p hp => ?_, hnd.2, fun p hp => hs.dis p (List.mem_cons_of_mem _ hp), fun p hp => hs.noctl p (List.mem_cons_of_mem _ hp), hs.mctl, Nat.le_trans hs.esz h.size⟩
  · have h1 := hs.fz x o' hx
    refine (h.other x (hlt _ _ h1) ?_).trans h1
    rintro rfl
    have := hs.dis (x, o) (by simp)
    simp only at this
    rw [hx] at this; cases this
  · have h1 := hs.own p (List.mem_cons_of_mem _ hp)
    refine (h.other p.1 (hlt _ _ h1) ?_).trans h1
    intro he
    exact hnd.1 (List.mem_map.2 ⟨p, hp, he⟩)
theorem ButB.dk {w w' : World} {g : Nat} {o : Obj} (h : ButB g w w') (hg : w.heap[g]? = some o) (hc : ctl o = false) : DK nox w w' ∧ w.heap.size ≤ w'.heap.size := by
  refine ⟨fun k o' hk hc' _ => ?_, h.size⟩
  refine (h.other k (Array.getElem?_eq_some_iff.1 hk).1 ?_).trans hk
  rintro rfl
  rw [hg] at hk; cases hk; rw [hc] at hc'; cases hc'
set_option maxHeartbeats 1000000 in
set_option maxRecDepth 100000 in
theorem bld_str_raw (L : Lays.n169 P ρ) (X : Builder.Extra P ρ) {b g cap : Nat} {w : World} {p : Value} {cur : Array Value} {l : List UInt8} (h0 : l ≠ []) (hbk : w.heap[b]? = some (.cells #[p, .slice (some ⟨g, 0, none⟩) l.length cap] (ρ.t 72) (0, 0))) (hg : w.heap[g]? = some (.cells cur (ρ.t 5) (0, 0))) (hnc : l.length ≤ cap) (hcm : cap ≤ maxLen) (hcs : cur.size = cap) (htake : cur.toList.take l.length = l.map fun x => Value.int .u8 x.toNat) :
    Calls P (ρ.f 169) #[selfP b] w fun e w' => e = .returned (.string ⟨l.toArray⟩) ∧ ButB g w w' := by
  have hl0 : l.length ≠ 0 := by simpa using h0
  have c1 : w.drew.cell? ⟨b, 1, none⟩ = some (.slice (some ⟨g, 0, none⟩) l.length cap) := by
    have : w.drew.heap[b]? = some (.cells #[p, .slice (some ⟨g, 0, none⟩) l.length cap] (ρ.t 72) (0, 0)) := hbk
    rw [Lib.cell_of_heap this]; rfl
  have hSD : (Builtin.unsafeSliceData_ #[(ρ.t 37)] (ρ.t 127) #[.slice (some ⟨g, 0, none⟩) l.length cap]).run P w.drew = .ok (.pointer (some ⟨g, 0, none⟩)) w.drew :=
    Lib.run_unsafeSliceData_row _ _ _ _ _ _ (by omega)
  have hUS : (Builtin.unsafeString_ #[(ρ.t 127), (ρ.t 3)] (ρ.t 9) #[.pointer (some ⟨g, 0, none⟩), .int .i64 l.length]).run P w.drew = .ok (.string ⟨l.toArray⟩) (w.drew.freeze ⟨g, 0, none⟩ l.length) := by
    refine Lib.run_unsafeString_row w.drew (ρ.t 127) (ρ.t 3) (ρ.t 9) (ρ.t 5) L.t127 X.cellsByte g cur.size (by have hg' : w.drew.heap[g]? = some (.cells cur (ρ.t 5) (0, 0)) := hg; simp [World.shape?, hg']) l h0 (by omega) (by unfold maxLen at hcm; omega) ?_
    intro j x hx
    have h3 : (cur.toList.take l.length)[j]? = some (.int .u8 x.toNat) := by rw [htake, List.getElem?_map, hx]; rfl
    rw [List.getElem?_take] at h3
    split at h3
    · rw [add_lit, Nat.zero_add]
      exact cell_blk (w := w.drew) hg (by simpa using h3)
    · cases h3
  have mixed := L.mixed
  have t72 := L.t72; have a72 := L.a72; have z72 := L.z72; have v72 := L.v72; have u72 := run_underlying L.t72
  have t70 := L.t70; have a70 := L.a70; have z70 := L.z70; have v70 := L.v70; have u70 := run_underlying L.t70
  have t37 := L.t37; have a37 := L.a37; have z37 := L.z37; have v37 := L.v37; have u37 := run_underlying L.t37
  have t127 := L.t127; have a127 := L.a127; have z127 := L.z127; have v127 := L.v127; have u127 := run_underlying L.t127
  have t3 := L.t3; have a3 := L.a3; have z3 := L.z3; have v3 := L.v3; have u3 := run_underlying L.t3
  have t9 := L.t9; have a9 := L.a9; have z9 := L.z9; have v9 := L.v9; have u9 := run_underlying L.t9
  have t5 := X.t5; have a5 := X.a5; have z5 := X.z5; have v5 := X.v5; have u5 := run_underlying X.t5
  go_enter L.f169, Body.n169_ntmps ρ
  go_wp2
  go_region_o
  all_goals (go_wp2; go_ret; exact ⟨rfl, butB_freeze⟩)
/-- (*Builder).String: the builder is not used any more. -/
theorem bld_str (L : Lays.n169 P ρ) (X : Builder.Extra P ρ) {s0 : Str} : Runs P (ρ.f 169) [.ptr 0 0] [.bld (ρ.t 72) (ρ.t 5) s0] (fun q H' => q = [.str s0] ∧ H' = [.dead]) := by
  intro e w m ρ' φ F vs hv ho hs
  obtain ⟨b, us, h1, rfl, h2⟩ := rep2_ptr hv
  cases us with
  | cons => simp [RepL] at h2
  | nil =>
    obtain ⟨f, rfl, rfl, hf⟩ := os_one ho h1
    have hs' : SH e w m (f ++ F) := by simpa using hs
    have fin : ∀ w', SH e w' m F → (DK nox w w' ∧ w.heap.size ≤ w'.heap.size) → ∃ v, (Ending.returned (.string (bstr s0))) = .returned v ∧ (DK nox w w' ∧ w.heap.size ≤ w'.heap.size) ∧ ∃ rs H' m' ρ'' φ', (rs = [AV.str s0] ∧ H' = [AO.dead]) ∧ m.le m' ∧ (∀ (i : Nat) (h : Value), [selfP b][i]? = some h → ρ''[i]? = some h) ∧ [AO.bld (ρ.t 72) (ρ.t 5) s0].length ≤ H'.length ∧ OsRep m' ρ'' H' φ' ∧ SH e w' m' (φ'.flatten ++ F) ∧ ∃ us, RepL m' ρ'' rs us ∧ v = tupleOf us := by
      intro w' g1 g2
      refine ⟨_, rfl, g2, _, _, m, [selfP b], [[]], ⟨rfl, rfl⟩, Mem.le_refl _, fun _ _ h => h, Nat.le_refl _, os_mk rfl, by simpa using g1, [.string (bstr s0)], ?_, rfl⟩
      simp only [RepL, RepA]; exact ⟨trivial, trivial⟩
    obtain ⟨h0, b', h5, ⟨rfl, p, hp, rfl⟩ | ⟨b2, c, cs, rfl, a1, a2, a3, a4⟩⟩ := hf
    · cases h5
      have hbk := hs'.own (b, .cells #[p, .slice none 0 0] (ρ.t 72) (0, 0)) (by simp)
      refine Calls.mono (Any.Builder_String_nil L X w.heap.size b p w hbk) ?_
      rintro ex w' ⟨rfl, hB⟩
      exact fin w' ((hs'.ext hB).tail (f := [_])) ⟨DK.of_below hB, hB.size⟩
    · cases h5
      have hbk := hs'.own (b, .cells #[selfP b, .slice (some ⟨b2, 0, none⟩) s0.length c] (ρ.t 72) (0, 0)) (by simp)
      have hg := hs'.own (b2, .cells cs (ρ.t 5) (0, 0)) (by simp)
      simp only at hbk hg
      by_cases hnil : s0 = []
      · subst hnil
        by_cases hc0 : c = 0
        · subst hc0
          refine Calls.mono (Any.Builder_String_noroom L X w.heap.size b b2 (selfP b) cs w (Nat.le_refl _) hbk hg) ?_
          rintro ex w' ⟨rfl, hB⟩
          exact fin w' ((hs'.ext hB).tail (f := [_, _])) ⟨DK.of_below hB, hB.size⟩
        · refine Calls.mono (Any.Builder_String_room L X w.heap.size b b2 c (selfP b) w hc0 hbk) ?_
          rintro ex w' ⟨rfl, hB⟩
          exact fin w' ((hs'.ext hB).tail (f := [_, _])) ⟨DK.of_below hB, hB.size⟩
      · refine Calls.mono (bld_str_raw L X hnil hbk hg a1 a2 a3 a4) ?_
        rintro ex w' ⟨rfl, hB⟩
        have hs2 : SH e w m ((b2, .cells cs (ρ.t 5) (0, 0)) :: ((b, .cells #[selfP b, .slice (some ⟨b2, 0, none⟩) s0.length c] (ρ.t 72) (0, 0)) :: F)) := hs'.perm (List.Perm.swap _ _ _)
        exact fin w' ((hB.sh hs2).tail (f := [_])) (hB.dk hg rfl)
/-- A builder that is made. -/
theorem wk_bld {X : Cx} {st : AS} {i : Nat} {T : TypeId} (E : TypeId) (hH : st.H.get i = .var T [.nilp, .nils]) (hi : Nat.blt i st.n = true) : Wk X st (st.upd i (.bld T E [])) := by
  intro fr w m ρ φ hc
  have hil : i < ρ.length := by rw [hc.nρ]; simpa using hi
  have hρ : ρ[i]? = some (ρ[i]'hil) := List.getElem?_eq_getElem hil
  obtain ⟨f, hf, ho, hw⟩ := hc.obj hρ
  rw [hH] at ho
  obtain ⟨b, us, h1, rfl, h3, h4⟩ := ho
  have hu : us = [.pointer none, .slice none 0 0] := by
    obtain ⟨u, us', rfl, g1, g2⟩ := RepL.one1 h3
    obtain ⟨u2, us2, rfl, g3, g4⟩ := RepL.one1 g2
    simp only [RepA] at g1 g3
    subst g1 g3
    cases us2 with
    | nil => rfl
    | cons => simp [RepL] at g4
  subst hu
  exact ⟨m, ρ, _, hc.turn hρ hf (hc.front hf) ⟨Nat.zero_le _, b, h1, .inl ⟨rfl, _, .inl rfl, rfl⟩⟩⟩
end
end Go.Ab
namespace Go.Ab
open Go.RowKit Go.Shelf Go.Proofs Go.Eng
section
variable {P : Program} {N : Ev} {X : Cx} {Q : APost} {st : AS}
variable {d : Nat} {T U T' : TypeId} {pos : String} {aft : Array Edge} {g : Option (Nat × Bool)} {x y z : Operand} {k ky : IntKind} {a b : Int}

end
end Go.Ab
namespace Go.Ab
open Go.RowKit Go.Shelf Go.Proofs Go.Eng

/-! a row of own slices is taken out, appended to, put back -/
section
variable {P : Program} {N : Ev} {X : Cx} {Q : APost} {st : AS}
variable {d : Nat} {T U T' : TypeId} {pos : String} {aft : Array Edge} {g : Option (Nat × Bool)} {x y : Operand} {k ky : IntKind} {a b : Int}
end
end Go.Ab
namespace Go.Ab
open Go.RowKit Go.Shelf Go.Proofs Go.Eng

/-! arrays of whole numbers -/
section
variable {P : Program} {N : Ev} {X : Cx} {Q : APost} {st : AS}
variable {d : Nat} {T U T' : TypeId} {pos : String} {aft : Array Edge} {g : Option (Nat × Bool)} {x y z : Operand} {k ky : IntKind} {a b : Int}
end
end Go.Ab
namespace Go.Ab
open Go.RowKit Go.Shelf Go.Proofs Go.Eng

/-! arrays of any data -/
section
variable {P : Program} {N : Ev} {X : Cx} {Q : APost} {st : AS}
variable {d : Nat} {T U T' : TypeId} {pos : String} {aft : Array Edge} {g : Option (Nat × Bool)} {x y z : Operand} {k ky : IntKind} {a b : Int}
end
end Go.Ab
namespace Go.Ab
open Go.RowKit Go.Shelf Go.Proofs Go.Eng

/-! regions whose order is drawn, in which a new block is made at any time, and used behind all -/
section
variable {P : Program} {N : Ev} {Q : Post} {l : Fr} {w : World}
end

section
variable {P : Program} {N : Ev} {X : Cx} {Q : APost} {st : AS}
variable {d : Nat} {T U : TypeId} {pos : String} {aft : Array Edge}
end
end Go.Ab
namespace Go.Ab
open Go.RowKit Go.Shelf Go.Proofs Go.Eng

theorem zipH_below : ∀ {os : List AO} {n q : Nat} {H : AH}, q < n → AH.get (zipH n os ++ H) q = H.get q := by
  intro os
  induction os with
  | nil => intro n q H _; rfl
  | cons o os ih =>
    intro n q H hn
    rw [zipH, List.cons_append, AH.get_cons, if_neg (by omega)]
    exact ih (by omega)
theorem zipH_at : ∀ {os : List AO} {n q : Nat} {o : AO} {H : AH}, os[q]? = some o → AH.get (zipH n os ++ H) (n + q) = o := by
  intro os
  induction os with
  | nil => intro n q o H h; simp at h
  | cons a os ih =>
    intro n q o H h
    rw [zipH, List.cons_append, AH.get_cons]
    cases q with
    | zero => simp at h; subst h; simp
    | succ q =>
      rw [if_neg (by omega), show n + (q + 1) = n + 1 + q by omega]
      exact ih (by simpa using h)

/-! trees of what the call owns, in one piece -/
section
variable {P : Program} {N : Ev} {X : Cx} {Q : APost} {st : AS}
/-- A tree is opened. -/
theorem wk_opent {i : Nat} {T : TypeId} {e : OT} {x : e.den} (cs : List AV) (os : List AO) (hi : Nat.blt i st.n = true) (hH : st.H.get i = .tr (.pt T e) (some x)) (h1 : (opn e x st.n).1 = cs) (h2 : (opn e x st.n).2 = os) :
    Wk X st ⟨st.l, (i, .var T cs) :: (zipH st.n os ++ st.H), st.n + os.length⟩ := by
  intro fr w m ρ φ hc
  have hil : i < st.n := by simpa using hi
  obtain ⟨u, hu⟩ : ∃ u, ρ[i]? = some u := ⟨_, List.getElem?_eq_getElem (by rw [hc.nρ]; exact hil)⟩
  obtain ⟨f, hf, hor, hw⟩ := hc.obj hu
  rw [hH] at hor
  obtain ⟨_, ⟨h0, _⟩ | ⟨y, hy, b, us, g, h4, rfl, h5, h6⟩⟩ := hor
  · cases h0
  cases hy
  simp only [List.cons.injEq, and_true] at h4
  subst h4
  obtain ⟨hds, gs, g0, p1, r1, o1⟩ := opn_rep (ρ := ρ) h6
  rw [hc.nρ] at r1 o1
  rw [h1] at r1
  rw [h2] at o1
  obtain ⟨l1, l2, l3⟩ := o1.get
  obtain ⟨q1, q2⟩ := frag_split hf [(b, .cells us.toArray T (0, 0))]
  have hsh : SH X.e w m ((φ.set i [(b, .cells us.toArray T (0, 0))]).flatten ++ gs.flatten ++ X.F) := by
    refine SH.tail (f := g0) (hc.sh.perm ?_)
    rw [← List.append_assoc]
    refine List.Perm.append_right _ ?_
    refine q1.trans ?_
    have a2 : (g0 ++ ((φ.set i [(b, .cells us.toArray T (0, 0))]).flatten ++ gs.flatten)).Perm (g0 ++ (([(b, .cells us.toArray T (0, 0))] ++ (φ.eraseIdx i).flatten) ++ gs.flatten)) := List.Perm.append_left _ (q2.append_right _)
    refine List.Perm.trans ?_ a2.symm
    have a1 : ((b, Obj.cells us.toArray T (0, 0)) :: g).Perm ((b, .cells us.toArray T (0, 0)) :: (g0 ++ gs.flatten)) := List.Perm.cons _ p1
    refine (a1.append_right _).trans ?_
    simp only [List.cons_append, List.append_assoc, List.nil_append]
    refine List.Perm.trans ?_ List.perm_middle.symm
    refine List.Perm.cons _ (List.Perm.append_left _ ?_)
    exact List.perm_append_comm
  have hre := Conc.re hc (Mem.le_refl m) (H' := (i, .var T cs) :: (zipH st.n os ++ st.H)) (ρ2 := hds) (φ1 := φ.set i [(b, .cells us.toArray T (0, 0))]) (φ2 := gs) (w' := w) (by simp) l2 ?_ ?_ hsh
  · rw [show st.n + os.length = st.n + hds.length by rw [l1]]
    exact ⟨m, _, _, hre⟩
  · intro q h f hq hfq
    rw [AH.get_cons]
    by_cases e : i = q
    · subst e
      rw [if_pos rfl]
      rw [hu] at hq; cases hq
      rw [List.getElem?_set_self (by rw [hc.nφ]; exact hil)] at hfq
      cases hfq
      exact ⟨b, us, rfl, rfl, r1, h5⟩
    · rw [if_neg e]
      rw [List.getElem?_set_ne e] at hfq
      have hqn : q < st.n := by rw [← hc.nρ]; exact (List.getElem?_eq_some_iff.1 hq).1
      rw [zipH_below hqn]
      exact (hc.objs q h f hq hfq).mono (Mem.le_refl _) pre_apps
  · intro q h f hq hfq
    obtain ⟨o, ho1, ho2⟩ := l3 q h f hq hfq
    rw [AH.get_cons, if_neg (by omega), zipH_at ho1]; exact ho2
/-- A tree is shut. -/
theorem wk_packt {i : Nat} {T : TypeId} {e : OT} {cs : List AV} {js : List Nat} (x : e.den) (hH : st.H.get i = .var T cs) (hP : Pk st.H e x cs js) (hj : (nodupB (i :: js) && (i :: js).all fun j => Nat.blt j st.n) = true) :
    Wk X st ⟨st.l, (i, .tr (.pt T e) (some x)) :: killH js st.H, st.n⟩ := by
  intro fr w m ρ φ hc
  simp only [Bool.and_eq_true, List.all_eq_true] at hj
  obtain ⟨hj1, hj2⟩ := hj
  have hnd := nodup_of hj1
  have hl : ∀ j ∈ i :: js, j < st.n := fun j hm => by simpa using hj2 j hm
  have hil := hl i (by simp)
  obtain ⟨u, hu⟩ : ∃ u, ρ[i]? = some u := ⟨_, List.getElem?_eq_getElem (by rw [hc.nρ]; exact hil)⟩
  obtain ⟨f, hf, hor, hw⟩ := hc.obj hu
  rw [hH] at hor
  obtain ⟨b, us, rfl, rfl, h3, h4⟩ := hor
  have hO := pk_or (φ := φ) hc.objD hP h3
  refine ⟨m, ρ, _, hc.fall hnd (fun j hm => hl j (List.mem_cons_of_mem _ hm)) hu (f' := (b, .cells us.toArray T (0, 0)) :: (js.flatMap fun j => φ.getD j [])) ⟨rfl, .inr ⟨x, rfl, b, us, _, rfl, rfl, h4, hO⟩⟩ ?_⟩
  have hb := hc.before hnd hl
  rw [List.flatMap_cons] at hb
  rw [show φ.getD i [] = [(b, .cells us.toArray T (0, 0))] by rw [List.getD_eq_getElem?_getD, hf]; rfl] at hb
  exact hb
variable {d : Nat} {T U T' : TypeId} {pos : String} {aft : Array Edge} {g : Option (Nat × Bool)} {x y z : Operand}
/-! pointers against nil -/
theorem av_pnil {op : BinOp} {a : AV} {b : Bool} (ho : op = .eql ∨ op = .neq) {E : TypeId} (hU : Und P T (.pointer E)) (hx : aev st.l x = some a) (hy : aev st.l y = some .nilp)
    (h : ∀ fr w m ρ φ v, Conc X st fr w m ρ φ → RepA m ρ a v → ∃ p : Option Addr, v = .pointer p ∧ p.isNone = b) (hN : Nat.blt d N.n = true := by rfl) :
    AOpV P N X ⟨some d, .binOp op T x y T', U, pos, aft, g⟩ (.bool (match op with | .eql => b | _ => !b)) st :=
  av_of rfl fun Q fr w m ρ φ hc => by
    obtain ⟨vx, h1, h2⟩ := hc.ev hx
    obtain ⟨vy, h3, h4⟩ := hc.ev hy
    obtain ⟨p, rfl, h5⟩ := h _ _ _ _ _ _ hc h2
    simp only [RepA] at h4
    subst h4
    have hU : P.underlying T = some (.pointer (P.pointee T)) := by
      have h9 : P.underlying T = some (.pointer E) := hU
      rw [show P.pointee T = E by simp only [Program.pointee, h9]]; exact h9
    refine ⟨_, rep_bool, fun K hk => op_bin h1 h3 (fun w => ?_) (fun w => ?_) hN hk⟩
    · rcases ho with rfl | rfl <;> simp [eqGuard]
    · rcases ho with rfl | rfl
      · rw [run_eql_pointer_nil w T p hU, h5]
      · rw [run_neq_pointer_nil w T p hU, h5]
theorem rep_rp_ptr {m : Mem} {ρ : List Value} {cs : List AV} {v : Value} (h : RepA m ρ (.rp cs) v) : ∃ p : Option Addr, v = .pointer p ∧ p.isNone = false := by
  simp only [RepA] at h; obtain ⟨b, o, us, rfl, _⟩ := h; exact ⟨_, rfl, rfl⟩
theorem av_eqnil_rp {cs : List AV} {E : TypeId} (hU : Und P T (.pointer E)) (hx : aev st.l x = some (.rp cs)) (hy : aev st.l y = some .nilp) (hN : Nat.blt d N.n = true := by rfl) : AOpV P N X ⟨some d, .binOp .eql T x y T', U, pos, aft, g⟩ (.bool false) st :=
  av_pnil (.inl rfl) hU hx hy (fun fr w m ρ φ v _ h => rep_rp_ptr h) hN
end
end Go.Ab
namespace Go.Ab
open Go.RowKit Go.Shelf Go.Proofs Go.Eng

/-! a key is taken away -/
section
variable {P : Program} {N : Ev} {X : Cx} {Q : APost} {st : AS}
variable {d : Nat} {T U T' : TypeId} {pos : String} {aft : Array Edge} {g : Option (Nat × Bool)} {x y z : Operand}

/-! a loop over a map, in whatever order -/
/-! a pointer that is read through -/
end
end Go.Ab
namespace Go.Ab
open Go.RowKit Go.Shelf Go.Proofs Go.Eng

/-! what tells nothing of the memory that is read alone -/
def Ty.flat : Ty → Bool
  | .int _ => true
  | .bool => true
  | .str => true
  | .unit => true
  | .pair a b => a.flat && b.flat
  | .st a => a.flat
  | .arr _ e => e.flat
  | _ => false
theorem RC.flat {m m' : Mem} : ∀ {t : Ty} {x : t.den} {cs : List Value}, t.flat = true → RC m t x cs → RC m' t x cs := by
  intro t
  induction t with
  | int k => intro x cs _ h; exact h
  | bool => intro x cs _ h; exact h
  | str => intro x cs _ h; exact h
  | unit => intro x cs _ h; exact h
  | pair a b iha ihb => intro x cs hf h; simp only [Ty.flat, Bool.and_eq_true] at hf; obtain ⟨c, d, h1, h2, h3⟩ := h; exact ⟨c, d, h1, iha hf.1 h2, ihb hf.2 h3⟩
  | st a ih => intro x cs hf h; exact ih (x := x) hf h
  | arr n e ih => intro x cs hf h; obtain ⟨h1, us, h2, h3, h4⟩ := h; exact ⟨h1, us, h2, h3, fun i y u hy hu => ih hf (h4 i y u hy hu)⟩
  | slice e => intro x cs hf; simp [Ty.flat] at hf
  | raw z => intro x cs hf; simp [Ty.flat] at hf
  | map k v => intro x cs hf; simp [Ty.flat] at hf
  | ptr t => intro x cs hf; simp [Ty.flat] at hf
theorem RV.flat {m m' : Mem} {t : Ty} {x : t.den} {v : Value} (hf : t.flat = true) (h : RV m t x v) : RV m' t x v := by
  unfold RV at h ⊢
  split
  · rename_i ha; rw [if_pos ha] at h; obtain ⟨cs, h1, h2⟩ := h; exact ⟨cs, h1, h2.flat hf⟩
  · rename_i ha; rw [if_neg ha] at h; exact h.flat hf
def memF1 : AV → Bool
  | .int .. => true
  | .bool .. => true
  | .str .. => true
  | .nils => true
  | .nilp => true
  | .nilf => true
  | .nili => true
  | .nilm => true
  | .osl _ => true
  | .map _ => true
  | .ptr _ _ => true
  | _ => false
def memF : AV → Bool
  | .agg cs => cs.all memF1
  | a => memF1 a
theorem memF1_rep {m m' : Mem} {ρ : List Value} {a : AV} {v : Value} (hf : memF1 a = true) (h : RepA m ρ a v) : RepA m' ρ a v := by
  cases a <;> simp [memF1] at hf <;> simpa only [RepA] using h
theorem memF1_repL {m m' : Mem} {ρ : List Value} : ∀ {as' : List AV} {vs : List Value}, (as'.all memF1) = true → RepL m ρ as' vs → RepL m' ρ as' vs := by
  intro as'
  induction as' with
  | nil => intro vs _ h; cases vs with
    | nil => simp [RepL]
    | cons => simp [RepL] at h
  | cons a as' ih => intro vs hf h; cases vs with
    | nil => simp [RepL] at h
    | cons v vs => simp only [List.all_cons, Bool.and_eq_true] at hf; simp only [RepL] at h ⊢; exact ⟨memF1_rep hf.1 h.1, ih hf.2 h.2⟩
theorem memF_rep {m m' : Mem} {ρ : List Value} {a : AV} {v : Value} (hf : memF a = true) (h : RepA m ρ a v) : RepA m' ρ a v := by
  cases a with
  | agg cs => simp only [memF] at hf; simp only [RepA] at h ⊢; obtain ⟨us, h1, h2, h3⟩ := h; exact ⟨us, h1, memF1_repL hf h2, h3⟩
  | _ => exact memF1_rep hf h
theorem memF_repL {m m' : Mem} {ρ : List Value} : ∀ {as' : List AV} {vs : List Value}, (as'.all memF) = true → RepL m ρ as' vs → RepL m' ρ as' vs := by
  intro as'
  induction as' with
  | nil => intro vs _ h; cases vs with
    | nil => simp [RepL]
    | cons => simp [RepL] at h
  | cons a as' ih => intro vs hf h; cases vs with
    | nil => simp [RepL] at h
    | cons v vs => simp only [List.all_cons, Bool.and_eq_true] at hf; simp only [RepL] at h ⊢; exact ⟨memF_rep hf.1 h.1, ih hf.2 h.2⟩
def flatO : AO → Bool
  | .dead => true
  | .var _ cs => cs.all memF1
  | .sl _ t _ => t.flat
  | .map tk tv _ => tk.flat && tv.flat
  | _ => false
theorem flatO_plain {o : AO} (h : flatO o = true) : o.plain = true := by cases o <;> first | rfl | simp [flatO] at h
theorem ORep.flat {m m' : Mem} {ρ : List Value} {o : AO} {h : Value} {f : Frag} (hf : flatO o = true) (H : ORep m ρ o h f) : ORep m' ρ o h f := by
  cases o with
  | dead => exact H
  | var T cs => obtain ⟨b, us, h1, h2, h3, h4⟩ := H; exact ⟨b, us, h1, h2, memF1_repL hf h3, h4⟩
  | sl T t x =>
    obtain ⟨h0, H | ⟨b, c, cs, vs, h1, h2, h3, h4, h5, ⟨us, h6, h7, h8⟩, h9⟩⟩ := H
    · exact ⟨h0, .inl H⟩
    · exact ⟨h0, .inr ⟨b, c, cs, vs, h1, h2, h3, h4, h5, ⟨us, h6, h7, fun i y u hy hu => (h8 i y u hy hu).flat hf⟩, h9⟩⟩
  | map tk tv x =>
    simp only [flatO, Bool.and_eq_true] at hf
    obtain ⟨x', hp, b, es, cl, h1, h2, h3, h4, h5, h6⟩ := H
    exact ⟨x', hp, b, es, cl, h1, h2, h3, h4, h5, fun i p e a b => ⟨(h6 i p e a b).1.flat hf.1, (h6 i p e a b).2.flat hf.2⟩⟩
  | _ => simp [flatO] at hf
theorem OsRep.flat {m m' : Mem} {ρ : List Value} {H : List AO} {φ : List Frag} (hf : (H.all flatO) = true) (h : OsRep m ρ H φ) : OsRep m' ρ H φ := by
  refine ⟨h.nρ, h.nφ, fun i o u f ho hu hff => ?_⟩
  rw [List.all_eq_true] at hf
  exact (h.at_ i o u f ho hu hff).flat (hf o (List.mem_of_getElem? ho))

/-- What is new stands beside what is owned. -/
theorem SH.join {e w w' : World} {m m' : Mem} {f g : Frag} (h : SH e w m f) (hb : Below w.heap.size w w') (h' : SH e w' m' g) (hm : (allM w []).le m') (hg : ∀ p ∈ g, ctl p.2 = false) : SH e w' m (g ++ f) := by
  have h2 := h.ext hb
  have hle := (le_allM h).trans hm
  refine ⟨h2.os, h2.tape, h2.output, h2.fz, fun p hp => ?_, ?_, fun p hp => ?_, fun p hp => ?_, h2.mctl, h2.esz⟩
  · rcases List.mem_append.1 hp with hp | hp
    · exact h'.own p hp
    · exact h2.own p hp
  · rw [List.map_append, List.nodup_append]
    refine ⟨h'.nd, h2.nd, fun a ha b hbm e => ?_⟩
    subst e
    obtain ⟨p, hp, rfl⟩ := List.mem_map.1 ha
    obtain ⟨q, hq, hqe⟩ := List.mem_map.1 hbm
    have h3 := h'.own p hp
    have h4 := h2.own q hq
    rw [hqe, h3] at h4
    have h5 : p.2 = q.2 := Option.some.inj h4
    have h6 := h.own q hq
    have h7 := hm _ _ (allM_nil h6 (by rw [← h5]; exact hg p hp))
    rw [hqe, h'.dis p hp] at h7
    cases h7
  · rcases List.mem_append.1 hp with hp | hp
    · cases hmm : m p.1 with
      | none => rfl
      | some o => have := hle _ _ hmm; rw [h'.dis p hp] at this; cases this
    · exact h2.dis p hp
  · rcases List.mem_append.1 hp with hp | hp
    · intro hc; rw [hg p hp] at hc; cases hc
    · exact h2.noctl p hp

section
variable {P : Program} {N : Ev} {X : Cx} {Q : APost} {st : AS}
variable {d : Nat} {T U T' : TypeId} {pos : String} {aft : Array Edge} {g : Option (Nat × Bool)} {x y z : Operand}
theorem all_plain {H : List AO} (h : (H.all flatO) = true) : (H.all AO.plain) = true := by
  rw [List.all_eq_true] at h ⊢; exact fun o ho => flatO_plain (h o ho)
/-- A call that is lent what the caller owns, and gives what is its own and new. -/
theorem ret_lent {f : FuncId} {bs rs : List AV} {Hs : List AO} {fr : Fr} {w : World} {m : Mem} {ρ : List Value} {φ : List Frag} {vs : List Value} (hr : RunsM X.m P f bs [] fun q H' => q = rs ∧ H' = Hs) (hc : Conc X st fr w m ρ φ) (hv : RepL (allM w []) [] bs vs) (h1 : (rs.all memF) = true) (h2 : (Hs.all flatO) = true) :
    Ret P f vs.toArray w fun v w' => Below w.heap.size w w' ∧ ∃ ρ' φ', OsRep m ρ' Hs φ' ∧ SH X.e w' m (φ'.flatten ++ (φ.flatten ++ X.F)) ∧ ∃ us, RepL m ρ' rs us ∧ v = tupleOf us := by
  have hsh : SH X.e w (allM w []) [] := ⟨hc.sh.os, hc.sh.tape, hc.sh.output, fun b o hb => (of_allM hb).1, fun p hp => by simp at hp, by simp, fun p hp => by simp at hp, fun p hp => by simp at hp, fun b o hb => (of_allM hb).2, hc.sh.esz⟩
  refine Calls.mono (hr X.e w _ [] [] [] vs (hc.mle.trans (le_allM hc.sh)) hv ⟨rfl, rfl, fun i o h f hi => by simp at hi⟩ (by simpa using hsh)) ?_
  rintro e w' ⟨v, he, hd, rs', H', m', ρ', φ', ⟨rfl, rfl⟩, hm, _, _, ho, hs, us, hu, rfl⟩
  have hb : Below w.heap.size w w' := below_all hsh (SH.tail hs) hm hd.2 hd.1
  have hs' : SH X.e w' m' φ'.flatten := by simpa using hs
  exact ⟨_, he, hd, hb, ρ', φ', ho.flat h2, hc.sh.join hb hs' hm (ho.noctl (all_plain h2)), us, memF_repL h1 hu, rfl⟩
/-- The same, and what it gives is read alone. -/
theorem av_callBF {f : FuncId} {xs : List Operand} {as' bs rs : List AV} {Hs : List AO} {ts : Array TypeId} {r : AV} (hr : RunsM X.m P f bs [] fun q H' => q = rs ∧ H' = Hs) (hf : Enters P f) (hx : xs.map (aev st.l) = as'.map some) (hbs : cvL bs (as'.map (coeA st.H [] 4))) (h1 : (rs.all memF) = true) (h2 : (Hs.all flatO) = true)
    (hrs : tupA (rs.map (coeA (zipH 0 Hs) [] 4)) = r) (hN : Nat.blt d N.n = true := by rfl) :
    AOpV P N X ⟨some d, .call ⟨.value (.func f), xs.toArray, ts⟩, U, pos, aft, g⟩ r st := by
  intro Q fr w m ρ φ hc
  obtain ⟨vs, g1, g2⟩ := hc.evl hx
  subst hrs
  have hret := ret_lent hr hc (cvL_rep hbs (bor_repL hc g2)) h1 h2
  refine op_call hf g1 hret hN ?_
  rintro v w' ⟨hb, ρ', φ', ho, hs, us, hu, rfl⟩
  have hfz := hs.frz
  refine ⟨d, tupleOf us, rfl, rfl, hb, m.add φ'.flatten, Mem.le_add _ _, hfz, rep_tup ?_⟩
  have hnd := hs.nd
  rw [List.map_append, List.nodup_append] at hnd
  have hctl := ho.noctl (all_plain h2)
  have hcoe : ∀ {a : AV} {v : Value}, RepA m ρ' a v → RepA (m.add φ'.flatten) ρ (coeA (zipH 0 Hs) [] 4 a) v := fun h => by
    refine coe_rep (φ := φ) (Mem.le_add _ _) (fun i j h hp => by simp [posN] at hp) (fun i u _ hi => ?_) 4 h
    have hil := (List.getElem?_eq_some_iff.1 hi).1
    have hl1 : i < Hs.length := by rw [← ho.nρ]; exact hil
    have hl2 : i < φ'.length := by rw [ho.nφ]; exact hl1
    have hH : (zipH 0 Hs ++ []).get (0 + i) = Hs[i] := zipH_at (List.getElem?_eq_getElem hl1)
    rw [List.append_nil, Nat.zero_add] at hH
    refine ⟨φ'[i], by rw [hH]; exact ho.at_ i _ _ _ (List.getElem?_eq_getElem hl1) hi (List.getElem?_eq_getElem hl2), fun p hp hpc => ?_⟩
    have hpm : p ∈ φ'.flatten := List.mem_flatten.2 ⟨_, List.getElem_mem hl2, hp⟩
    exact add_get hnd.1 hpm (hs.dis p (List.mem_append.2 (.inl hpm))) hpc
  have hL : ∀ {as' : List AV} {vs : List Value}, RepL m ρ' as' vs → RepL (m.add φ'.flatten) ρ (as'.map (coeA (zipH 0 Hs) [] 4)) vs := by
    intro as'
    induction as' with
    | nil => intro vs h; cases vs with
      | nil => simp [RepL]
      | cons => simp [RepL] at h
    | cons a as' ih => intro vs h; cases vs with
      | nil => simp [RepL] at h
      | cons v vs => simp only [List.map_cons, RepL] at h ⊢; exact ⟨hcoe h.1, ih h.2⟩
  exact hL hu
end
end Go.Ab
namespace Go.Ab
open Go.RowKit Go.Shelf Go.Proofs Go.Eng

/-! regions whose order is drawn, state by state -/
abbrev DrawT := List (List Bool × AS × List Nat)
def boolsB : List Bool → List Bool → Bool
  | [], [] => true
  | true :: r, true :: s => boolsB r s
  | false :: r, false :: s => boolsB r s
  | _, _ => false
theorem boolsB_eq : ∀ {l r : List Bool}, boolsB l r = true → l = r := by
  intro l
  induction l with
  | nil => intro r h; cases r with
    | nil => rfl
    | cons => simp [boolsB] at h
  | cons a l ih => intro r h; cases r with
    | nil => cases a <;> simp [boolsB] at h
    | cons b r => cases a <;> cases b <;> simp only [boolsB] at h <;> first | (rw [ih h]) | cases h
def lookD : DrawT → List Bool → Option AS
  | [], _ => none
  | q :: t, L => bif boolsB q.1 L then some q.2.1 else lookD t L
def readyB (ops : List Oper) (L : List Bool) (i : Nat) : Bool := (match L[i]? with
  | some false => true
  | _ => false) && match ops[i]? with
  | some o => o.after.toList.all fun e => !Region.binds .any e || (match L[e.on]? with
    | some true => true
    | _ => false)
  | none => false
def natsB : List Nat → List Nat → Bool
  | [], [] => true
  | a :: r, b :: s => Nat.beq a b && natsB r s
  | _, _ => false
theorem natsB_eq : ∀ {l r : List Nat}, natsB l r = true → l = r := by
  intro l
  induction l with
  | nil => intro r h; cases r with
    | nil => rfl
    | cons => simp [natsB] at h
  | cons a l ih => intro r h; cases r with
    | nil => simp [natsB] at h
    | cons b r => simp only [natsB, Bool.and_eq_true] at h; rw [Nat.eq_of_beq_eq_true h.1, ih h.2]
def drawTOk (ops : List Oper) (tbl : DrawT) : Bool := tbl.all fun q => Nat.beq q.1.length ops.length && natsB ((List.range ops.length).filter (readyB ops q.1)) q.2.2
def ObD1 (P : Program) (N : Ev) (X : Cx) (ops : List Oper) (tbl : DrawT) (L : List Bool) (s : AS) : List Nat → Prop
  | [] => True
  | i :: r => (∃ o s', ops[i]? = some o ∧ lookD tbl (L.set i true) = some s' ∧ AOp P N X o (fun s1 => Wk X s1 s') s) ∧ ObD1 P N X ops tbl L s r
def ObD (P : Program) (N : Ev) (X : Cx) (ops : List Oper) (tbl : DrawT) : DrawT → Prop
  | [] => True
  | q :: t => ObD1 P N X ops tbl q.1 q.2.1 q.2.2 ∧ ObD P N X ops tbl t
section
variable {P : Program} {N : Ev} {X : Cx} {Q : APost} {st : AS}
theorem ObD1.at {ops : List Oper} {tbl : DrawT} {L : List Bool} {s : AS} : ∀ {r : List Nat}, ObD1 P N X ops tbl L s r → ∀ i ∈ r, ∃ o s', ops[i]? = some o ∧ lookD tbl (L.set i true) = some s' ∧ AOp P N X o (fun s1 => Wk X s1 s') s := by
  intro r
  induction r with
  | nil => intro _ i hi; cases hi
  | cons j r ih => intro h i hi; rcases List.mem_cons.1 hi with rfl | hi
                   · exact h.1
                   · exact ih h.2 i hi
theorem ObD.at {ops : List Oper} {tbl : DrawT} : ∀ {t : DrawT}, ObD P N X ops tbl t → ∀ {L : List Bool} {s : AS}, lookD t L = some s → ∃ r, (L, s, r) ∈ t ∧ ObD1 P N X ops tbl L s r := by
  intro t
  induction t with
  | nil => intro _ L s h; cases h
  | cons q t ih =>
    intro h L s hl
    simp only [lookD] at hl
    cases hb : boolsB q.1 L with
    | true => rw [hb, cond_true] at hl; cases hl; have e := boolsB_eq hb; subst e; exact ⟨q.2.2, List.mem_cons.2 (.inl rfl), h.1⟩
    | false => rw [hb, cond_false] at hl; obtain ⟨r, h1, h2⟩ := ih h.2 hl; exact ⟨r, List.mem_cons_of_mem _ h1, h2⟩
theorem SH.drawn {e w : World} {m : Mem} {f : Frag} (h : SH e w m f) (k : Nat) : SH e { w with drawn := k } m f := ⟨h.os, h.tape, h.output, h.fz, h.own, h.nd, h.dis, h.noctl, h.mctl, h.esz⟩
theorem Conc.drawn {fr : Fr} {w : World} {m : Mem} {ρ : List Value} {φ : List Frag} (h : Conc X st fr w m ρ φ) (k : Nat) : Conc X st fr { w with drawn := k } m ρ φ := ⟨h.mle, h.pre, h.nρ, h.nφ, h.slots, h.objs, h.sh.drawn k⟩
theorem awc_drawS {id : Nat} {ops : List Oper} (hm : P.follows .mixedOrders = true) (tbl : DrawT) (st0 stE : AS) (hw : Wk X st st0) (hok : drawTOk ops tbl = true) (hback : backOk ops = true) (hgu : (ops.all fun o => o.guard.isNone) = true) (h0 : lookD tbl (List.replicate ops.length false) = some st0) (hE : lookD tbl (List.replicate ops.length true) = some stE) (hob : ObD P N X ops tbl tbl) (k : Q .normal stE) : AWC P N X (.region id ops.toArray true) Q st := by
  intro fr w m ρ φ hc a ha hg
  obtain ⟨m, ρ, φ, hc⟩ := hw fr w m ρ φ hc
  refine wpIn_region_any hm ?_
  have hall : ∀ listed : Array Bool, listed.size = ops.length → Region.ready .any ops.toArray listed = [] → listed.toList = List.replicate ops.length true := by
    intro listed hs hr
    have key : ∀ i, i < ops.length → listed[i]? = some true := by
      intro i
      induction i using Nat.strongRecOn with
      | _ i ih =>
        intro hi
        rcases hl : listed[i]? with _ | b
        · simp at hl; omega
        · cases b with
          | true => rfl
          | false =>
            exfalso
            have : i ∈ Region.ready .any ops.toArray listed := by
              simp only [Region.ready, List.mem_filter, List.mem_range, List.size_toArray]
              refine ⟨hi, ?_⟩
              simp only [Array.getD_eq_getD_getElem?, hl, Option.getD_some, Bool.not_false, Bool.true_and]
              have ho0 : ops[i]? = some (ops[i]'hi) := List.getElem?_eq_getElem hi
              have ho : ops.toArray[i]? = some (ops[i]'hi) := by simp
              simp only [ho, Option.map_some, Option.getD_some, Array.all_eq_true']
              intro e he
              by_cases hb : Region.binds .any e = true
              · have hlt := back_of hback i _ ho0 e he hb
                simp only [hb, Bool.not_true, Bool.false_or]
                rw [ih e.on hlt (by omega)]; rfl
              · simp [hb]
            rw [hr] at this
            cases this
    refine List.ext_getElem? fun i => ?_
    rw [Array.getElem?_toList]
    by_cases hi : i < ops.length
    · rw [key i hi, List.getElem?_replicate, if_pos hi]
    · rw [List.getElem?_replicate, if_neg hi]; simp; omega
  have hrow := List.all_eq_true.1 hok
  have main : ∀ (fuel : Nat) (listed : Array Bool) (a : Act) (W : World) (s : AS) (fr : Fr) (m : Mem) (ρ : List Value) (φ : List Frag), lookD tbl listed.toList = some s → Conc X s fr W m ρ φ → Holds N fr a → Eng.Good N a W → listed.size = ops.length → (listed.toList.filter (! ·)).length ≤ fuel →
      wpAnyIn (FW N.ro) 0 P .any ops.toArray (up N (upQ X Q)) fuel listed a W := by
    intro fuel
    have fin : ∀ (listed : Array Bool) (a : Act) (W : World) (s : AS) (fr : Fr) (m : Mem) (ρ : List Value) (φ : List Frag), lookD tbl listed.toList = some s → Conc X s fr W m ρ φ → Holds N fr a → Eng.Good N a W → listed.toList = List.replicate ops.length true → up N (upQ X Q) .normal a W := by
      intro listed a W s fr m ρ φ h1 h2 h3 h4 h5
      rw [h5, hE] at h1
      cases h1
      exact ⟨fr, h3, h4, stE, m, ρ, φ, h2, k⟩
    induction fuel with
    | zero =>
      intro listed a W s fr m ρ φ h1 h2 h3 h4 hs hf
      have hr : Region.ready .any ops.toArray listed = [] := by
        simp only [Region.ready, List.filter_eq_nil_iff, List.mem_range, List.size_toArray]
        intro i hi
        have hfl : listed.toList.filter (! ·) = [] := List.eq_nil_of_length_eq_zero (by omega)
        rw [List.filter_eq_nil_iff] at hfl
        have hlt : i < listed.size := by omega
        have hm := hfl listed[i] (by simp)
        have : listed[i] = true := by simpa using hm
        simp [Array.getD_eq_getD_getElem?, Array.getElem?_eq_getElem hlt, this]
      exact ⟨hr, fin listed a W s fr m ρ φ h1 h2 h3 h4 (hall listed hs hr)⟩
    | succ fuel ih =>
      intro listed a W s fr m ρ φ h1 h2 h3 h4 hs hf
      refine ⟨fun hr => fin listed a W s fr m ρ φ h1 h2 h3 h4 (hall listed hs hr), fun i hi => ?_⟩
      obtain ⟨r, hr1, hr2⟩ := hob.at h1
      have hq := hrow _ hr1
      rw [Bool.and_eq_true] at hq
      have hrl : (List.range ops.length).filter (readyB ops listed.toList) = r := natsB_eq hq.2
      simp only [Region.ready, List.mem_filter, List.mem_range, List.size_toArray] at hi
      obtain ⟨hlt, hi⟩ := hi
      rw [Bool.and_eq_true] at hi
      obtain ⟨hun, hrd⟩ := hi
      have ho : ops[i]? = some (ops[i]'hlt) := List.getElem?_eq_getElem hlt
      have ho' : ops.toArray[i]? = some (ops[i]'hlt) := by simp
      have hun' : listed[i]? = some false := by
        have hlt' : i < listed.size := by omega
        rw [Array.getElem?_eq_getElem hlt']
        simp only [Array.getD_eq_getD_getElem?, Array.getElem?_eq_getElem hlt', Option.getD_some] at hun
        simpa using hun
      have him : i ∈ r := by
        rw [← hrl, List.mem_filter]
        refine ⟨List.mem_range.2 hlt, ?_⟩
        unfold readyB
        rw [Array.getElem?_toList, hun', ho]
        simp only [Bool.true_and, List.all_eq_true]
        intro e he
        rw [ho'] at hrd
        simp only [Option.map_some, Option.getD_some, Array.all_eq_true'] at hrd
        have h6 := hrd e (Array.mem_toList_iff.1 he)
        rw [Bool.or_eq_true] at h6 ⊢
        rcases h6 with h6 | h6
        · exact .inl h6
        · refine .inr ?_
          rw [Array.getElem?_toList]
          rw [Array.getD_eq_getD_getElem?] at h6
          rcases h8 : listed[e.on]? with _ | b
          · rw [h8] at h6; simp at h6
          · rw [h8] at h6; simp at h6; rw [h6]
      obtain ⟨o, s', g1, g2, g3⟩ := hr2.at i him
      rw [ho] at g1
      cases g1
      have hcount := count_set hun' hf
      have hgd : (ops[i]'hlt).guard = none := by
        have := List.all_eq_true.1 hgu _ (List.getElem_mem hlt)
        simpa using this
      unfold wpOpIn
      rw [ho']
      simp only []
      rw [if_pos (by simp [Region.wanted, hgd])]
      refine Oper.wpIn_mono ?_ (g3 (upQ X Q) fr W m ρ φ h2 a h3 h4)
      rintro a' W' ⟨l', hl', hg', s1, m1, ρ1, φ1, hc1, hw1⟩
      obtain ⟨m2, ρ2, φ2, hc2⟩ := hw1 _ _ _ _ _ hc1
      exact ih _ a' W' s' l' m2 ρ2 φ2 (by rw [Array.toList_setIfInBounds]; exact g2) hc2 hl' hg' (by simp [hs]) hcount
  refine main _ _ _ _ st0 fr m ρ φ (by simpa using h0) (hc.drawn _) ha (hg.step rfl (fun _ _ h _ _ => h) (Nat.le_refl _)) (by simp) (by simp)
end
end Go.Ab
namespace Go.Ab
open Go.RowKit Go.Shelf Go.Proofs Go.Eng

section
variable {P : Program} {N : Ev} {X : Cx} {Q : APost} {st : AS}
variable {d : Nat} {T U T' : TypeId} {pos : String} {aft : Array Edge} {g : Option (Nat × Bool)} {x y z : Operand} {k : IntKind} {a : Int}

/-! an element of a short array's value -/
theorem av_index_agg1 {cs : List AV} {u : AV} {n E : Nat} (hU : Und P T (.array n E)) (hT : TyS P E false 1) (hn : Nat.beq cs.length n = true) (hx : aev st.l x = some (.agg cs)) (hy : aev st.l y = some (.int k a)) (h : ix cs a = some u) (hN : Nat.blt d N.n = true := by rfl) : AOpV P N X ⟨some d, .index T x y, U, pos, aft, g⟩ u st :=
  av_of rfl fun Q fr w m ρ φ hc => by
    obtain ⟨h1, h2, h3⟩ := ix_some h
    obtain ⟨p, g1, g2⟩ := hc.ev hx
    simp only [RepA] at g2
    obtain ⟨us, rfl, g3, g4⟩ := g2
    obtain ⟨v, g5, g6⟩ := g3.get h3
    have hn := Nat.eq_of_beq_eq_true hn
    have hlt : a.toNat < us.length := (List.getElem?_eq_some_iff.1 g5).1
    have g7 : us[a.toNat] = v := by rw [List.getElem?_eq_getElem hlt] at g5; exact Option.some.inj g5
    refine ⟨v, g6, fun K hk => op_index g1 (hc.int hy) (fun w => ?_) hN hk⟩
    have h2' : a < (n : Int) := by omega
    simp [Instr.index, asIntOf, run_underlying hU, part, hT.1 w, hT.2 w, h1, h2', List.extract_eq_take_drop, g7, g5]
theorem ix_map {α β : Type} {l : List α} {f : α → β} {i : Int} {e : α} (h : ix l i = some e) : ix (l.map f) i = some (f e) := by
  unfold ix at h ⊢
  split at h
  · rename_i h0; rw [if_pos h0, List.getElem?_map, h]; rfl
  · cases h
/-! append onto nil: of what is owned; told at once -/
end
end Go.Ab
namespace Go.Ab
open Go.RowKit Go.Shelf Go.Proofs Go.Eng
section
variable {P : Program} {N : Ev} {X : Cx} {Q : APost} {st : AS}
variable {d : Nat} {T U T' : TypeId} {pos : String} {aft : Array Edge} {g : Option (Nat × Bool)} {x y z : Operand}
end
end Go.Ab
namespace Go.Ab
open Go.RowKit Go.Shelf Go.Proofs Go.Eng

/-! what was taken out of a map is put back without code; an entry goes -/
theorem pk_rep {H : AH} {m : Mem} {ρ : List Value} {φ : List Frag} (hc : ∀ (j : Nat) (h : Value), ρ[j]? = some h → ORep m ρ (H.get j) h (φ.getD j [])) {v : OT} (hv : v.node = true) {x : v.den} {av : AV} {js : List Nat} {n : Nat} {u : Value} (h : Pk H v x [av] js) (hn : js.head? = some n) (hu : ρ[n]? = some u) (h1 : u.oneCell' = true) : RepA m ρ av u := by
  cases v with
  | dat t => simp [OT.node] at hv
  | pair a b => simp [OT.node] at hv
  | sl E e =>
    cases e with
    | dat t =>
      rcases h with ⟨j, h2, h3, rfl⟩ | ⟨_, _, rfl⟩
      · cases h2; simp at hn; subst hn; simp only [RepA]; exact ⟨hu, h1⟩
      · simp at hn
    | sl => exact h.elim
    | mp => exact h.elim
    | pt => exact h.elim
    | pair => exact h.elim
  | mp k e =>
    have key : ∀ j : Nat, [av] = [.map j] → js = [j] → RepA m ρ av u := by
      intro j h2 h3
      cases h2; subst h3; simp at hn; subst hn; simp only [RepA]; exact ⟨hu, h1⟩
    cases e with
    | dat t => obtain ⟨j, h2, _, h3⟩ := h; exact key j h2 h3
    | sl => obtain ⟨j, h2, _, h3⟩ := h; exact key j h2 h3
    | mp => obtain ⟨j, h2, _, h3⟩ := h; exact key j h2 h3
    | pt => obtain ⟨j, h2, _, h3⟩ := h; exact key j h2 h3
    | pair => obtain ⟨j, h2, _, h3⟩ := h; exact key j h2 h3
  | pt T e =>
    obtain ⟨j, us, l, h2, h3, rfl, _⟩ := h
    cases h2; simp at hn; subst hn
    have ho := hc _ _ hu
    rw [h3] at ho
    obtain ⟨b, us', h4, _⟩ := ho
    simp only [RepA]; exact ⟨b, by rw [← h4]; exact hu, h4⟩

section
variable {P : Program} {N : Ev} {X : Cx} {Q : APost} {st : AS}
variable {d : Nat} {T U T' : TypeId} {pos : String} {aft : Array Edge} {g : Option (Nat × Bool)} {x y z : Operand}

/-- What was taken out is put back. -/
theorem wk_close {i n : Nat} {k : Ty} {v : OT} [DecidableEq k.den] {xs : List (k.den × v.den)} {hs hs' : List (k.den × Nat)} {kx : k.den} (y0 yx : v.den) {js : List Nat} {av : AV} (hH : st.H.get i = .mpt k v xs hs) (hm : (kx, n) ∈ hs) (hg : mget xs kx = some y0) (hP : Pk st.H v yx [av] js) (hd : js.head? = some n)
    (hj : (nodupB (i :: js) && (i :: js).all fun j => Nat.blt j st.n) = true) (hh : HolesTo kx hs hs') : Wk X st ⟨st.l, (i, .mpt k v (mset xs kx yx) hs') :: killH js st.H, st.n⟩ := by
  intro fr w m ρ φ hc
  simp only [Bool.and_eq_true, List.all_eq_true] at hj
  obtain ⟨hj1, hj2⟩ := hj
  have hnd := nodup_of hj1
  have hl : ∀ j ∈ i :: js, j < st.n := fun j hj => by simpa using hj2 j hj
  have hil : i < st.n := hl i (by simp)
  obtain ⟨u, hu⟩ : ∃ u, ρ[i]? = some u := ⟨_, List.getElem?_eq_getElem (by rw [hc.nρ]; exact hil)⟩
  obtain ⟨f, hf, hor0, hw⟩ := hc.obj hu
  rw [hH] at hor0
  obtain ⟨hv, hho, xs', hp, b, es, cl, fs, rfl, rfl, h1, h2, h3, h4⟩ := hor0
  have he := ent3_of (m := m) (ρ := ρ) h1 h2 h4
  have hg' := (mget_perm hp h3.1 kx).trans hg
  obtain ⟨p, g1, g2⟩ := mget_at hg'
  have hpl := (List.getElem?_eq_some_iff.1 g1).1
  have g3 : es.toList[p]? = some (es.toList[p]'(by omega)) := List.getElem?_eq_getElem _
  have g4 : fs[p]? = some (fs[p]'(by omega)) := List.getElem?_eq_getElem _
  have hE := h4 p _ _ _ g1 g3 g4
  obtain ⟨hgn, hun⟩ := hE.2.1 n hm
  rw [hgn] at g4
  have hor : OR m v yx [(es.toList[p]'(by omega)).val] (js.flatMap fun j => φ.getD j []) := pk_or hc.objD hP (by simp only [RepL]; exact ⟨pk_rep hc.objD hv hP hd hun hE.1.2, trivial⟩)
  have hE3 : Ent3 m ρ k v hs' (mset xs' kx yx) (es.toList.modify p fun e => e) (fs.set p (js.flatMap fun j => φ.getD j [])) :=
    ent3_set hh.1 he h3.1 (by rw [g1]; rfl) g3 g2 _ ⟨hE.1, fun n hn => absurd hn (hh.2 n), fun _ => hor⟩
  have hid : (es.toList.modify p fun e => e) = es.toList := List.modify_id _ _
  rw [hid] at hE3
  have hbf := hc.before hnd hl
  rw [List.flatMap_cons, List.getD_eq_getElem?_getD, hf, Option.getD_some, List.cons_append, List.cons_append] at hbf
  obtain ⟨p1, p2⟩ := frag_split g4 (js.flatMap fun j => φ.getD j [])
  have hsh : SH X.e w m (((b, .map es cl) :: (fs.set p (js.flatMap fun j => φ.getD j [])).flatten) ++ ((killF φ (i :: js)).flatten ++ X.F)) := by
    refine hbf.perm ?_
    rw [List.cons_append]
    refine List.Perm.cons _ (List.Perm.append_right _ ?_)
    rw [List.nil_append] at p1
    exact (p1.append_right _).trans (List.perm_append_comm.trans p2.symm)
  obtain ⟨l1, l2, l3⟩ := ent3_get hE3
  refine ⟨m, ρ, _, hc.fall hnd (fun j hj => hl j (by simp [hj])) hu (o := .mpt _ v (mset xs kx yx) hs') ⟨hv, fun q hq => ?_, _, mset_perm hp h3.1 kx yx, b, es, cl, _, rfl, rfl, l1, l2, ⟨mset_nodup _ _ h3.1, h3.2⟩, l3⟩ hsh⟩
  obtain ⟨z, n'⟩ := q
  have hz : z ≠ kx := by rintro rfl; exact hh.2 n' hq
  have := hho _ ((hh.1 z n' hz).2 hq)
  exact ⟨this.1, fun h => this.2 (mset_keys_sub h)⟩

end
end Go.Ab
