/- Lemmas for a law of the seat: what functions of the program do, each stated as a contract of its own (Ab3). -/
import Derived.Test.YtjagcoeihmhabaaAb2
set_option linter.unusedVariables false
set_option linter.unusedSimpArgs false
namespace Go.Ab
open Go.RowKit Go.Shelf Go.Proofs Go.Eng

/-! maps of what the call owns -/
/-- Entries, one for each pair, and where they lie. -/
def Ent3 (m : Mem) (ρ : List Value) (k : Ty) (v : OT) (hs : List (k.den × Nat)) : List (k.den × v.den) → List MapEntry → List Frag → Prop
  | [], [], [] => True
  | p :: x, e :: es, g :: fs => EntT m ρ k v hs p e g ∧ Ent3 m ρ k v hs x es fs
  | _, _, _ => False
section
variable {m : Mem} {ρ : List Value} {k : Ty} {v : OT} {hs hs' : List (k.den × Nat)}
theorem ent3_of : ∀ {x : List (k.den × v.den)} {es : List MapEntry} {fs : List Frag}, es.length = x.length → fs.length = x.length → (∀ (i : Nat) (p : k.den × v.den) (e : MapEntry) (g : Frag), x[i]? = some p → es[i]? = some e → fs[i]? = some g → EntT m ρ k v hs p e g) → Ent3 m ρ k v hs x es fs := by
  intro x
  induction x with
  | nil => intro es fs h1 h2 _; cases es with
    | nil => cases fs with
      | nil => trivial
      | cons => simp at h2
    | cons => simp at h1
  | cons p x ih => intro es fs h1 h2 h; cases es with
    | nil => simp at h1
    | cons e es => cases fs with
      | nil => simp at h2
      | cons g fs => exact ⟨h 0 p e g rfl rfl rfl, ih (by simpa using h1) (by simpa using h2) fun i p e g a b c => h (i + 1) p e g (by simpa using a) (by simpa using b) (by simpa using c)⟩
theorem ent3_get : ∀ {x : List (k.den × v.den)} {es : List MapEntry} {fs : List Frag}, Ent3 m ρ k v hs x es fs → es.length = x.length ∧ fs.length = x.length ∧ ∀ (i : Nat) (p : k.den × v.den) (e : MapEntry) (g : Frag), x[i]? = some p → es[i]? = some e → fs[i]? = some g → EntT m ρ k v hs p e g := by
  intro x
  induction x with
  | nil => intro es fs h; cases es with
    | nil => cases fs with
      | nil => exact ⟨rfl, rfl, fun i p e g hp => by simp at hp⟩
      | cons => exact h.elim
    | cons => exact h.elim
  | cons p x ih => intro es fs h; cases es with
    | nil => exact h.elim
    | cons e es => cases fs with
      | nil => exact h.elim
      | cons g fs =>
        obtain ⟨h1, h2, h3⟩ := ih h.2
        refine ⟨by simp [h1], by simp [h2], fun i q u f a b c => ?_⟩
        cases i with
        | zero => simp at a b c; subst a b c; exact h.1
        | succ i => exact h3 i q u f (by simpa using a) (by simpa using b) (by simpa using c)
def rawT : Ty := .raw ⟨.bool false, rfl⟩
theorem raw3 : ∀ {x : List (k.den × v.den)} {es : List MapEntry} {fs : List Frag}, Ent3 m ρ k v hs x es fs → ∃ xr : List (k.den × rawT.den), EntL m k rawT xr es ∧ xr.map (·.1) = x.map (·.1) ∧ ∀ (i : Nat) c, xr[i]? = some c → ∃ e, es[i]? = some e ∧ e.val = (c.2 : Cell1).1 := by
  intro x
  induction x with
  | nil => intro es fs h; cases es with
    | nil => exact ⟨[], trivial, rfl, fun i c h => by simp at h⟩
    | cons => exact h.elim
  | cons p x ih => intro es fs h; cases es with
    | nil => exact h.elim
    | cons e es => cases fs with
      | nil => exact h.elim
      | cons g fs =>
        obtain ⟨xr, h1, h2, h3⟩ := ih h.2
        refine ⟨(p.1, (⟨e.val, h.1.1.2⟩ : Cell1)) :: xr, ⟨⟨h.1.1.1, rfl⟩, h1⟩, by simp [h2], fun i c hc => ?_⟩
        cases i with
        | zero => simp at hc; subst hc; exact ⟨e, rfl, rfl⟩
        | succ i => simpa using h3 i c (by simpa using hc)
theorem mget_none_iff {α β : Type} [DecidableEq α] : ∀ {x : List (α × β)} {z : α}, mget x z = none ↔ z ∉ x.map (·.1) := by
  intro x z
  induction x with
  | nil => simp [mget]
  | cons p x ih =>
    simp only [mget, List.map_cons, List.mem_cons, not_or]
    split
    · rename_i h; simp [h]
    · rename_i h; simp [ih, h]
theorem mget_first {α β : Type} [DecidableEq α] : ∀ {x : List (α × β)} {z : α} {i : Nat} {y : β}, x[i]? = some (z, y) → (∀ j, j < i → (x[j]?).map (·.1) ≠ some z) → mget x z = some y := by
  intro x
  induction x with
  | nil => intro z i y h; simp at h
  | cons p x ih =>
    intro z i y h hj
    cases i with
    | zero => simp at h; subst h; simp [mget]
    | succ i =>
      have h0 := hj 0 (by omega)
      simp at h0
      simp only [mget, if_neg (fun e : z = p.1 => h0 e.symm)]
      exact ih (by simpa using h) fun j hjj => by simpa using hj (j + 1) (by omega)
/-- The entry of a key. -/
theorem find3 {P : Program} {kT : TypeId} [DecidableEq k.den] (hK : KeyT P kT k) {x : List (k.den × v.den)} {es : List MapEntry} {fs : List Frag} {kx : k.den} {kv : Value} {w : World} (h : Ent3 m ρ k v hs x es fs) (hk : RV m k kx kv) :
    ∃ r, (Instr.findKey kT kv es).run P w = .ok r w ∧ match r with
      | none => kx ∉ x.map (·.1)
      | some (i, u) => ∃ y e g, x[i]? = some (kx, y) ∧ es[i]? = some e ∧ fs[i]? = some g ∧ e.val = u ∧ EntT m ρ k v hs (kx, y) e g ∧ ∀ j, j < i → (x[j]?).map (·.1) ≠ some kx := by
  obtain ⟨xr, h1, h2, h3⟩ := raw3 h
  obtain ⟨r, h4, h5⟩ := hK.find m kx kv rawT xr es w hk h1
  refine ⟨r, h4, ?_⟩
  have hkey : ∀ i : Nat, (xr[i]?).map (fun p => p.1) = (x[i]?).map (fun p => p.1) := fun i => by rw [← List.getElem?_map, ← List.getElem?_map, h2]
  cases r with
  | none => rw [mget_none_iff, h2] at h5; exact h5
  | some q =>
    obtain ⟨i, u⟩ := q
    obtain ⟨y, g1, g2, g3, ⟨e, g4⟩, g5⟩ := h5
    obtain ⟨c, hc, hck⟩ := Option.map_eq_some_iff.1 g3
    have hcc : xr[i]? = some (kx, c.2) := by rw [hc, ← hck]
    have hy := mget_first hcc g5
    rw [g1] at hy; cases hy
    obtain ⟨e', he', hv⟩ := h3 i c hc
    rw [g4] at he'; cases he'
    have hu : u = (c.2 : Cell1).1 := by
      simp only [RV, rawT, Ty.agg, RC] at g2
      simpa using g2
    rw [hkey] at g3
    obtain ⟨p, hp, hpk⟩ := Option.map_eq_some_iff.1 g3
    obtain ⟨l1, l2, l3⟩ := ent3_get h
    have hi := (List.getElem?_eq_some_iff.1 hp).1
    have hg : fs[i]? = some (fs[i]'(by omega)) := List.getElem?_eq_getElem _
    have hp' : x[i]? = some (kx, p.2) := by rw [hp, ← hpk]
    exact ⟨p.2, e, _, hp', g4, hg, by rw [hv, hu], l3 i _ _ _ hp' g4 hg, fun j hj => by rw [← hkey]; exact g5 j hj⟩
theorem ent_hs {p : k.den × v.den} {e : MapEntry} {g : Frag} (hh : ∀ n, (p.1, n) ∈ hs ↔ (p.1, n) ∈ hs') (h : EntT m ρ k v hs p e g) : EntT m ρ k v hs' p e g :=
  ⟨h.1, fun n hn => h.2.1 n ((hh n).2 hn), fun hn => h.2.2 fun n hm => hn n ((hh n).1 hm)⟩
theorem ent3_hs {kx : k.den} (hh : ∀ z n, z ≠ kx → ((z, n) ∈ hs ↔ (z, n) ∈ hs')) : ∀ {x : List (k.den × v.den)} {es : List MapEntry} {fs : List Frag}, kx ∉ x.map (·.1) → Ent3 m ρ k v hs x es fs → Ent3 m ρ k v hs' x es fs := by
  intro x
  induction x with
  | nil => intro es fs _ h; cases es with
    | nil => cases fs with
      | nil => trivial
      | cons => exact h.elim
    | cons => exact h.elim
  | cons p x ih => intro es fs hn h; cases es with
    | nil => exact h.elim
    | cons e es => cases fs with
      | nil => exact h.elim
      | cons g fs =>
        simp only [List.map_cons, List.mem_cons, not_or] at hn
        exact ⟨ent_hs (fun n => hh _ _ fun e => hn.1 e.symm) h.1, ih hn.2 h.2⟩
theorem ent3_set [DecidableEq k.den] {kx : k.den} {y : v.den} {g' : Frag} (hh : ∀ z n, z ≠ kx → ((z, n) ∈ hs ↔ (z, n) ∈ hs')) : ∀ {x : List (k.den × v.den)} {es : List MapEntry} {fs : List Frag} {i : Nat} {e0 : MapEntry}, Ent3 m ρ k v hs x es fs → (x.map (·.1)).Nodup → (x[i]?).map (·.1) = some kx → es[i]? = some e0 → (∀ j, j < i → (x[j]?).map (·.1) ≠ some kx) → ∀ (f : MapEntry → MapEntry), EntT m ρ k v hs' (kx, y) (f e0) g' → Ent3 m ρ k v hs' (mset x kx y) (es.modify i f) (fs.set i g') := by
  intro x
  induction x with
  | nil => intro es fs i e0 h _ hi; simp at hi
  | cons p x ih =>
    intro es fs i e0 h hnd hi he hj f hf
    cases es with
    | nil => exact h.elim
    | cons e es => cases fs with
      | nil => exact h.elim
      | cons g fs =>
        rw [List.map_cons, List.nodup_cons] at hnd
        cases i with
        | zero =>
          simp at hi he
          subst he
          simp only [mset, if_pos hi.symm, List.modify_zero_cons, List.set_cons_zero]
          exact ⟨hf, ent3_hs hh (by rw [← hi]; exact hnd.1) h.2⟩
        | succ i =>
          have hne : ¬ kx = p.1 := by
            have := hj 0 (by omega)
            simp at this
            exact fun e => this e.symm
          simp only [mset, if_neg hne, List.modify_succ_cons, List.set_cons_succ]
          exact ⟨ent_hs (fun n => hh _ _ fun e => hne e.symm) h.1, ih h.2 hnd.2 (by simpa using hi) (by simpa using he) (fun j hjj => by simpa using hj (j + 1) (by omega)) f hf⟩
theorem ent3_push [DecidableEq k.den] {kx : k.den} {y : v.den} {g' : Frag} {e' : MapEntry} (hh : ∀ z n, z ≠ kx → ((z, n) ∈ hs ↔ (z, n) ∈ hs')) (hf : EntT m ρ k v hs' (kx, y) e' g') : ∀ {x : List (k.den × v.den)} {es : List MapEntry} {fs : List Frag}, Ent3 m ρ k v hs x es fs → kx ∉ x.map (·.1) → Ent3 m ρ k v hs' (mset x kx y) (es ++ [e']) (fs ++ [g']) := by
  intro x
  induction x with
  | nil => intro es fs h _; cases es with
    | nil => cases fs with
      | nil => exact ⟨hf, trivial⟩
      | cons => exact h.elim
    | cons => exact h.elim
  | cons p x ih =>
    intro es fs h hn
    cases es with
    | nil => exact h.elim
    | cons e es => cases fs with
      | nil => exact h.elim
      | cons g fs =>
        simp only [List.map_cons, List.mem_cons, not_or] at hn
        simp only [mset, if_neg hn.1, List.cons_append]
        exact ⟨ent_hs (fun n => hh _ _ fun e => hn.1 e.symm) h.1, ih h.2 hn.2⟩
end

/-! what is put in -/
/-- A value over roots of the call's own. -/
def Pk (H : AH) : (v : OT) → v.den → List AV → List Nat → Prop
  | .dat t, x, cs, js => cs = expl t x ∧ t.noArr = true ∧ js = []
  | .pair a b, x, cs, js => ∃ c d j k, cs = c ++ d ∧ js = j ++ k ∧ Pk H a x.1 c j ∧ Pk H b x.2 d k
  | .sl E e, x, cs, js => match e, x with
    | .dat t, x => (∃ j, cs = [.osl j] ∧ H.get j = .sl E t x ∧ js = [j]) ∨ (cs = [.nils] ∧ x = [] ∧ js = [])
    | _, _ => False
  | .mp k e, x, cs, js => match e, x with
    | .dat t, x => ∃ j, cs = [.map j] ∧ H.get j = .map k t x ∧ js = [j]
    | e, x => ∃ j, cs = [.map j] ∧ H.get j = .mpt k e x [] ∧ js = [j]
  | .pt T e, x, cs, js => ∃ j us l, cs = [.ptr j 0] ∧ H.get j = .var T us ∧ js = j :: l ∧ Pk H e x us l
theorem repL_one {m : Mem} {ρ : List Value} {a : AV} {vs : List Value} (h : RepL m ρ [a] vs) : ∃ v, vs = [v] ∧ RepA m ρ a v := by
  cases vs with
  | nil => simp [RepL] at h
  | cons v vs => cases vs with
    | nil => simp only [RepL, and_true] at h; exact ⟨v, rfl, h⟩
    | cons => simp [RepL] at h
theorem or_dat {m : Mem} {k t : Ty} {p : k.den × t.den} {e : MapEntry} (h : RV m t p.2 e.val) : ∃ us : List Value, (if (OT.dat t).aggB then e.val = .agg us.toArray else us = [e.val]) ∧ OR m (.dat t) p.2 us [] := by
  unfold RV at h
  cases ha : (OT.dat t).aggB with
  | true => rw [if_pos (show t.agg = true from ha)] at h; obtain ⟨us, h1, h2⟩ := h; exact ⟨us, by simpa using h1, h2, rfl⟩
  | false => rw [if_neg (show ¬ t.agg = true from by have : t.agg = false := ha; simp [this])] at h; exact ⟨[e.val], by simp, h, rfl⟩
theorem flatten_nils {α : Type} (n : Nat) : (List.replicate n ([] : List α)).flatten = [] := by simp
theorem pk_or {H : AH} {m : Mem} {ρ : List Value} {φ : List Frag} (hc : ∀ (j : Nat) (h : Value), ρ[j]? = some h → ORep m ρ (H.get j) h (φ.getD j [])) : ∀ {v : OT} {x : v.den} {cs : List AV} {js : List Nat} {vs : List Value}, Pk H v x cs js → RepL m ρ cs vs → OR m v x vs (js.flatMap fun j => φ.getD j []) := by
  intro v
  induction v with
  | dat t => intro x cs js vs h hr; obtain ⟨rfl, h2, rfl⟩ := h; exact ⟨rc_of_expl h2 hr, rfl⟩
  | pair a b iha ihb =>
    intro x cs js vs h hr
    obtain ⟨c, d, j, l, rfl, rfl, h3, h4⟩ := h
    obtain ⟨us, ws, rfl, h5, h6⟩ := RepL.split hr
    exact ⟨us, ws, _, _, rfl, List.flatMap_append, iha h3 h5, ihb h4 h6⟩
  | sl E e ih =>
    intro x cs js vs h hr
    cases e with
    | dat t =>
      rcases h with ⟨j, rfl, h2, rfl⟩ | ⟨rfl, rfl, rfl⟩
      · obtain ⟨u, rfl, hu⟩ := repL_one hr
        simp only [RepA] at hu
        have ho := hc j u hu.1
        rw [h2] at ho
        simp only [List.flatMap_cons, List.flatMap_nil, List.append_nil]
        obtain ⟨h0, ⟨g1, g2, g3⟩ | ⟨b, c, arr, ws, g1, g2, g3, g4, g5, ⟨us, g6, g7, g8⟩, g9⟩⟩ := ho
        · exact ⟨h0, .inl ⟨g1, by rw [g2], g3⟩⟩
        · refine ⟨h0, .inr ⟨b, c, arr, us, List.replicate x.length [], by rw [g1], by rw [g2]; simp, g3, g4, g5, g6, by simp, by rw [← g7]; exact g9, fun i y u g a1 a2 a3 => ⟨g8 i y u a1 a2, ?_⟩⟩⟩
          exact List.eq_of_mem_replicate (List.mem_of_getElem? a3)
      · obtain ⟨u, rfl, hu⟩ := repL_one hr
        simp only [RepA] at hu
        subst hu
        exact ⟨by simp, .inl ⟨rfl, rfl, rfl⟩⟩
    | sl => exact h.elim
    | mp => exact h.elim
    | pt => exact h.elim
    | pair => exact h.elim
  | mp k e ih =>
    intro x cs js vs h hr
    have hmpt : ∀ (e : OT) (x : List (k.den × e.den)) (j : Nat), H.get j = .mpt k e x [] → RepL m ρ [.map j] vs → OR m (.mp k e) x vs (([j] : List Nat).flatMap fun j => φ.getD j []) := by
      intro e x j h2 hr
      obtain ⟨u, rfl, hu⟩ := repL_one hr
      simp only [RepA] at hu
      have ho := hc j u hu.1
      rw [h2] at ho
      simp only [List.flatMap_cons, List.flatMap_nil, List.append_nil]
      obtain ⟨h0, _, b, es, cl, fs, g1, g2, g3, g4, g5, g6⟩ := ho
      refine ⟨b, es, cl, fs, by rw [g1], g2, g3, g4, g5, fun i p e' g a1 a2 a3 => ?_⟩
      obtain ⟨c1, c2, c3⟩ := g6 i p e' g a1 a2 a3
      refine ⟨c1.1, [e'.val], ?_, c3 fun n hn => by simp at hn⟩
      cases e <;> simp_all [OT.node, OT.aggB]
    cases e with
    | dat t =>
      obtain ⟨j, rfl, h2, rfl⟩ := h
      obtain ⟨u, rfl, hu⟩ := repL_one hr
      simp only [RepA] at hu
      have ho := hc j u hu.1
      rw [h2] at ho
      simp only [List.flatMap_cons, List.flatMap_nil, List.append_nil]
      obtain ⟨b, es, cl, g1, g2, g3, g4, g5⟩ := ho
      refine ⟨b, es, cl, List.replicate x.length [], by rw [g1], by rw [g2]; simp, g3, by simp, g4, fun i p e g a1 a2 a3 => ?_⟩
      obtain ⟨c1, c2⟩ := g5 i p e a1 a2
      have hg := List.eq_of_mem_replicate (List.mem_of_getElem? a3)
      subst hg
      exact ⟨c1, or_dat c2⟩
    | sl E e => obtain ⟨j, rfl, h2, rfl⟩ := h; exact hmpt _ x j h2 hr
    | mp k' e => obtain ⟨j, rfl, h2, rfl⟩ := h; exact hmpt _ x j h2 hr
    | pt T e => obtain ⟨j, rfl, h2, rfl⟩ := h; exact hmpt _ x j h2 hr
    | pair a b => obtain ⟨j, rfl, h2, rfl⟩ := h; exact hmpt _ x j h2 hr
  | pt T e ih =>
    intro x cs js vs h hr
    obtain ⟨j, us, l, rfl, h2, rfl, h4⟩ := h
    obtain ⟨u, rfl, hu⟩ := repL_one hr
    simp only [RepA] at hu
    obtain ⟨b, hb, rfl⟩ := hu
    have ho := hc j _ hb
    rw [h2] at ho
    obtain ⟨b', ws, g1, g2, g3, g4⟩ := ho
    cases g1
    refine ⟨b, ws, _, rfl, ?_, g4, ih h4 g3⟩
    rw [List.flatMap_cons, g2]; rfl
end Go.Ab

set_option linter.unusedVariables false
set_option linter.unusedSimpArgs false
namespace Go.Ab
open Go.RowKit Go.Shelf Go.Proofs Go.Eng

section
variable {P : Program} {N : Ev} {X : Cx} {Q : APost} {st : AS}
variable {d : Nat} {T U T' : TypeId} {pos : String} {aft : Array Edge} {g : Option (Nat × Bool)} {x y z : Operand}

/-- Objects are told anew. -/
theorem Conc.re {fr : Fr} {w w' : World} {m m' : Mem} {ρ : List Value} {φ : List Frag} (hc : Conc X st fr w m ρ φ) (hm : m.le m') {H' : AH} {ρ2 : List Value} {φ1 φ2 : List Frag} (h1 : φ1.length = φ.length) (h2 : φ2.length = ρ2.length) (ho : ∀ (q : Nat) (h : Value) (f : Frag), ρ[q]? = some h → φ1[q]? = some f → ORep m' (ρ ++ ρ2) (H'.get q) h f) (ho2 : ∀ (q : Nat) (h : Value) (f : Frag), ρ2[q]? = some h → φ2[q]? = some f → ORep m' (ρ ++ ρ2) (H'.get (st.n + q)) h f) (hs : SH X.e w' m' (φ1.flatten ++ φ2.flatten ++ X.F)) :
    Conc X ⟨st.l, H', st.n + ρ2.length⟩ fr w' m' (ρ ++ ρ2) (φ1 ++ φ2) := by
  have hpre : ∀ (i : Nat) (h : Value), ρ[i]? = some h → (ρ ++ ρ2)[i]? = some h := fun i h hi => by
    rw [List.getElem?_append_left (List.getElem?_eq_some_iff.1 hi).1]; exact hi
  refine ⟨hc.mle.trans hm, fun i h hi => hpre i h (hc.pre i h hi), by simp [hc.nρ], by simp [h1, h2, hc.nφ], ?_, ?_, ?_⟩
  · intro t a ha
    obtain ⟨u, q1, q2⟩ := hc.slots t a ha
    exact ⟨u, q1, RepA.mono hm hpre a q2⟩
  · intro i h f hi hf
    rcases Nat.lt_or_ge i ρ.length with hl | hl
    · rw [List.getElem?_append_left hl] at hi
      rw [List.getElem?_append_left (by rw [h1, hc.nφ, ← hc.nρ]; exact hl)] at hf
      exact ho i h f hi hf
    · rw [List.getElem?_append_right hl] at hi
      rw [List.getElem?_append_right (by rw [h1, hc.nφ, ← hc.nρ]; exact hl)] at hf
      rw [show φ1.length = ρ.length by rw [h1, hc.nφ, hc.nρ]] at hf
      have := ho2 (i - ρ.length) h f hi hf
      rw [show st.n + (i - ρ.length) = i by rw [← hc.nρ]; omega] at this
      exact this
  · rw [List.flatten_append]; exact hs

def killF : List Frag → List Nat → List Frag
  | φ, [] => φ
  | φ, j :: js => killF (φ.set j []) js
def killH (js : List Nat) (H : AH) : AH := js.foldr (fun j H => (j, .dead) :: H) H
theorem killH_get {H : AH} : ∀ {js : List Nat} {q : Nat}, (killH js H).get q = if q ∈ js then .dead else H.get q := by
  intro js
  induction js with
  | nil => intro q; simp [killH]
  | cons j js ih =>
    intro q
    have : killH (j :: js) H = (j, .dead) :: killH js H := rfl
    rw [this, AH.get_cons, ih]
    by_cases h : j = q
    · simp [h]
    · have h' : ¬ q = j := fun e => h e.symm
      simp [h, h']
theorem killF_len : ∀ {js : List Nat} {φ : List Frag}, (killF φ js).length = φ.length := by
  intro js
  induction js with
  | nil => intro φ; rfl
  | cons j js ih => intro φ; simp [killF, ih]
theorem killF_get : ∀ {js : List Nat} {φ : List Frag} {q : Nat} {f : Frag}, (killF φ js)[q]? = some f → (q ∈ js ∧ f = []) ∨ (q ∉ js ∧ φ[q]? = some f) := by
  intro js
  induction js with
  | nil => intro φ q f h; exact .inr ⟨by simp, h⟩
  | cons j js ih =>
    intro φ q f h
    rcases ih h with ⟨h1, h2⟩ | ⟨h1, h2⟩
    · exact .inl ⟨by simp [h1], h2⟩
    · by_cases e : j = q
      · subst e
        have hl := (List.getElem?_eq_some_iff.1 h2).1
        rw [List.getElem?_set_self (by simpa using hl)] at h2
        cases h2; exact .inl ⟨by simp, rfl⟩
      · rw [List.getElem?_set_ne e] at h2
        exact .inr ⟨by simp [h1]; exact fun h => e h.symm, h2⟩
theorem killF_perm : ∀ {js : List Nat} {φ : List Frag}, js.Nodup → (∀ j ∈ js, j < φ.length) → φ.flatten.Perm ((js.flatMap fun j => φ.getD j []) ++ (killF φ js).flatten) := by
  intro js
  induction js with
  | nil => intro φ _ _; simp [killF]
  | cons j js ih =>
    intro φ hnd hl
    rw [List.nodup_cons] at hnd
    have hj := hl j (by simp)
    have hg : φ[j]? = some (φ.getD j []) := by rw [List.getD_eq_getElem?_getD, List.getElem?_eq_getElem hj]; rfl
    have h1 := frag_split hg []
    have h2 := ih (φ := φ.set j []) hnd.2 (fun q hq => by simpa using hl q (by simp [hq]))
    have h3 : (js.flatMap fun q => (φ.set j []).getD q []) = js.flatMap fun q => φ.getD q [] := by
      rw [List.flatMap_def, List.flatMap_def]
      congr 1
      apply List.map_congr_left
      intro q hq
      rw [List.getD_eq_getElem?_getD, List.getD_eq_getElem?_getD, List.getElem?_set_ne (fun e : j = q => hnd.1 (by rw [e]; exact hq))]
    rw [h3] at h2
    refine h1.1.trans ?_
    rw [List.flatMap_cons, List.append_assoc]
    refine List.Perm.append_left _ ?_
    have h4 := h1.2
    rw [List.nil_append] at h4
    exact h4.symm.trans h2

theorem or_one {m : Mem} {v : OT} {y : v.den} {u : Value} {f : Frag} (hn : v.node = true) (h : OR m v y [u] f) : u.oneCell' = true := by
  cases v with
  | dat => simp [OT.node] at hn
  | pair => simp [OT.node] at hn
  | sl E e =>
    obtain ⟨_, ⟨_, h1, _⟩ | ⟨b, c, _, _, _, h1, _⟩⟩ := h
    · cases h1; rfl
    · cases h1; rfl
  | mp k v => obtain ⟨b, _, _, _, h1, _⟩ := h; cases h1; rfl
  | pt T e => obtain ⟨b, _, _, h1, _⟩ := h; cases h1; rfl

theorem own_mpt {fr : Fr} {w : World} {m : Mem} {ρ : List Value} {φ : List Frag} (hc : Conc X st fr w m ρ φ) {i : Nat} {k : Ty} {v : OT} {xs : List (k.den × v.den)} {hs : List (k.den × Nat)} {u : Value} (hv : RepA m ρ (.map i) u) (hH : st.H.get i = .mpt k v xs hs) :
    v.node = true ∧ (∀ q ∈ hs, HoleOk ρ (xs.map (·.1)) q) ∧ ∃ b es cl fs, u = .map (some b) ∧ ρ[i]? = some (.map (some b)) ∧ φ[i]? = some ((b, .map es cl) :: fs.flatten) ∧ w.heap[b]? = some (.map es cl) ∧ Ent3 m ρ k v hs xs es.toList fs ∧ (xs.map (·.1)).Nodup := by
  simp only [RepA] at hv
  obtain ⟨f, hf, ho, hw⟩ := hc.obj hv.1
  rw [hH] at ho
  obtain ⟨h0, h00, b, es, cl, fs, rfl, rfl, h1, h2, h3, h4⟩ := ho
  exact ⟨h0, h00, b, es, cl, fs, rfl, hv.1, hf, hw (b, _) (by simp), ent3_of h1 h2 h4, h3⟩

theorem run_lookup3 {w : World} {m : Mem} {ρ : List Value} {k : Ty} {v : OT} [DecidableEq k.den] {xs : List (k.den × v.den)} {hs : List (k.den × Nat)} {kx : k.den} {kT eT b cl : Nat} {es : Array MapEntry} {fs : List Frag} {kv zv : Value} {ok : Bool} (hU : Und P T (.map kT eT)) (hK : KeyT P kT k) (hZ : Eng.Zero P eT zv) (hw : w.heap[b]? = some (.map es cl)) (he : Ent3 m ρ k v hs xs es.toList fs) (hk : RV m k kx kv) :
    ∃ u, (Instr.lookup T (.map (some b)) kv ok).run P w = .ok (if ok then .tuple #[u, .bool (mget xs kx).isSome] else u) w ∧ ((mget xs kx = none ∧ u = zv) ∨ ∃ (i : Nat) (y : v.den) (e : MapEntry) (g : Frag), mget xs kx = some y ∧ xs[i]? = some (kx, y) ∧ e.val = u ∧ EntT m ρ k v hs (kx, y) e g) := by
  obtain ⟨r, h1, h2⟩ := find3 hK (w := w) he hk
  have h3 := hK.chk m kx kv es.isEmpty w hk
  cases r with
  | none =>
    have hn := mget_none_iff.2 h2
    refine ⟨zv, ?_, .inl ⟨hn, rfl⟩⟩
    rw [hn]
    simp only [Instr.lookup, Sem.run_bind, run_underlying hU, Result.andThen_ok, run_getObj hw, h3, h1, hZ w, Sem.run_pure]
    cases ok <;> simp
  | some q =>
    obtain ⟨q, u⟩ := q
    obtain ⟨y, e, g, g1, g2, g3, g4, g5, g6⟩ := h2
    have hy := mget_first g1 g6
    refine ⟨u, ?_, .inr ⟨q, y, e, g, hy, g1, g4, g5⟩⟩
    rw [hy]
    simp only [Instr.lookup, Sem.run_bind, run_underlying hU, Result.andThen_ok, run_getObj hw, h3, h1, Sem.run_pure]
    cases ok <;> simp

/-- An entry that is taken out: a slice, nil where there is none. -/
theorem av_look_sl {i n kT eT E : Nat} {k : Ty} {e : OT} [DecidableEq k.den] {xs : List (k.den × List e.den)} {hs : List (k.den × Nat)} {kx : k.den} (hU : Und P T (.map kT eT)) (hK : KeyT P kT k) (hZ : Eng.Zero P eT (.slice none 0 0)) (hx : aev st.l x = some (.map i)) (hy : aev st.l y = some (whole k kx)) (hH : st.H.get i = .mpt k (.sl E e) xs hs) (hno : k.noArr = true) (hm : (kx, n) ∈ hs) (hN : Nat.blt d N.n = true := by rfl) :
    AOpV P N X ⟨some d, .lookup T x y false, U, pos, aft, g⟩ (.osl n) st :=
  av_of rfl fun Q fr w m ρ φ hc => by
    obtain ⟨v, h1, h2⟩ := hc.ev hx
    obtain ⟨u, h3, h4⟩ := hc.ev hy
    obtain ⟨_, hho, b, es, cl, fs, rfl, _, _, h5, h6, _⟩ := own_mpt hc h2 hH
    obtain ⟨q, h7, h8⟩ := run_lookup3 (ok := false) hU hK hZ h5 h6 (whole_rv hno h4)
    refine ⟨q, ?_, fun K hk => op_val rfl hN (fun ac ha => ?_) hk⟩
    · simp only [RepA]
      rcases h8 with ⟨h9, rfl⟩ | ⟨p, yy, ee, gg, h9, _, rfl, h10⟩
      · exact ⟨(hho _ hm).2 (mget_none_iff.1 h9), rfl⟩
      · exact ⟨(h10.2.1 n hm).2, h10.1.2⟩
    · simp only [execOp, ha.eval h1, ha.eval h3]
      rw [Sem.run_bind, h7]; rfl
/-- An entry that is taken out: a pointer, or a map. -/
theorem av_look_own {i n kT eT : Nat} {k : Ty} {v : OT} [DecidableEq k.den] {xs : List (k.den × v.den)} {hs : List (k.den × Nat)} {kx : k.den} {yx : v.den} {zv : Value} {ok : Bool} {av r : AV} (hU : Und P T (.map kT eT)) (hK : KeyT P kT k) (hZ : Eng.Zero P eT zv) (hx : aev st.l x = some (.map i)) (hy : aev st.l y = some (whole k kx)) (hH : st.H.get i = .mpt k v xs hs) (hno : k.noArr = true) (hm : (kx, n) ∈ hs) (hg : mget xs kx = some yx)
    (hav : av = .map n ∨ (∃ T1 cs, av = .ptr n 0 ∧ st.H.get n = .var T1 cs)) (hr : (if ok then .tup [av, .bool true] else av) = r) (hN : Nat.blt d N.n = true := by rfl) :
    AOpV P N X ⟨some d, .lookup T x y ok, U, pos, aft, g⟩ r st :=
  av_of rfl fun Q fr w m ρ φ hc => by
    subst hr
    obtain ⟨v, h1, h2⟩ := hc.ev hx
    obtain ⟨u, h3, h4⟩ := hc.ev hy
    obtain ⟨_, hho, b, es, cl, fs, rfl, _, _, h5, h6, _⟩ := own_mpt hc h2 hH
    obtain ⟨q, h7, h8⟩ := run_lookup3 (ok := ok) hU hK hZ h5 h6 (whole_rv hno h4)
    have hq : RepA m ρ av q := by
      rcases h8 with ⟨h9, rfl⟩ | ⟨p, yy, ee, gg, h9, _, rfl, h10⟩
      · rw [hg] at h9; cases h9
      · have hn := (h10.2.1 n hm).2
        rcases hav with rfl | ⟨T1, cs, rfl, h11⟩
        · simp only [RepA]; exact ⟨hn, h10.1.2⟩
        · obtain ⟨f, _, ho, _⟩ := hc.obj hn
          rw [h11] at ho
          obtain ⟨b', us, h12, _⟩ := ho
          simp only [RepA]
          exact ⟨b', by rw [← h12]; exact hn, h12⟩
    rw [hg] at h7
    refine ⟨if ok then .tuple #[q, .bool true] else q, ?_, fun K hk => op_val rfl hN (fun ac ha => ?_) hk⟩
    · cases ok
      · simpa using hq
      · simp only [if_true, RepA]; exact ⟨[q, .bool true], rfl, by simp only [RepL]; exact ⟨hq, rep_bool, trivial⟩⟩
    · simp only [execOp, ha.eval h1, ha.eval h3]
      rw [Sem.run_bind, h7]; rfl
/-- There is no entry. -/
theorem av_look_no {i kT eT : Nat} {k : Ty} {v : OT} [DecidableEq k.den] {xs : List (k.den × v.den)} {hs : List (k.den × Nat)} {kx : k.den} {zv : Value} {ok : Bool} {r : AV} (hU : Und P T (.map kT eT)) (hK : KeyT P kT k) (hZ : Eng.Zero P eT zv) (hx : aev st.l x = some (.map i)) (hy : aev st.l y = some (whole k kx)) (hH : st.H.get i = .mpt k v xs hs) (hno : k.noArr = true) (hg : mget xs kx = none)
    (hr : (if ok then .tup [ofV zv, .bool false] else ofV zv) = r) (hN : Nat.blt d N.n = true := by rfl) :
    AOpV P N X ⟨some d, .lookup T x y ok, U, pos, aft, g⟩ r st :=
  av_of rfl fun Q fr w m ρ φ hc => by
    subst hr
    obtain ⟨v, h1, h2⟩ := hc.ev hx
    obtain ⟨u, h3, h4⟩ := hc.ev hy
    obtain ⟨_, hho, b, es, cl, fs, rfl, _, _, h5, h6, _⟩ := own_mpt hc h2 hH
    obtain ⟨q, h7, h8⟩ := run_lookup3 (ok := ok) hU hK hZ h5 h6 (whole_rv hno h4)
    rcases h8 with ⟨_, rfl⟩ | ⟨p, yy, ee, gg, h9, _⟩
    · rw [hg] at h7
      refine ⟨if ok then .tuple #[q, .bool false] else q, ?_, fun K hk => op_val rfl hN (fun ac ha => ?_) hk⟩
      · cases ok
        · simpa using rep_ofV m ρ q
        · simp only [if_true, RepA]; exact ⟨[q, .bool false], rfl, by simp only [RepL]; exact ⟨rep_ofV m ρ q, rep_bool, trivial⟩⟩
      · simp only [execOp, ha.eval h1, ha.eval h3]
        rw [Sem.run_bind, h7]; rfl
    · rw [hg] at h9; cases h9
theorem av_len_mpt {i kT eT : Nat} {k : Ty} {v : OT} {xs : List (k.den × v.den)} {hs : List (k.den × Nat)} {ts : Array TypeId} {cl : Array Operand} (hc : cl = #[x]) (ht : ts = #[T]) (hU : Und P T (.map kT eT)) (hx : aev st.l x = some (.map i)) (hH : st.H.get i = .mpt k v xs hs) (hN : Nat.blt d N.n = true := by rfl) :
    AOpV P N X ⟨some d, .call ⟨.builtin .len, cl, ts⟩, U, pos, aft, g⟩ (.int .i64 (xs.length : Int)) st :=
  av_of rfl fun Q fr w m ρ φ hcc => by
    obtain ⟨v, h1, h2⟩ := hcc.ev hx
    obtain ⟨_, _, b, es, cl', fs, rfl, _, _, h5, h6, _⟩ := own_mpt hcc h2 hH
    have hl := (ent3_get h6).1
    refine ⟨_, rep_int, fun K hk => op_val rfl hN (fun ac ha => ?_) hk⟩
    subst hc ht
    have : es.size = xs.length := by simpa using hl
    simp [execOp, resolve, invoke, builtin, Builtin.len_, ha.eval h1, run_underlying hU, run_getObj h5, goInt, this]
/-- An empty map, of what the call owns from now on. -/
theorem wk_mpt {i : Nat} {tk tv : Ty} (v : OT) (hH : st.H.get i = .map tk tv []) (hv : v.node = true) : Wk X st (st.upd i (.mpt tk v [] [])) := by
  intro fr w m ρ φ hc
  by_cases hi : i < st.n
  · obtain ⟨h, hh⟩ : ∃ h, ρ[i]? = some h := ⟨_, List.getElem?_eq_getElem (by rw [hc.nρ]; exact hi)⟩
    obtain ⟨f, hf, ho, _⟩ := hc.obj hh
    rw [hH] at ho
    obtain ⟨b, es, cl, rfl, rfl, h1, h2, h3⟩ := ho
    have hl : es.toList.length = 0 := by simpa using h1
    exact ⟨m, ρ, _, hc.turn hh hf (f' := [(b, .map es cl)]) (hc.front hf) ⟨hv, fun q hq => by simp at hq, b, es, cl, [], rfl, rfl, by simpa using hl, rfl, by simp, fun i p e g hp => by simp at hp⟩⟩
  · refine ⟨m, ρ, φ, hc.mle, hc.pre, hc.nρ, hc.nφ, hc.slots, ?_, hc.sh⟩
    intro j h f hj hf
    have : j < ρ.length := (List.getElem?_eq_some_iff.1 hj).1
    simp only [AS.upd, AH.get_cons]
    rw [if_neg (by rw [hc.nρ] at this; omega)]
    exact hc.objs j h f hj hf
end
end Go.Ab

set_option linter.unusedVariables false
set_option linter.unusedSimpArgs false
namespace Go.Ab
open Go.RowKit Go.Shelf Go.Proofs Go.Eng

/-- No hole but those that stay. -/
def HolesTo {κ : Type} (kx : κ) (hs hs' : List (κ × Nat)) : Prop := (∀ z n, z ≠ kx → ((z, n) ∈ hs ↔ (z, n) ∈ hs')) ∧ ∀ n, (kx, n) ∉ hs'
theorem holes0 {κ : Type} {kx : κ} : HolesTo kx [] [] := ⟨fun z n _ => Iff.rfl, fun n h => by simp at h⟩
theorem holes1 {κ : Type} {kx : κ} {n : Nat} : HolesTo kx [(kx, n)] [] := ⟨fun z n' h => by simp; exact fun e => absurd e h, fun n h => by simp at h⟩

theorem mset_keys_sub {α β : Type} [DecidableEq α] {x : List (α × β)} {k : α} {v : β} {z : α} (h : z ∉ (mset x k v).map (·.1)) : z ∉ x.map (·.1) := by
  rw [mset_keys] at h
  split at h
  · exact h
  · simp only [List.mem_append, not_or] at h; exact h.1

section
variable {P : Program} {N : Ev} {X : Cx} {Q : APost} {st : AS}
variable {d : Nat} {T U T' : TypeId} {pos : String} {aft : Array Edge} {g : Option (Nat × Bool)} {x y z : Operand}

/-- What is known of what is left behind a fall of objects, and a turn of one. -/
theorem Conc.fall {fr : Fr} {w w' : World} {m : Mem} {ρ : List Value} {φ : List Frag} (hc : Conc X st fr w m ρ φ) {i : Nat} {js : List Nat} {h : Value} {f' : Frag} {o : AO} (hnd : (i :: js).Nodup) (hl : ∀ j ∈ js, j < st.n) (hi : ρ[i]? = some h) (ho : ORep m ρ o h f')
    (hs : SH X.e w' m (f' ++ ((killF φ (i :: js)).flatten ++ X.F))) : Conc X ⟨st.l, (i, o) :: killH js st.H, st.n⟩ fr w' m ρ ((killF φ (i :: js)).set i f') := by
  have hil : i < φ.length := by rw [hc.nφ, ← hc.nρ]; exact (List.getElem?_eq_some_iff.1 hi).1
  have h1 := Conc.re hc (Mem.le_refl m) (H' := (i, o) :: killH js st.H) (ρ2 := []) (φ1 := (killF φ (i :: js)).set i f') (φ2 := []) (w' := w') (by simp [killF_len]) rfl ?_ (by intro q h f hq; simp at hq) ?_
  · simpa using h1
  · intro q hq f h2 h3
    rw [List.append_nil]
    rw [AH.get_cons]
    by_cases e : i = q
    · subst e
      rw [if_pos rfl]
      rw [hi] at h2; cases h2
      rw [List.getElem?_set_self (by simpa [killF_len] using hil)] at h3
      cases h3; exact ho
    · rw [if_neg e, killH_get]
      rw [List.getElem?_set_ne e] at h3
      rcases killF_get h3 with ⟨h4, rfl⟩ | ⟨h4, h5⟩
      · have : q ∈ js := by
          rcases List.mem_cons.1 h4 with h6 | h6
          · exact absurd h6.symm e
          · exact h6
        rw [if_pos this]; rfl
      · rw [if_neg (fun h6 => h4 (List.mem_cons.2 (.inr h6)))]
        exact hc.objs q hq f h2 h5
  · rw [List.flatten_nil, List.append_nil]
    refine hs.perm ?_
    rw [← List.append_assoc]
    refine List.Perm.append_right _ ?_
    have hg : (killF φ (i :: js))[i]? = some [] := by
      have : (killF φ (i :: js))[i]? = some ((killF φ (i :: js))[i]'(by simpa [killF_len] using hil)) := List.getElem?_eq_getElem _
      rcases killF_get this with ⟨_, h5⟩ | ⟨h4, _⟩
      · rw [this, h5]
      · exact absurd (List.mem_cons.2 (.inl rfl)) h4
    have h7 := frag_split hg f'
    have h8 := h7.1
    rw [List.nil_append] at h8
    exact (h8.append_left f').trans h7.2.symm

theorem Conc.before {fr : Fr} {w : World} {m : Mem} {ρ : List Value} {φ : List Frag} (hc : Conc X st fr w m ρ φ) {js : List Nat} (hnd : js.Nodup) (hl : ∀ j ∈ js, j < st.n) : SH X.e w m ((js.flatMap fun j => φ.getD j []) ++ ((killF φ js).flatten ++ X.F)) := by
  refine hc.sh.perm ?_
  rw [← List.append_assoc]
  exact (killF_perm hnd (fun j hj => by rw [hc.nφ]; exact hl j hj)).append_right _
theorem Conc.objD {fr : Fr} {w : World} {m : Mem} {ρ : List Value} {φ : List Frag} (hc : Conc X st fr w m ρ φ) : ∀ (j : Nat) (h : Value), ρ[j]? = some h → ORep m ρ (st.H.get j) h (φ.getD j []) := by
  intro j h hj
  obtain ⟨f, hf, ho, _⟩ := hc.obj hj
  rw [List.getD_eq_getElem?_getD, hf]; exact ho

/-- Entries, with what is put in. -/
theorem run_mapUpdate3 {w : World} {m : Mem} {ρ : List Value} {k : Ty} {v : OT} [DecidableEq k.den] {xs : List (k.den × v.den)} {hs hs' : List (k.den × Nat)} {kx : k.den} {yx : v.den} {kT eT b cl : Nat} {es : Array MapEntry} {fs : List Frag} {kv vv : Value} {G : Frag} (hU : Und P T (.map kT eT)) (hK : KeyT P kT k) (hw : w.heap[b]? = some (.map es cl)) (he : Ent3 m ρ k v hs xs es.toList fs) (hnd : (xs.map (·.1)).Nodup) (hk : RV m k kx kv) (hv : v.node = true) (hor : OR m v yx [vv] G) (hh : HolesTo kx hs hs') :
    ∃ es' cl' fs' g0, (Instr.mapUpdate T (.map (some b)) kv vv).run P w = .ok () { w with heap := w.heap.setIfInBounds b (.map es' cl') } ∧ Ent3 m ρ k v hs' (mset xs kx yx) es'.toList fs' ∧ (fs.flatten ++ G).Perm (g0 ++ fs'.flatten) := by
  obtain ⟨r, h1, h2⟩ := find3 hK (w := w) he hk
  have h3 := hK.chk m kx kv false w hk
  have hset : ∀ o, (setObj b o).run P w = .ok () { w with heap := w.heap.setIfInBounds b o } := fun o => by simp [setObj, Sem.run, hw]
  cases r with
  | none =>
    refine ⟨es.push { key := kv, val := vv, born := cl }, cl + 1, fs ++ [G], [], ?_, ?_, ?_⟩
    · simp only [Instr.mapUpdate, Sem.run_bind, run_underlying hU, Result.andThen_ok, run_getObj hw, h3, h1, hset]
    · rw [Array.toList_push]
      exact ent3_push hh.1 ⟨⟨hk, or_one hv hor⟩, fun n hn => absurd hn (hh.2 n), fun _ => hor⟩ he h2
    · simp
  | some q =>
    obtain ⟨q, u⟩ := q
    obtain ⟨y0, e, g0, g1, g2, g3, g4, g5, g6⟩ := h2
    have h9 := hK.stays m kx e.key kv w g5.1.1 hk
    have h10 : es[q]? = some e := by simpa using g2
    refine ⟨es.modify q fun e => { e with key := kv, val := vv }, cl, fs.set q G, g0, ?_, ?_, ?_⟩
    · simp only [Instr.mapUpdate, Sem.run_bind, run_underlying hU, Result.andThen_ok, run_getObj hw, h3, h1, h10, Option.map_some, Option.getD_some, h9, hset]
    · rw [Array.toList_modify]
      exact ent3_set hh.1 he hnd (by rw [g1]; rfl) g2 g6 _ ⟨⟨hk, or_one hv hor⟩, fun n hn => absurd hn (hh.2 n), fun _ => hor⟩
    · obtain ⟨p1, p2⟩ := frag_split g3 G
      refine (p1.append_right _).trans ?_
      rw [List.append_assoc]
      refine List.Perm.append_left _ ?_
      exact List.perm_append_comm.trans p2.symm
theorem aop_mptSet {i kT eT : Nat} {k : Ty} {v : OT} [DecidableEq k.den] {xs : List (k.den × v.den)} {hs hs' : List (k.den × Nat)} {kx : k.den} {yx : v.den} {js : List Nat} {av : AV} {o : Oper} {K : AS → Prop} (hU : Und P T (.map kT eT)) (hK : KeyT P kT k) (ho : o.op = .mapUpdate T x y z ∨ o.op = .insert T x y z) (hd : o.dst = none) (hx : aev st.l x = some (.map i)) (hy : aev st.l y = some (whole k kx)) (hz : aev st.l z = some av) (hH : st.H.get i = .mpt k v xs hs) (hno : k.noArr = true) (hP : Pk st.H v yx [av] js) (hj : (nodupB (i :: js) && js.all fun j => Nat.blt j st.n) = true) (hh : HolesTo kx hs hs')
    (k : K ⟨st.l, (i, .mpt k v (mset xs kx yx) hs') :: killH js st.H, st.n⟩) : AOp P N X o K st :=
  aop_of fun Q fr w m ρ φ hc K' hK' => by
    obtain ⟨u, h1, h2⟩ := hc.ev hx
    obtain ⟨kv, h3, h4⟩ := hc.ev hy
    obtain ⟨vv, h5, h6⟩ := hc.ev hz
    simp only [Bool.and_eq_true, List.all_eq_true] at hj
    obtain ⟨hj1, hj2⟩ := hj
    have hnd := nodup_of hj1
    have hl : ∀ j ∈ js, j < st.n := fun j hj => by simpa using hj2 j hj
    obtain ⟨hv, hho, b, es, cl, fs, rfl, hρ, hf, hw, he, hkn⟩ := own_mpt hc h2 hH
    have hil : i < st.n := by rw [← hc.nρ]; exact (List.getElem?_eq_some_iff.1 hρ).1
    have hor : OR m v yx [vv] (js.flatMap fun j => φ.getD j []) := pk_or hc.objD hP (by simp only [RepL]; exact ⟨h6, trivial⟩)
    obtain ⟨es', cl', fs', g0, hr, he', hpm⟩ := run_mapUpdate3 hU hK hw he hkn (whole_rv hno h4) hv hor hh
    obtain ⟨hP1, hb'⟩ := put_setObj (o' := .map es' cl') hw
    have hbf := hc.before hnd (by intro j hj; rcases List.mem_cons.1 hj with rfl | hj; exact hil; exact hl j hj)
    rw [List.flatMap_cons, List.getD_eq_getElem?_getD, hf, Option.getD_some, List.cons_append, List.cons_append] at hbf
    have hpt := hbf.put hP1 hb' rfl
    have hsh : SH X.e { w with heap := w.heap.setIfInBounds b (.map es' cl') } m (((b, .map es' cl') :: fs'.flatten) ++ ((killF φ (i :: js)).flatten ++ X.F)) := by
      refine SH.tail (f := g0) (hpt.perm ?_)
      have h7 : (g0 ++ ((b, Obj.map es' cl') :: fs'.flatten)).Perm ((b, Obj.map es' cl') :: (fs.flatten ++ js.flatMap fun j => φ.getD j [])) := by
        refine List.perm_middle.trans (List.Perm.cons _ hpm.symm)
      have h8 := (h7.append_right ((killF φ (i :: js)).flatten ++ X.F)).symm
      simpa [List.append_assoc] using h8
    obtain ⟨l1, l2, l3⟩ := ent3_get he'
    refine op_skip (w' := { w with heap := w.heap.setIfInBounds b (.map es' cl') }) hd (fun ac ha => ?_) ?_ (dk_put hP1 hw rfl) ?_
    · rcases ho with ho | ho <;> simp only [execOp, ho, ha.eval h1, ha.eval h3, ha.eval h5, Sem.run_bind, hr] <;> rfl
    · refine hK' _ _ _ _ _ _ (hc.fall hnd hl hρ (o := .mpt _ v (mset xs kx yx) hs') ⟨hv, fun q hq => ?_, b, es', cl', fs', rfl, rfl, by simpa using l1, l2, mset_nodup _ _ hkn, l3⟩ hsh) k
      obtain ⟨z, n⟩ := q
      have hz : z ≠ kx := by rintro rfl; exact hh.2 n hq
      have := hho _ ((hh.1 z n hz).2 hq)
      exact ⟨this.1, fun h => this.2 (mset_keys_sub h)⟩
    · rcases ho with ho | ho <;> simp [nodef, ho]
end
end Go.Ab

set_option linter.unusedVariables false
set_option linter.unusedSimpArgs false
namespace Go.Ab
open Go.RowKit Go.Shelf Go.Proofs Go.Eng

/-! what is taken out -/
/-- A part's cells, and the roots that it leads to, from number n on. -/
def opn : (v : OT) → v.den → Nat → List AV × List AO
  | .dat t, x, _ => (expl t x, [])
  | .pair a b, x, n => ((opn a x.1 n).1 ++ (opn b x.2 (n + (opn a x.1 n).2.length)).1, (opn a x.1 n).2 ++ (opn b x.2 (n + (opn a x.1 n).2.length)).2)
  | .sl E e, x, n => match e, x with
    | .dat t, x => ([.osl n], [.sl E t x])
    | _, _ => ([.any], [])
  | .mp k e, x, n => match e, x with
    | .dat t, x => ([.map n], [.map k t x])
    | e, x => if e.node then ([.map n], [.mpt k e x []]) else ([.any], [])
  | .pt T e, x, n => ([.ptr n 0], .var T (opn e x (n + 1)).1 :: (opn e x (n + 1)).2)

/-- Roots, their handles, where they lie. -/
def Roots (m : Mem) (ρ : List Value) : List AO → List Value → List Frag → Prop
  | [], [], [] => True
  | o :: os, h :: hs, g :: gs => ORep m ρ o h g ∧ Roots m ρ os hs gs
  | _, _, _ => False
theorem Roots.mono {m : Mem} {ρ ρ' : List Value} (hρ : ∀ (i : Nat) (h : Value), ρ[i]? = some h → ρ'[i]? = some h) : ∀ {os : List AO} {hs : List Value} {gs : List Frag}, Roots m ρ os hs gs → Roots m ρ' os hs gs := by
  intro os
  induction os with
  | nil => intro hs gs h; cases hs with
    | nil => cases gs with
      | nil => trivial
      | cons => exact h.elim
    | cons => exact h.elim
  | cons o os ih => intro hs gs h; cases hs with
    | nil => exact h.elim
    | cons u hs => cases gs with
      | nil => exact h.elim
      | cons g gs => exact ⟨h.1.mono (Mem.le_refl _) hρ, ih h.2⟩
theorem Roots.app {m : Mem} {ρ : List Value} : ∀ {os os' : List AO} {hs hs' : List Value} {gs gs' : List Frag}, Roots m ρ os hs gs → Roots m ρ os' hs' gs' → Roots m ρ (os ++ os') (hs ++ hs') (gs ++ gs') := by
  intro os
  induction os with
  | nil => intro os' hs hs' gs gs' h k; cases hs with
    | nil => cases gs with
      | nil => exact k
      | cons => exact h.elim
    | cons => exact h.elim
  | cons o os ih => intro os' hs hs' gs gs' h k; cases hs with
    | nil => exact h.elim
    | cons u hs => cases gs with
      | nil => exact h.elim
      | cons g gs => exact ⟨h.1, ih h.2 k⟩
theorem Roots.get {m : Mem} {ρ : List Value} : ∀ {os : List AO} {hs : List Value} {gs : List Frag}, Roots m ρ os hs gs → os.length = hs.length ∧ gs.length = hs.length ∧ ∀ (q : Nat) (h : Value) (f : Frag), hs[q]? = some h → gs[q]? = some f → ∃ o, os[q]? = some o ∧ ORep m ρ o h f := by
  intro os
  induction os with
  | nil => intro hs gs h; cases hs with
    | nil => cases gs with
      | nil => exact ⟨rfl, rfl, fun q h f hq => by simp at hq⟩
      | cons => exact h.elim
    | cons => exact h.elim
  | cons o os ih => intro hs gs h; cases hs with
    | nil => exact h.elim
    | cons u hs => cases gs with
      | nil => exact h.elim
      | cons g gs =>
        obtain ⟨h1, h2, h3⟩ := ih h.2
        refine ⟨by simp [h1], by simp [h2], fun q h' f a b => ?_⟩
        cases q with
        | zero => simp at a b; subst a b; exact ⟨o, rfl, h.1⟩
        | succ q => simpa using h3 q h' f (by simpa using a) (by simpa using b)
theorem pre_apps {ρ hs : List Value} : ∀ (i : Nat) (u : Value), ρ[i]? = some u → (ρ ++ hs)[i]? = some u := by
  intro i u hi
  rw [List.getElem?_append_left (List.getElem?_eq_some_iff.1 hi).1]; exact hi
theorem sl_root {m : Mem} {ρ : List Value} {E : TypeId} {t : Ty} {x : List t.den} {cs : List Value} {f : Frag} (h : OR m (.sl E (.dat t)) x cs f) : ∃ u, cs = [u] ∧ u.oneCell' = true ∧ ORep m ρ (.sl E t x) u f := by
  obtain ⟨h0, ⟨g1, g2, g3⟩ | ⟨b, c, arr, us, fs, g1, g2, g3, g4, g5, g6, g7, g8, g9⟩⟩ := h
  · exact ⟨_, g2, rfl, h0, .inl ⟨g1, rfl, g3⟩⟩
  · have hfs : fs.flatten = [] := by
      rw [List.flatten_eq_nil_iff]
      intro g hg
      obtain ⟨i, hi⟩ := List.getElem?_of_mem hg
      have hl := (List.getElem?_eq_some_iff.1 hi).1
      exact (g9 i _ _ g (List.getElem?_eq_getElem (by omega)) (List.getElem?_eq_getElem (by omega)) hi).2
    refine ⟨_, g1, rfl, h0, .inr ⟨b, c, arr, us.flatten, rfl, by rw [g2, hfs], g3, g4, g5, ⟨us, g6, rfl, fun i y u hy hu => ?_⟩, g8⟩⟩
    have hl := (List.getElem?_eq_some_iff.1 hy).1
    exact (g9 i y u (fs[i]'(by omega)) hy hu (List.getElem?_eq_getElem _)).1
theorem map_root {m : Mem} {ρ : List Value} {k t : Ty} {x : List (k.den × t.den)} {cs : List Value} {f : Frag} (h : OR m (.mp k (.dat t)) x cs f) : ∃ u, cs = [u] ∧ u.oneCell' = true ∧ ORep m ρ (.map k t x) u f := by
  obtain ⟨b, es, cl, fs, g1, g2, g3, g4, g5, g6⟩ := h
  have hfs : fs.flatten = [] := by
    rw [List.flatten_eq_nil_iff]
    intro g hg
    obtain ⟨i, hi⟩ := List.getElem?_of_mem hg
    have hl := (List.getElem?_eq_some_iff.1 hi).1
    obtain ⟨_, us, _, h2⟩ := g6 i _ _ g (List.getElem?_eq_getElem (by omega)) (List.getElem?_eq_getElem (by omega)) hi
    exact h2.2
  refine ⟨_, g1, rfl, b, es, cl, rfl, by rw [g2, hfs], g3, g5, fun i p e hp he => ?_⟩
  have hl := (List.getElem?_eq_some_iff.1 hp).1
  obtain ⟨c1, us, c2, c3⟩ := g6 i p e (fs[i]'(by omega)) hp he (List.getElem?_eq_getElem _)
  refine ⟨c1, ?_⟩
  unfold RV
  cases ha : (OT.dat t).aggB with
  | true => rw [if_pos (show t.agg = true from ha)]; simp only [ha, if_true] at c2; exact ⟨us, c2, c3.1⟩
  | false => rw [if_neg (show ¬ t.agg = true from by have : t.agg = false := ha; simp [this])]; simp [ha] at c2; subst c2; exact c3.1
theorem mpt_root {m : Mem} {ρ : List Value} {k : Ty} {e : OT} {x : List (k.den × e.den)} {cs : List Value} {f : Frag} (hn : e.node = true) (h : OR m (.mp k e) x cs f) : ∃ u, cs = [u] ∧ u.oneCell' = true ∧ ORep m ρ (.mpt k e x []) u f := by
  obtain ⟨b, es, cl, fs, g1, g2, g3, g4, g5, g6⟩ := h
  refine ⟨_, g1, rfl, hn, fun q hq => by simp at hq, b, es, cl, fs, rfl, g2, g3, g4, g5, fun i p e' g a1 a2 a3 => ?_⟩
  obtain ⟨c1, us, c2, c3⟩ := g6 i p e' g a1 a2 a3
  have ha : e.aggB = false := by cases e <;> simp_all [OT.node, OT.aggB]
  simp [ha] at c2
  subst c2
  exact ⟨⟨c1, or_one hn c3⟩, fun n hn => by simp at hn, fun _ => c3⟩
theorem opn_rep {m : Mem} : ∀ {v : OT} {x : v.den} {cs : List Value} {f : Frag} {ρ : List Value}, OR m v x cs f → ∃ hs gs g0, f.Perm (g0 ++ gs.flatten) ∧ RepL m (ρ ++ hs) (opn v x ρ.length).1 cs ∧ Roots m (ρ ++ hs) (opn v x ρ.length).2 hs gs := by
  have one : ∀ {ρ : List Value} {a : AV} {u : Value}, RepA m ρ a u → RepL m ρ [a] [u] := fun h => by simp only [RepL]; exact ⟨h, trivial⟩
  intro v
  induction v with
  | dat t => intro x cs f ρ h; obtain ⟨h1, rfl⟩ := h; exact ⟨[], [], [], by simp, rc_expl h1, trivial⟩
  | pair a b iha ihb =>
    intro x cs f ρ h
    obtain ⟨c, d, g, l, rfl, rfl, h3, h4⟩ := h
    obtain ⟨hs1, gs1, g1, p1, r1, o1⟩ := iha (ρ := ρ) h3
    obtain ⟨hs2, gs2, g2, p2, r2, o2⟩ := ihb (ρ := ρ ++ hs1) h4
    have hl : (ρ ++ hs1).length = ρ.length + (opn a x.1 ρ.length).2.length := by rw [List.length_append, o1.get.1]
    rw [hl] at r2 o2
    rw [List.append_assoc] at r2 o2
    have hpre : ∀ (i : Nat) (u : Value), (ρ ++ hs1)[i]? = some u → (ρ ++ (hs1 ++ hs2))[i]? = some u := by rw [← List.append_assoc]; exact pre_apps
    refine ⟨hs1 ++ hs2, gs1 ++ gs2, g1 ++ g2, ?_, RepL.app (RepL.mono (Mem.le_refl _) hpre _ r1) r2, (o1.mono hpre).app o2⟩
    rw [List.flatten_append]
    refine (p1.append p2).trans ?_
    rw [List.append_assoc, List.append_assoc]
    refine List.Perm.append_left _ ?_
    exact List.perm_append_comm_assoc _ _ _
  | sl E e ih =>
    intro x cs f ρ h
    cases e with
    | dat t =>
      obtain ⟨u, rfl, h1, h2⟩ := sl_root (ρ := ρ ++ [(cs.head?).getD undef]) h
      exact ⟨[u], [f], [], by simp, one (by simp only [RepA]; exact ⟨by simp, h1⟩), by simpa using h2, trivial⟩
    | sl => obtain ⟨u, rfl⟩ : ∃ u, cs = [u] := by { obtain ⟨_, ⟨_, h1, _⟩ | ⟨b, c, _, _, _, h1, _⟩⟩ := h <;> exact ⟨_, h1⟩ }
            exact ⟨[], [], f, by simp, one (by simp only [RepA]), trivial⟩
    | mp => obtain ⟨u, rfl⟩ : ∃ u, cs = [u] := by { obtain ⟨_, ⟨_, h1, _⟩ | ⟨b, c, _, _, _, h1, _⟩⟩ := h <;> exact ⟨_, h1⟩ }
            exact ⟨[], [], f, by simp, one (by simp only [RepA]), trivial⟩
    | pt => obtain ⟨u, rfl⟩ : ∃ u, cs = [u] := by { obtain ⟨_, ⟨_, h1, _⟩ | ⟨b, c, _, _, _, h1, _⟩⟩ := h <;> exact ⟨_, h1⟩ }
            exact ⟨[], [], f, by simp, one (by simp only [RepA]), trivial⟩
    | pair => obtain ⟨u, rfl⟩ : ∃ u, cs = [u] := by { obtain ⟨_, ⟨_, h1, _⟩ | ⟨b, c, _, _, _, h1, _⟩⟩ := h <;> exact ⟨_, h1⟩ }
              exact ⟨[], [], f, by simp, one (by simp only [RepA]), trivial⟩
  | mp k e ih =>
    intro x cs f ρ h
    have key : ∀ (e : OT) (x : List (k.den × e.den)), OR m (.mp k e) x cs f → ∃ hs gs g0, f.Perm (g0 ++ gs.flatten) ∧ RepL m (ρ ++ hs) (if e.node then (([.map ρ.length], [.mpt k e x []]) : List AV × List AO) else ([.any], [])).1 cs ∧ Roots m (ρ ++ hs) (if e.node then (([.map ρ.length], [.mpt k e x []]) : List AV × List AO) else ([.any], [])).2 hs gs := by
      intro e x h
      cases hn : e.node with
      | true =>
        obtain ⟨u, rfl, h1, h2⟩ := mpt_root (ρ := ρ ++ [(cs.head?).getD undef]) hn h
        exact ⟨[u], [f], [], by simp, one (by simp only [RepA]; exact ⟨by simp, h1⟩), by simpa using h2, trivial⟩
      | false =>
        obtain ⟨b, es, cl, fs, rfl, _⟩ := h
        exact ⟨[], [], f, by simp, one (by simp only [RepA]), trivial⟩
    cases e with
    | dat t =>
      obtain ⟨u, rfl, h1, h2⟩ := map_root (ρ := ρ ++ [(cs.head?).getD undef]) h
      exact ⟨[u], [f], [], by simp, one (by simp only [RepA]; exact ⟨by simp, h1⟩), by simpa using h2, trivial⟩
    | sl E e => exact key _ x h
    | mp k' e => exact key _ x h
    | pt T e => exact key _ x h
    | pair a b => exact key _ x h
  | pt T e ih =>
    intro x cs f ρ h
    obtain ⟨b, us, g, rfl, rfl, h3, h4⟩ := h
    obtain ⟨hs, gs, g0, p1, r1, o1⟩ := ih (ρ := ρ ++ [.pointer (some ⟨b, 0, none⟩)]) h4
    rw [List.length_append, List.length_singleton, List.append_assoc] at r1
    rw [List.length_append, List.length_singleton, List.append_assoc] at o1
    refine ⟨.pointer (some ⟨b, 0, none⟩) :: hs, [(b, .cells us.toArray T (0, 0))] :: gs, g0, ?_, one ?_, ?_⟩
    · rw [List.flatten_cons]
      refine (p1.cons _).trans ?_
      exact List.perm_middle.symm
    · simp only [RepA]; exact ⟨b, by simp, rfl⟩
    · exact ⟨⟨b, us, rfl, rfl, r1, h3⟩, o1⟩
end Go.Ab

set_option linter.unusedVariables false
set_option linter.unusedSimpArgs false
namespace Go.Ab
open Go.RowKit Go.Shelf Go.Proofs Go.Eng

theorem mget_at {α β : Type} [DecidableEq α] : ∀ {x : List (α × β)} {z : α} {y : β}, mget x z = some y → ∃ i : Nat, x[i]? = some (z, y) ∧ ∀ j, j < i → (x[j]?).map (·.1) ≠ some z := by
  intro x
  induction x with
  | nil => intro z y h; simp [mget] at h
  | cons p x ih =>
    intro z y h
    simp only [mget] at h
    split at h
    · rename_i hz; cases h; exact ⟨0, by simp [hz], fun j hj => absurd hj (by omega)⟩
    · rename_i hz
      obtain ⟨i, h1, h2⟩ := ih h
      refine ⟨i + 1, by simpa using h1, fun j hj => ?_⟩
      cases j with
      | zero => simp; exact fun e => hz e.symm
      | succ j => simpa using h2 j (by omega)
theorem mset_same {α β : Type} [DecidableEq α] : ∀ {x : List (α × β)} {z : α} {y : β}, mget x z = some y → mset x z y = x := by
  intro x
  induction x with
  | nil => intro z y h; simp [mget] at h
  | cons p x ih =>
    intro z y h
    simp only [mget] at h
    split at h
    · rename_i hz; cases h; simp [mset, hz]
    · rename_i hz; simp [mset, hz, ih h]
theorem opn_head {m : Mem} {ρ : List Value} {v : OT} {x : v.den} {n : Nat} {u : Value} (hv : v.node = true) (hn : (opn v x n).2 ≠ []) (h : RepL m ρ (opn v x n).1 [u]) : ρ[n]? = some u := by
  cases v with
  | dat => simp [OT.node] at hv
  | pair => simp [OT.node] at hv
  | sl E e =>
    cases e with
    | dat t => simp only [opn, RepL, RepA] at h; exact h.1.1
    | _ => simp [opn] at hn
  | mp k e =>
    cases e with
    | dat t => simp only [opn, RepL, RepA] at h; exact h.1.1
    | pair => simp [opn, OT.node] at hn
    | sl => simp only [opn, OT.node, if_true, RepL, RepA] at h; exact h.1.1
    | mp => simp only [opn, OT.node, if_true, RepL, RepA] at h; exact h.1.1
    | pt => simp only [opn, OT.node, if_true, RepL, RepA] at h; exact h.1.1
  | pt T e =>
    simp only [opn, RepL, RepA] at h
    obtain ⟨⟨b, h1, h2⟩, _⟩ := h
    rw [h1, h2]

section
variable {P : Program} {N : Ev} {X : Cx} {Q : APost} {st : AS}

/-- An entry is taken out. -/
theorem wk_open {i : Nat} {k : Ty} {v : OT} [DecidableEq k.den] {xs : List (k.den × v.den)} {hs : List (k.den × Nat)} {kx : k.den} {yx : v.den} (os : List AO) (hi : Nat.blt i st.n = true) (hH : st.H.get i = .mpt k v xs hs) (hg : mget xs kx = some yx) (hn : ∀ n, (kx, n) ∉ hs) (ho : (opn v yx st.n).2 = os) (hne : os.isEmpty = false) :
    Wk X st ⟨st.l, (i, .mpt k v xs ((kx, st.n) :: hs)) :: (zipH st.n os ++ st.H), st.n + os.length⟩ := by
  intro fr w m ρ φ hc
  have hil : i < st.n := by simpa using hi
  obtain ⟨u, hu⟩ : ∃ u, ρ[i]? = some u := ⟨_, List.getElem?_eq_getElem (by rw [hc.nρ]; exact hil)⟩
  obtain ⟨f, hf, hor, hw⟩ := hc.obj hu
  rw [hH] at hor
  obtain ⟨hv, hho, b, es, cl, fs, rfl, rfl, h1, h2, h3, h4⟩ := hor
  have he := ent3_of (m := m) (ρ := ρ) h1 h2 h4
  obtain ⟨p, g1, g2⟩ := mget_at hg
  have hpl := (List.getElem?_eq_some_iff.1 g1).1
  have g3 : es.toList[p]? = some (es.toList[p]'(by omega)) := List.getElem?_eq_getElem _
  have g4 : fs[p]? = some (fs[p]'(by omega)) := List.getElem?_eq_getElem _
  have hE := h4 p _ _ _ g1 g3 g4
  have hOR := hE.2.2 hn
  obtain ⟨hds, gs, g0, p1, r1, o1⟩ := opn_rep (ρ := ρ) hOR
  rw [hc.nρ] at r1 o1
  have hne' : (opn v yx st.n).2 ≠ [] := by rw [ho]; intro e; rw [e] at hne; cases hne
  have hhead := opn_head hv hne' r1
  rw [ho] at o1
  obtain ⟨l1, l2, l3⟩ := o1.get
  obtain ⟨p2, p3⟩ := frag_split g4 []
  obtain ⟨q1, q2⟩ := frag_split hf ((b, .map es cl) :: (fs.set p []).flatten)
  have hsh : SH X.e w m ((φ.set i ((b, .map es cl) :: (fs.set p []).flatten)).flatten ++ gs.flatten ++ X.F) := by
    refine SH.tail (f := g0) ((hc.sh.perm ?_))
    rw [← List.append_assoc]
    refine List.Perm.append_right _ ?_
    refine q1.trans ?_
    have a1 : ((b, Obj.map es cl) :: fs.flatten).Perm ((b, Obj.map es cl) :: ((g0 ++ gs.flatten) ++ (fs.set p []).flatten)) := by
      refine List.Perm.cons _ (p2.trans ?_)
      refine (p1.append_right _).trans ?_
      refine List.Perm.append_left _ ?_
      rw [List.nil_append] at p3
      exact p3.symm
    refine (a1.append_right _).trans ?_
    have a2 : (g0 ++ ((φ.set i ((b, .map es cl) :: (fs.set p []).flatten)).flatten ++ gs.flatten)).Perm (g0 ++ ((((b, .map es cl) :: (fs.set p []).flatten) ++ (φ.eraseIdx i).flatten) ++ gs.flatten)) := List.Perm.append_left _ (q2.append_right _)
    refine List.Perm.trans ?_ a2.symm
    simp only [List.cons_append, List.append_assoc]
    refine List.Perm.trans ?_ List.perm_middle.symm
    refine List.Perm.cons _ (List.Perm.append_left _ ?_)
    refine List.perm_append_comm.trans ?_
    rw [List.append_assoc]
  have hre := Conc.re hc (Mem.le_refl m) (H' := (i, .mpt k v xs ((kx, st.n) :: hs)) :: (zipH st.n os ++ st.H)) (ρ2 := hds) (φ1 := φ.set i ((b, .map es cl) :: (fs.set p []).flatten)) (φ2 := gs) (w' := w) (by simp) l2 ?_ ?_ hsh
  · rw [show st.n + os.length = st.n + hds.length by rw [l1]]
    exact ⟨m, _, _, hre⟩
  · intro q h f hq hfq
    rw [AH.get_cons]
    by_cases e : i = q
    · subst e
      rw [if_pos rfl]
      rw [hu] at hq; cases hq
      rw [List.getElem?_set_self (by rw [hc.nφ]; exact hil)] at hfq
      cases hfq
      have hE3 : Ent3 m (ρ ++ hds) k v ((kx, st.n) :: hs) (mset xs kx yx) (es.toList.modify p fun e => e) (fs.set p []) := by
        refine ent3_set (hs := hs) ?_ (ent3_of h1 h2 fun i p e g a b c => (h4 i p e g a b c).mono (Mem.le_refl _) pre_apps) h3 (by rw [g1]; rfl) g3 g2 _ ⟨hE.1, fun n hn' => ⟨rfl, ?_⟩, fun hn' => absurd (List.mem_cons.2 (.inl rfl)) (hn' st.n)⟩
        · intro z n hz
          simp only [List.mem_cons, Prod.mk.injEq]
          exact ⟨fun h => .inr h, fun h => h.resolve_left fun e => hz e.1⟩
        · rcases List.mem_cons.1 hn' with e | e
          · rw [Prod.mk.injEq] at e; rw [e.2]; exact hhead
          · exact absurd e (hn n)
      rw [mset_same hg] at hE3
      have hid : (es.toList.modify p fun e => e) = es.toList := List.modify_id _ _
      rw [hid] at hE3
      obtain ⟨t1, t2, t3⟩ := ent3_get hE3
      refine ⟨hv, fun q hq => ?_, b, es, cl, _, rfl, rfl, t1, t2, h3, t3⟩
      rcases List.mem_cons.1 hq with rfl | hq
      · refine ⟨⟨_, hhead⟩, fun hz => absurd ?_ hz⟩
        exact List.mem_map.2 ⟨_, List.mem_of_getElem? g1, rfl⟩
      · exact (hho q hq).tr fun u hu => pre_apps _ _ hu
    · rw [if_neg e]
      rw [List.getElem?_set_ne e] at hfq
      have hqn : q < st.n := by rw [← hc.nρ]; exact (List.getElem?_eq_some_iff.1 hq).1
      have : AH.get (zipH st.n os ++ st.H) q = st.H.get q := by
        have key : ∀ (os : List AO) (n : Nat), q < n → AH.get (zipH n os ++ st.H) q = st.H.get q := by
          intro os
          induction os with
          | nil => intro n _; rfl
          | cons o os ih =>
            intro n hn
            rw [zipH, List.cons_append, AH.get_cons, if_neg (by omega)]
            exact ih (n + 1) (by omega)
        exact key os _ hqn
      rw [this]
      exact (hc.objs q h f hq hfq).mono (Mem.le_refl _) pre_apps
  · intro q h f hq hfq
    obtain ⟨o, ho1, ho2⟩ := l3 q h f hq hfq
    rw [AH.get_cons, if_neg (by omega)]
    have key : ∀ (os : List AO) (n q : Nat) (o : AO), os[q]? = some o → AH.get (zipH n os ++ st.H) (n + q) = o := by
      intro os
      induction os with
      | nil => intro n q o h; simp at h
      | cons a os ih =>
        intro n q o h
        rw [zipH, List.cons_append, AH.get_cons]
        cases q with
        | zero => simp at h; subst h; simp
        | succ q =>
          rw [if_neg (by omega)]
          have := ih (n + 1) q o (by simpa using h)
          rw [show n + (q + 1) = n + 1 + q by omega]; exact this
    rw [key os _ _ _ ho1]; exact ho2
/-- A slice is taken out: nil where there is none. -/
theorem wk_open_sl {i E : Nat} {k t : Ty} [DecidableEq k.den] {xs : List (k.den × List t.den)} {hs : List (k.den × Nat)} {kx : k.den} (hi : Nat.blt i st.n = true) (hH : st.H.get i = .mpt k (.sl E (.dat t)) xs hs) (hn : ∀ n, (kx, n) ∉ hs) :
    Wk X st ⟨st.l, (i, .mpt k (.sl E (.dat t)) xs ((kx, st.n) :: hs)) :: (st.n, .sl E t ((mget xs kx).getD [])) :: st.H, st.n + 1⟩ := by
  cases hg : mget xs kx with
  | some y => exact wk_open (v := .sl E (.dat t)) [.sl E t y] hi hH hg hn rfl rfl
  | none =>
    intro fr w m ρ φ hc
    have hil : i < st.n := by simpa using hi
    have hz := mget_none_iff.1 hg
    have hre := Conc.re hc (Mem.le_refl m) (H' := (i, .mpt k (.sl E (.dat t)) xs ((kx, st.n) :: hs)) :: (st.n, .sl E t []) :: st.H) (ρ2 := [.slice none 0 0]) (φ1 := φ) (φ2 := [[]]) (w' := w) rfl rfl ?_ ?_ (by simpa using hc.sh)
    · exact ⟨m, _, _, hre⟩
    · intro q h f hq hfq
      rw [AH.get_cons]
      by_cases e : i = q
      · subst e
        rw [if_pos rfl]
        have ho := hc.objs i h f hq hfq
        rw [hH] at ho
        obtain ⟨hv, hho, b, es, cl, fs, rfl, rfl, h1, h2, h3, h4⟩ := ho
        refine ⟨hv, fun q hq => ?_, b, es, cl, fs, rfl, rfl, h1, h2, h3, fun i p e g a1 a2 a3 => ?_⟩
        · rcases List.mem_cons.1 hq with rfl | hq
          · have : (ρ ++ [Value.slice none 0 0])[st.n]? = some (.slice none 0 0) := by rw [← hc.nρ]; simp
            exact ⟨⟨_, this⟩, fun _ => this⟩
          · exact (hho q hq).tr fun u hu => pre_apps _ _ hu
        · refine ent_hs (fun n => ?_) ((h4 i p e g a1 a2 a3).mono (Mem.le_refl _) pre_apps)
          have : p.1 ≠ kx := by rintro rfl; exact hz (List.mem_map.2 ⟨p, List.mem_of_getElem? a1, rfl⟩)
          simp only [List.mem_cons, Prod.mk.injEq]
          exact ⟨fun h => .inr h, fun h => h.resolve_left fun e => this e.1⟩
      · rw [if_neg e, AH.get_cons]
        have hqn : q < st.n := by rw [← hc.nρ]; exact (List.getElem?_eq_some_iff.1 hq).1
        rw [if_neg (by omega)]
        exact (hc.objs q h f hq hfq).mono (Mem.le_refl _) pre_apps
    · intro q h f hq hfq
      cases q with
      | succ q => simp at hq
      | zero =>
        simp at hq hfq
        subst hq hfq
        rw [AH.get_cons, if_neg (by omega), AH.get_cons, if_pos (by omega)]
        exact ⟨by simp, .inl ⟨rfl, rfl, rfl⟩⟩
/-- A map of own slices is read alone from now on, but for its keys. -/
theorem wk_frzM {i E : Nat} {k t : Ty} {xs : List (k.den × List t.den)} (hi : Nat.blt i st.n = true) (hH : st.H.get i = .mpt k (.sl E (.dat t)) xs []) : Wk X st (st.upd i (.map k (.slice t) xs)) := by
  intro fr w m ρ φ hc
  have hil : i < st.n := by simpa using hi
  obtain ⟨u, hu⟩ : ∃ u, ρ[i]? = some u := ⟨_, List.getElem?_eq_getElem (by rw [hc.nρ]; exact hil)⟩
  obtain ⟨f, hf, hor, hw⟩ := hc.obj hu
  rw [hH] at hor
  obtain ⟨hv, hho, b, es, cl, fs, rfl, rfl, h1, h2, h3, h4⟩ := hor
  have hfr := hc.front hf
  have hpm : (((b, Obj.map es cl) :: fs.flatten) ++ ((φ.eraseIdx i).flatten ++ X.F)).Perm (fs.flatten ++ ([(b, Obj.map es cl)] ++ ((φ.eraseIdx i).flatten ++ X.F))) := by
    rw [List.cons_append, List.singleton_append]; exact List.perm_middle.symm
  have hsh := hfr.perm hpm
  have hnd := hsh.nd
  rw [List.map_append, List.nodup_append] at hnd
  have hmem : ∀ p ∈ fs.flatten, (m.add fs.flatten) p.1 = some p.2 := fun p hp => add_get hnd.1 hp (hsh.dis p (by simp only [List.mem_append]; exact .inl hp))
  have hle := Mem.le_add m fs.flatten
  have hc' : Conc X st fr w (m.add fs.flatten) ρ (φ.set i [(b, .map es cl)]) → True := fun _ => trivial
  refine ⟨m.add fs.flatten, ρ, φ.set i [(b, .map es cl)], hc.mle.trans hle, hc.pre, hc.nρ, by simp [AS.upd, hc.nφ], fun q a ha => ?_, fun q h f hq hfq => ?_, ?_⟩
  · obtain ⟨v, g1, g2⟩ := hc.slots q a ha
    exact ⟨v, g1, RepA.mono hle (fun _ _ h => h) a g2⟩
  · simp only [AS.upd, AH.get_cons]
    by_cases e : i = q
    · subst e
      rw [if_pos rfl]
      rw [hu] at hq; cases hq
      rw [List.getElem?_set_self (by rw [hc.nφ]; exact hil)] at hfq
      cases hfq
      refine ⟨b, es, cl, rfl, rfl, h1, h3, fun j p e hp he => ?_⟩
      have hjl := (List.getElem?_eq_some_iff.1 hp).1
      have hg : fs[j]? = some (fs[j]'(by omega)) := List.getElem?_eq_getElem _
      have hE := h4 j p e _ hp he hg
      refine ⟨hE.1.1.mono hle, ?_⟩
      obtain ⟨u, hu1, hu2, hu3⟩ := sl_root (ρ := ρ) (hE.2.2 fun n hn => by simp at hn)
      cases hu1
      unfold RV
      simp only [Ty.agg, Bool.false_eq_true, if_false]
      refine slrep_rc hle hu3 fun q hq => hmem q ?_
      exact List.mem_flatten.2 ⟨_, List.mem_of_getElem? hg, hq⟩
    · rw [if_neg e]
      rw [List.getElem?_set_ne e] at hfq
      exact (hc.objs q h f hq hfq).mono hle (fun _ _ h => h)
  · refine (hsh.frz).perm ?_
    rw [← List.append_assoc]
    exact ((frag_split hf _).2.append_right _).symm
end
end Go.Ab

set_option linter.unusedVariables false
set_option linter.unusedSimpArgs false
namespace Go.Ab
open Go.RowKit Go.Shelf Go.Proofs Go.Eng

/-! regions whose order is drawn, in which values are read ahead of a turn or behind it -/
section
variable {P : Program} {N : Ev} {Q : Post} {l : Fr} {w : World}

theorem count_set {listed : Array Bool} {i fuel : Nat} (hun : listed[i]? = some false) (hf : (listed.toList.filter (! ·)).length ≤ fuel + 1) : ((listed.setIfInBounds i true).toList.filter (! ·)).length ≤ fuel := by
  have hlt := (Array.getElem?_eq_some_iff.1 hun).1
  have hlt' : i < listed.toList.length := by simpa using hlt
  have e1 : (listed.setIfInBounds i true).toList = listed.toList.set i true := by simp
  rw [e1]
  have e2 : listed.toList = listed.toList.take i ++ false :: listed.toList.drop (i + 1) := by
    have hg : listed.toList[i] = false := by
      have := hun
      rw [Array.getElem?_eq_getElem hlt] at this
      simpa using this
    rw [← hg, ← List.drop_eq_getElem_cons hlt']; simp
  have e3 : listed.toList.set i true = listed.toList.take i ++ true :: listed.toList.drop (i + 1) := by
    rw [List.set_eq_take_append_cons_drop, if_pos hlt']
  rw [e3]
  rw [e2] at hf
  simp only [List.filter_append, List.length_append, List.filter_cons, Bool.not_false, Bool.not_true, if_true, List.length_cons] at hf ⊢
  simp at hf ⊢
  omega

/-- What is known of the values that are read late. -/
def LateA (ops : List Oper) (fl : List Nat) (Ψ : Nat → Value → Prop) (listed : Array Bool) (a : Act) : Prop :=
  ∀ j ∈ fl, listed[j]? = some true → ∀ o, ops[j]? = some o → ∃ d v, o.dst = some d ∧ a.tmps[d]? = some v ∧ Ψ j v
structure LateOk (P : Program) (N : Ev) (ops : List Oper) (m : Nat) (fl : List Nat) (Ψ : Nat → Value → Prop) (Q : Post) (l2 : Fr) (W2 : World) : Prop where
  run : ∀ j ∈ fl, ∀ o, ops[j]? = some o → o.guard = none ∧ ∃ d, o.dst = some d ∧ d < N.n ∧ l2.look d = none ∧ (∀ j' ∈ fl, ∀ o', ops[j']? = some o' → o'.dst = some d → j' = j) ∧
    ∀ W, Below W2.heap.size W2 W → OpW P N o (fun l' W' => (∃ v, l'.look d = some v ∧ Ψ j v) ∧ Below W.heap.size W W') Q l2 W

theorem late_any {ops : List Oper} {m : Nat} (hml : m < ops.length) (hch : Consec m ops) (hback : ∀ (i : Nat) (o : Oper), ops[i]? = some o → ∀ e ∈ o.after, Region.binds .any e = true → e.on < i) {fl : List Nat} (hfl : ∀ j ∈ fl, j < m) {Ψ : Nat → Value → Prop} {l2 : Fr} {W2 : World}
    (hob : LateOk P N ops m fl Ψ Q l2 W2) (hnx : ∀ j ∈ fl, ∃ o, ops[m + 1]? = some o ∧ ∃ e ∈ o.after, Region.binds .any e = true ∧ e.on = j)
    (hfin : ∀ a W, Below W2.heap.size W2 W → Holds N l2 a → Eng.Good N a W → (∀ j ∈ fl, ∀ o, ops[j]? = some o → ∃ d v, o.dst = some d ∧ a.tmps[d]? = some v ∧ Ψ j v) → wpListIn (FW N.ro) 0 P ops.toArray (up N Q) (ops.drop (m + 1)) a W) :
    ∀ (fuel : Nat) (listed : Array Bool) (a : Act) (W : World), Below W2.heap.size W2 W → Holds N l2 a → Eng.Good N a W → LateA ops fl Ψ listed a → listed.size = ops.length → (∀ j, j ≤ m → j ∉ fl → listed[j]? = some true) → (∀ j, m < j → j < ops.length → listed[j]? = some false) → (listed.toList.filter (! ·)).length ≤ fuel →
      wpAnyIn (FW N.ro) 0 P .any ops.toArray (up N Q) fuel listed a W := by
  intro fuel
  have start : ∀ (fuel : Nat) (listed : Array Bool) (a : Act) (W : World), Below W2.heap.size W2 W → Holds N l2 a → Eng.Good N a W → LateA ops fl Ψ listed a → listed.size = ops.length → (∀ j, j ≤ m → listed[j]? = some true) → (∀ j, m < j → j < ops.length → listed[j]? = some false) → (listed.toList.filter (! ·)).length ≤ fuel →
      wpAnyIn (FW N.ro) 0 P .any ops.toArray (up N Q) fuel listed a W := by
    intro fuel listed a W h1 h2 h3 h4 hs hA hB hf
    have hl : ∀ j, j < ops.length → listed[j]? = some (decide (j < m + 1)) := by
      intro j hj
      by_cases h : j ≤ m
      · rw [hA j h]; simp; omega
      · rw [hB j (by omega) hj]; simp; omega
    have hcnt : ops.length - (m + 1) ≤ (listed.toList.filter (! ·)).length := by
      have e : listed.toList = listed.toList.take (m + 1) ++ listed.toList.drop (m + 1) := (List.take_append_drop _ _).symm
      rw [e, List.filter_append, List.length_append]
      have e2 : (listed.toList.drop (m + 1)).filter (! ·) = listed.toList.drop (m + 1) := by
        rw [List.filter_eq_self]
        intro x hx
        obtain ⟨j, hj, rfl⟩ := List.getElem_of_mem hx
        simp only [List.length_drop, Array.length_toList] at hj
        have := hB (m + 1 + j) (by omega) (by omega)
        rw [Array.getElem?_eq_getElem (by omega)] at this
        simp only [Option.some.injEq] at this
        simp [this]
      rw [e2]; simp; omega
    refine tail_any2 hch hback fuel (m + 1) listed a W (by omega) (by omega) (by omega) hs hl (hfin a W h1 h2 h3 fun j hj o ho => h4 j hj (hA j (by have := hfl j hj; omega)) o ho)
  induction fuel with
  | zero =>
    intro listed a W h1 h2 h3 h4 hs hA hB hf
    have hnil : ∀ i, i < ops.length → listed[i]? = some true := by
      intro i hi
      have hfl : listed.toList.filter (! ·) = [] := List.eq_nil_of_length_eq_zero (by omega)
      rw [List.filter_eq_nil_iff] at hfl
      have hlt : i < listed.size := by omega
      have hm := hfl listed[i] (by simp)
      rw [Array.getElem?_eq_getElem hlt]
      simpa using hm
    exact start 0 listed a W h1 h2 h3 h4 hs (fun j hj => hnil j (by omega)) hB hf
  | succ fuel ih =>
    intro listed a W h1 h2 h3 h4 hs hA hB hf
    by_cases hall : ∀ i, i ≤ m → listed[i]? = some true
    · exact start (fuel + 1) listed a W h1 h2 h3 h4 hs hall hB hf
    · refine ⟨fun hr => ?_, ?_⟩
      · exfalso
        apply hall
        intro i
        induction i using Nat.strongRecOn with
        | _ i ihi =>
          intro him
          rcases hli : listed[i]? with _ | b
          · simp at hli; omega
          · cases b with
            | true => rfl
            | false =>
              exfalso
              have hi : i < ops.length := by omega
              have : i ∈ Region.ready .any ops.toArray listed := by
                simp only [Region.ready, List.mem_filter, List.mem_range, List.size_toArray]
                refine ⟨hi, ?_⟩
                simp only [Array.getD_eq_getD_getElem?, hli, Option.getD_some, Bool.not_false, Bool.true_and]
                have ho0 : ops[i]? = some (ops[i]'hi) := List.getElem?_eq_getElem hi
                have ho : ops.toArray[i]? = some (ops[i]'hi) := by simp
                simp only [ho, Option.map_some, Option.getD_some, Array.all_eq_true']
                intro e he
                by_cases hb : Region.binds .any e = true
                · have hlt := hback i _ ho0 e he hb
                  simp only [hb, Bool.not_true, Bool.false_or]
                  rw [ihi e.on hlt (by omega)]; rfl
                · simp [hb]
              rw [hr] at this
              cases this
      · intro i hi
        simp only [Region.ready, List.mem_filter, List.mem_range, List.size_toArray] at hi
        obtain ⟨hlt, hi⟩ := hi
        rw [Bool.and_eq_true] at hi
        obtain ⟨hun, hrd⟩ := hi
        have ho : ops[i]? = some (ops[i]'hlt) := List.getElem?_eq_getElem hlt
        have ho' : ops.toArray[i]? = some (ops[i]'hlt) := by simp
        have hrd' : ∀ e ∈ (ops[i]'hlt).after, Region.binds .any e = true → listed[e.on]? = some true := by
          intro e he hb
          rw [ho'] at hrd
          simp only [Option.map_some, Option.getD_some, Array.all_eq_true'] at hrd
          have := hrd e he
          simp only [hb, Bool.not_true, Bool.false_or] at this
          rcases hlj : listed[e.on]? with _ | b
          · simp [Array.getD_eq_getD_getElem?, hlj] at this
          · simp [Array.getD_eq_getD_getElem?, hlj] at this; rw [this]
        have hun' : listed[i]? = some false := by
          have hlt' : i < listed.size := by omega
          rw [Array.getElem?_eq_getElem hlt']
          simp only [Array.getD_eq_getD_getElem?, Array.getElem?_eq_getElem hlt', Option.getD_some] at hun
          simpa using hun
        have him : i < m ∧ i ∈ fl := by
          rcases Nat.lt_or_ge m i with h | h
          · exfalso
            obtain ⟨e, he, hb, hon⟩ := hch i _ h ho
            have h5 := hrd' e he hb
            rw [hon] at h5
            have him : i = m + 1 := by
              rcases Nat.lt_or_ge m (i - 1) with h6 | h6
              · rw [hB (i - 1) h6 (by omega)] at h5; cases h5
              · omega
            subst him
            apply hall
            intro j hj
            by_cases hjf : j ∈ fl
            · obtain ⟨o', ho2, e', he', hb', hon'⟩ := hnx j hjf
              rw [ho] at ho2; cases ho2
              rw [← hon']; exact hrd' e' he' hb'
            · exact hA j hj hjf
          · have hif : i ∈ fl := by
              apply Classical.byContradiction
              intro hc
              rw [hA i h hc] at hun'; cases hun'
            exact ⟨hfl i hif, hif⟩
        obtain ⟨hgu, d, hd, hdN, hd2, huq, hop⟩ := hob.run i him.2 _ ho
        have hop := hop W h1
        unfold wpOpIn
        rw [ho']
        simp only []
        rw [if_pos (by simp [Region.wanted, hgu])]
        refine Oper.wpIn_mono ?_ (Oper.wpIn_frame (hop a h2 h3))
        rintro a' W' ⟨⟨l₁, hl₁, hgd, ⟨v, hv1, hv2⟩, hBW⟩, u, hu⟩
        have hget : ∀ t, d ≠ t → a'.tmps[t]? = a.tmps[t]? := by
          intro t hne
          rw [hu, hd]
          simp only [Act.put, Array.getElem?_setIfInBounds_ne hne]
        refine ih _ a' W' (sr_below.trans _ _ _ h1 hBW) ⟨?_, ?_⟩ hgd ?_ (by simp [hs]) ?_ ?_ (count_set hun' hf)
        · rw [hu, hd]; simp [Act.put, h2.size]
        · intro t x htx
          rw [hget t (by rintro rfl; rw [hd2] at htx; cases htx)]
          exact h2.slot t x htx
        · intro j hj hlj o' ho2
          by_cases e : i = j
          · subst e
            rw [ho] at ho2; cases ho2
            exact ⟨d, v, hd, hl₁.slot _ _ hv1, hv2⟩
          · rw [Array.getElem?_setIfInBounds_ne e] at hlj
            obtain ⟨d', v', q1, q2, q3⟩ := h4 j hj hlj o' ho2
            refine ⟨d', v', q1, ?_, q3⟩
            rw [hget d' (by rintro rfl; exact e (huq j hj o' ho2 q1).symm)]
            exact q2
        · intro j hj hjf
          have : i ≠ j := by rintro rfl; exact hjf him.2
          rw [Array.getElem?_setIfInBounds_ne this]
          exact hA j hj hjf
        · intro j hj hjl
          rw [Array.getElem?_setIfInBounds_ne (by omega)]
          exact hB j hj hjl
end
end Go.Ab

set_option linter.unusedVariables false
set_option linter.unusedSimpArgs false
namespace Go.Ab
open Go.RowKit Go.Shelf Go.Proofs Go.Eng

/-- Of each operation but the late ones one that waits for it, towards the turn. -/
def nextL (m : Nat) (ops : List Oper) (fl nx : List Nat) : Bool := (nx.zipIdx).all (fun (q, j) => memB j fl || (Nat.blt j q && Nat.ble q m && !memB q fl && (match ops[q]? with
  | some o => o.after.toList.any fun e => Region.binds .any e && Nat.beq e.on j
  | none => false))) && Nat.beq nx.length m
theorem nextL_all {m : Nat} {ops : List Oper} {fl nx : List Nat} (h : nextL m ops fl nx = true) {listed : Array Bool} (hcl : Shut ops listed) {o : Oper} (ho : ops[m]? = some o) (hrd : ∀ e ∈ o.after, Region.binds .any e = true → listed[e.on]? = some true) :
    ∀ j, j < m → j ∉ fl → listed[j]? = some true := by
  simp only [nextL, Bool.and_eq_true, List.all_eq_true] at h
  obtain ⟨h1, h2⟩ := h
  have h2 := Nat.eq_of_beq_eq_true h2
  have key : ∀ d j, m - j ≤ d → j < m → j ∉ fl → listed[j]? = some true := by
    intro d
    induction d with
    | zero => intro j h1 h2; omega
    | succ d ih =>
      intro j hd hj hjf
      obtain ⟨q, hq⟩ : ∃ q, nx[j]? = some q := ⟨_, List.getElem?_eq_getElem (by omega)⟩
      have h3 := h1 (q, j) (by rw [List.mem_zipIdx_iff_getElem?]; simpa using hq)
      simp only [Bool.or_eq_true, Bool.and_eq_true, Nat.blt_eq] at h3
      rcases h3 with h3 | ⟨⟨⟨h4, h5⟩, h7⟩, h6⟩
      · exact absurd (memB_iff.1 h3) hjf
      · have h5 := Nat.le_of_ble_eq_true h5
        have h7 : q ∉ fl := fun hc => by rw [memB_iff.2 hc] at h7; cases h7
        split at h6
        · rename_i o' ho'
          rw [List.any_eq_true] at h6
          obtain ⟨e, he, hb⟩ := h6
          simp only [Bool.and_eq_true] at hb
          have hon := Nat.eq_of_beq_eq_true hb.2
          rw [← hon]
          by_cases hqm : q = m
          · subst hqm
            rw [ho] at ho'; cases ho'
            exact hrd e (Array.mem_toList_iff.1 he) hb.1
          · exact hcl q o' ho' (ih q (by omega) (by omega) h7) e (Array.mem_toList_iff.1 he) hb.1
        · cases h6
  exact fun j hj hjf => key m j (by omega) hj hjf

section
variable {P : Program} {N : Ev} {Q : Post} {l : Fr} {w : World}
theorem draw_late {ops : List Oper} {m : Nat} (hml : m < ops.length) {Φ : List VP} {dep : List (List Nat)} {lb : Fr} (hok : drawOk N.n (ops.take m) dep lb = true) (hch : Consec m ops) (hback : ∀ (i : Nat) (o : Oper), ops[i]? = some o → ∀ e ∈ o.after, Region.binds .any e = true → e.on < i)
    {fl nx : List Nat} (hfl : ∀ j ∈ fl, j < m) (hnx : nextL m ops fl nx = true) (hΦ : Φ.length = m) (hmono : Monos (fun w W => Below w.heap.size w W) Φ) (hob : Obs P N (fun w W => Below w.heap.size w W) (ops.take m) Φ Q lb w (ops.take m) Φ dep)
    {live : List Nat} (hlive : ∀ j ∈ live, j < m ∧ j ∉ fl) {op : Oper} (hp : ops[m]? = some op) (hgu : op.guard = none) (hdp : ∀ j ∈ fl, ∀ o, ops[j]? = some o → ∃ d, o.dst = some d ∧ op.dst ≠ some d) {Ψ : Nat → Value → Prop} (hΨ : ∀ j ∈ fl, ∀ φ, Φ[j]? = some φ → ∀ v W, φ v W → Ψ j v) {R : Fr → World → Prop}
    (hrun : ∀ W, Below w.heap.size w W → Gather (depAt (ops.take m) Φ live) lb W fun l' => OpW P N op R Q l' W)
    (hnx2 : ∀ j ∈ fl, ∃ o, ops[m + 1]? = some o ∧ ∃ e ∈ o.after, Region.binds .any e = true ∧ e.on = j)
    (hR : ∀ l2 W2, R l2 W2 → LateOk P N ops m fl Ψ Q l2 W2 ∧ ∀ a W, Below W2.heap.size W2 W → Holds N l2 a → Eng.Good N a W → (∀ j ∈ fl, ∀ o, ops[j]? = some o → ∃ d v, o.dst = some d ∧ a.tmps[d]? = some v ∧ Ψ j v) → wpListIn (FW N.ro) 0 P ops.toArray (up N Q) (ops.drop (m + 1)) a W) :
    ∀ (fuel : Nat) (listed : Array Bool) (a : Act) (W : World), Mid N (fun w W => Below w.heap.size w W) (ops.take m) Φ lb w listed a W → listed.size = ops.length → Shut ops listed → (∀ j, m ≤ j → j < ops.length → listed[j]? = some false) → (listed.toList.filter (! ·)).length ≤ fuel →
      wpAnyIn (FW N.ro) 0 P .any ops.toArray (up N Q) fuel listed a W := by
  have hlen : (ops.take m).length = m := by simp; omega
  have htk : ∀ (k : Nat) (o : Oper), (ops.take m)[k]? = some o → ops.toArray[k]? = some o := by
    intro k o h
    rw [List.getElem?_take] at h
    split at h
    · simpa using h
    · cases h
  intro fuel
  induction fuel with
  | zero =>
    intro listed a W hmid hs hcl hB hf
    exfalso
    have hfl : listed.toList.filter (! ·) = [] := List.eq_nil_of_length_eq_zero (by omega)
    rw [List.filter_eq_nil_iff] at hfl
    have hlt : m < listed.size := by omega
    have hm := hfl listed[m] (by simp)
    have := hB m (Nat.le_refl _) hml
    rw [Array.getElem?_eq_getElem hlt] at this
    simp only [Option.some.injEq] at this
    rw [this] at hm; simp at hm
  | succ fuel ih =>
    intro listed a W hmid hs hcl hB hf
    refine ⟨fun hr => ?_, ?_⟩
    · exfalso
      have hall : ∀ i, i ≤ m → listed[i]? = some true := by
        intro i
        induction i using Nat.strongRecOn with
        | _ i ihi =>
          intro him
          rcases hli : listed[i]? with _ | b
          · simp at hli; omega
          · cases b with
            | true => rfl
            | false =>
              exfalso
              have hi : i < ops.length := by omega
              have : i ∈ Region.ready .any ops.toArray listed := by
                simp only [Region.ready, List.mem_filter, List.mem_range, List.size_toArray]
                refine ⟨hi, ?_⟩
                simp only [Array.getD_eq_getD_getElem?, hli, Option.getD_some, Bool.not_false, Bool.true_and]
                have ho0 : ops[i]? = some (ops[i]'hi) := List.getElem?_eq_getElem hi
                have ho : ops.toArray[i]? = some (ops[i]'hi) := by simp
                simp only [ho, Option.map_some, Option.getD_some, Array.all_eq_true']
                intro e he
                by_cases hb : Region.binds .any e = true
                · have hlt := hback i _ ho0 e he hb
                  simp only [hb, Bool.not_true, Bool.false_or]
                  rw [ihi e.on hlt (by omega)]; rfl
                · simp [hb]
              rw [hr] at this
              cases this
      have h1 := hall m (Nat.le_refl _)
      rw [hB m (Nat.le_refl _) hml] at h1; cases h1
    · intro i hi
      simp only [Region.ready, List.mem_filter, List.mem_range, List.size_toArray] at hi
      obtain ⟨hlt, hi⟩ := hi
      rw [Bool.and_eq_true] at hi
      obtain ⟨hun, hrd⟩ := hi
      have ho : ops[i]? = some (ops[i]'hlt) := List.getElem?_eq_getElem hlt
      have ho' : ops.toArray[i]? = some (ops[i]'hlt) := by simp
      have hrd' : ∀ e ∈ (ops[i]'hlt).after, Region.binds .any e = true → listed[e.on]? = some true := by
        intro e he hb
        rw [ho'] at hrd
        simp only [Option.map_some, Option.getD_some, Array.all_eq_true'] at hrd
        have := hrd e he
        simp only [hb, Bool.not_true, Bool.false_or] at this
        rcases hlj : listed[e.on]? with _ | b
        · simp [Array.getD_eq_getD_getElem?, hlj] at this
        · simp [Array.getD_eq_getD_getElem?, hlj] at this; rw [this]
      have hun' : listed[i]? = some false := by
        have hlt' : i < listed.size := by omega
        rw [Array.getElem?_eq_getElem hlt']
        simp only [Array.getD_eq_getD_getElem?, Array.getElem?_eq_getElem hlt', Option.getD_some] at hun
        simpa using hun
      have hcount := count_set hun' hf
      rcases Nat.lt_trichotomy i m with him | him | him
      · have hot : (ops.take m)[i]? = some (ops[i]'hlt) := by rw [List.getElem?_take, if_pos him]; exact ho
        refine mid_step sr_below hok (by rw [hlen]; exact hΦ) hmono hob hmid hot hrd' (fun a' W' hm' => ih _ a' W' hm' (by simp [hs]) (shut_set hcl hs ho hrd') ?_ hcount) htk
        intro j hj hjl
        rw [Array.getElem?_setIfInBounds_ne (by omega)]
        exact hB j hj hjl
      · subst him
        rw [ho] at hp
        cases hp
        have hnf := nextL_all hnx hcl ho hrd'
        have hdeps : ∀ p ∈ depAt (ops.take i) Φ live, toldP p a W := by
          intro p hp
          simp only [depAt, List.mem_map] at hp
          obtain ⟨j, hjm, rfl⟩ := hp
          obtain ⟨hj1, hj2⟩ := hlive j hjm
          have hoj : (ops.take i)[j]? = some ((ops.take i)[j]'(by omega)) := List.getElem?_eq_getElem (by omega)
          have hφj : Φ[j]? = some (Φ[j]'(by omega)) := List.getElem?_eq_getElem (by omega)
          exact told_dep hoj hφj (hmid.done j _ _ hoj hφj (hnf j hj1 hj2))
        obtain ⟨l', hl', hG⟩ := Gather.use (hrun W hmid.below) hmid.base hdeps
        unfold wpOpIn
        rw [ho']
        simp only []
        rw [if_pos (by simp [Region.wanted, hgu])]
        refine Oper.wpIn_mono ?_ (Oper.wpIn_frame (hG a hl' hmid.good))
        rintro a' W' ⟨⟨l₁, hl₁, hgd, hr⟩, u, hu⟩
        obtain ⟨q1, q2⟩ := hR l₁ W' hr
        refine late_any hml hch hback hfl q1 hnx2 q2 fuel _ a' W' (sr_below.refl _) hl₁ hgd ?_ (by simp [hs]) ?_ ?_ hcount
        · intro j hj hlj o hoj
          have hji : i ≠ j := by have := hfl j hj; omega
          rw [Array.getElem?_setIfInBounds_ne hji] at hlj
          obtain ⟨d, hd, hne⟩ := hdp j hj o hoj
          have hjl := hfl j hj
          have hot : (ops.take i)[j]? = some o := by rw [List.getElem?_take, if_pos hjl]; exact hoj
          have hφj : Φ[j]? = some (Φ[j]'(by omega)) := List.getElem?_eq_getElem (by omega)
          have hdn := hmid.done j o _ hot hφj hlj
          unfold toldA at hdn
          rw [hd] at hdn
          obtain ⟨v, hv, hφv⟩ := hdn
          refine ⟨d, v, hd, ?_, hΨ j hj _ hφj v W hφv⟩
          rw [hu]
          cases hx : (ops[i]'hlt).dst with
          | none => exact hv
          | some d' =>
            rw [hx] at hne
            simp only [Act.put, Array.getElem?_setIfInBounds_ne (fun e : d' = d => hne (by rw [e]))]
            exact hv
        · intro j hj hjf
          by_cases e : i = j
          · subst e; rw [Array.getElem?_setIfInBounds_self_of_lt (by omega)]
          · rw [Array.getElem?_setIfInBounds_ne e]
            exact hnf j (by omega) hjf
        · intro j hj hjl
          rw [Array.getElem?_setIfInBounds_ne (by omega)]
          exact hB j (by omega) hjl
      · exfalso
        obtain ⟨e, he, hb, hon⟩ := hch i _ him ho
        have h5 := hrd' e he hb
        rw [hon, hB (i - 1) (by omega) (by omega)] at h5
        cases h5
end
end Go.Ab

set_option linter.unusedVariables false
set_option linter.unusedSimpArgs false
namespace Go.Ab
open Go.RowKit Go.Shelf Go.Proofs Go.Eng

/-- What is told with no look at memory. -/
def flatL (n : Nat) : AV → Bool
  | .int _ _ => true
  | .bool _ => true
  | .str _ => true
  | .nils => true
  | .nilp => true
  | .nilf => true
  | .nili => true
  | .nilm => true
  | .val _ => true
  | .map i => Nat.blt i n
  | .osl i => Nat.blt i n
  | .ptr i _ => Nat.blt i n
  | _ => false
theorem flat_down {m m0 : Mem} {ρ ρ2 : List Value} {T : AV} {v : Value} (hT : flatL ρ.length T = true) (hp : ∀ (i : Nat) (h : Value), ρ[i]? = some h → ρ2[i]? = some h) (h : RepA m ρ2 T v) : RepA m0 ρ T v := by
  have back : ∀ {i : Nat} {u : Value}, i < ρ.length → ρ2[i]? = some u → ρ[i]? = some u := by
    intro i u hi hu
    have h1 : ρ[i]? = some (ρ[i]'hi) := List.getElem?_eq_getElem hi
    rw [hp _ _ h1] at hu
    rw [h1, hu]
  cases T <;> simp only [flatL, Bool.false_eq_true, Nat.blt_eq] at hT <;> simp only [RepA] at h ⊢ <;> first
    | exact h
    | exact ⟨back hT h.1, h.2⟩
    | (obtain ⟨b, h1, h2⟩ := h; exact ⟨b, back hT h1, h2⟩)

section
variable {P : Program} {N : Ev} {X : Cx} {Q : APost} {st : AS}

def lateB (ops : List Oper) (Ts : List TT) (q n : Nat) (op : Oper) (ks2 fl : List Nat) : Bool := nodupB (fl.map (dstAt ops)) && fl.all fun j => Nat.blt j q && flatL n (ttAt Ts j).2 && (ttAt Ts j).1 && !memB (dstAt ops j) ks2 && (match op.dst with
  | some d => !Nat.beq d (dstAt ops j)
  | none => true) && (match ops[j]? with
  | some o => o.guard.isNone && (match o.dst with
    | some d => Nat.beq d (dstAt ops j) && Nat.blt d N.n
    | none => false)
  | none => false) && (match ops[q + 1]? with
  | some o => o.after.toList.any fun e => Region.binds .any e && Nat.beq e.on j
  | none => false)

/-- What is owed of the values that are read late, behind the turn. -/
def LateV (P : Program) (N : Ev) (ops : List Oper) (Ts : List TT) (st : AS) : List Nat → Prop
  | [] => True
  | j :: r => (∀ X' o, ops[j]? = some o → AOpV P N X' o (ttAt Ts j).2 st) ∧ LateV P N ops Ts st r
theorem LateV.at {ops : List Oper} {Ts : List TT} : ∀ {fl : List Nat}, LateV P N ops Ts st fl → ∀ j ∈ fl, ∀ X' o, ops[j]? = some o → AOpV P N X' o (ttAt Ts j).2 st := by
  intro fl
  induction fl with
  | nil => intro _ j hj; simp at hj
  | cons a r ih =>
    intro h j hj
    rcases List.mem_cons.1 hj with rfl | hj
    · exact h.1
    · exact ih h.2 j hj

theorem late_frame {ops : List Oper} {Ts : List TT} {a : Act} {H : AH} {n : Nat} {W : World} {m : Mem} {ρ : List Value} {φ : List Frag} : ∀ {js : List Nat} {lA : AFr} {l : Fr}, Conc X ⟨lA, H, n⟩ l W m ρ φ → Holds N l a → (∀ j ∈ js, ∃ v, a.tmps[dstAt ops j]? = some v ∧ RepA m ρ (ttAt Ts j).2 v) → ∃ l', Holds N l' a ∧ Conc X ⟨depF ops Ts js lA, H, n⟩ l' W m ρ φ := by
  intro js
  induction js with
  | nil => intro lA l hc hl _; exact ⟨l, hl, hc⟩
  | cons j r ih =>
    intro lA l hc hl h
    obtain ⟨v, h1, h2⟩ := h j (by simp)
    refine ih (l := (dstAt ops j, v) :: l) (hc.put (st := ⟨lA, H, n⟩) h2) ⟨hl.size, fun t u ht => ?_⟩ fun q hq => h q (by simp [hq])
    rw [Fr.look_cons] at ht
    split at ht
    · rename_i e; subst e; cases ht; exact h1
    · exact hl.slot t u ht

def subS (l : AFr) : AFr → Prop
  | [] => True
  | (t, a) :: r => l.look t = some a ∧ subS l r
def subH (H : AH) : AH → Prop
  | [] => True
  | (i, o) :: r => H.get i = o ∧ subH H r
theorem subS_get {l : AFr} : ∀ {l' : AFr}, subS l l' → ∀ t a, l'.look t = some a → l.look t = some a := by
  intro l'
  induction l' with
  | nil => intro _ t a h; simp [AFr.look] at h
  | cons p r ih =>
    intro h t a ht
    rw [AFr.look_cons] at ht
    split at ht
    · rename_i e; subst e; cases ht; exact h.1
    · exact ih h.2 t a ht
theorem subH_get {H : AH} : ∀ {H' : AH}, subH H H' → ∀ i, memB i (H'.map (·.1)) = true → H.get i = H'.get i := by
  intro H'
  induction H' with
  | nil => intro _ i h; simp [memB] at h
  | cons p r ih =>
    intro h i hi
    obtain ⟨j, o⟩ := p
    rw [AH.get_cons]
    by_cases e : j = i
    · subst e; rw [if_pos rfl]; exact h.1
    · rw [if_neg e]
      refine ih h.2 i ?_
      simp only [List.map_cons, memB, Bool.or_eq_true] at hi
      rcases hi with hi | hi
      · exact absurd (Nat.eq_of_beq_eq_true hi).symm e
      · exact hi
/-- The same state, told otherwise. -/
def SubA (s st2 : AS) : Prop := subS s.l st2.l ∧ subH s.H st2.H ∧ s.n = st2.n
def compH (st2 : AS) : Bool := (List.range st2.n).all fun i => memB i (st2.H.map (·.1))
theorem conc_sub {s st2 : AS} {fr : Fr} {w : World} {m : Mem} {ρ : List Value} {φ : List Frag} (h : Conc X s fr w m ρ φ) (hs : SubA s st2) (hc : compH st2 = true) : Conc X st2 fr w m ρ φ := by
  refine ⟨h.mle, h.pre, by rw [← hs.2.2]; exact h.nρ, by rw [← hs.2.2]; exact h.nφ, fun t a ha => h.slots t a (subS_get hs.1 t a ha), fun i hd f hi hf => ?_, h.sh⟩
  have hil := (List.getElem?_eq_some_iff.1 hi).1
  rw [h.nρ, hs.2.2] at hil
  rw [← subH_get hs.2.1 i ((List.all_eq_true.1 hc) i (List.mem_range.2 hil))]
  exact h.objs i hd f hi hf

theorem awc_draw_late {id : Nat} {ops : List Oper} (q : Nat) (fl nx : List Nat) (hm : P.follows .mixedOrders = true) (ks : List Nat) (Ts : List TT) (dep : List (List Nat)) (live : List Nat) (ks2 : List Nat) {op : Oper} {st2 : AS} (hks : (ks.all fun t => (st.l.look t).isSome) = true) (hq : Nat.blt q ops.length = true) (hok : drawOkK N.n (ops.take q) dep ks = true) (hch : (consecOk q ops && nextL q ops fl nx) = true) (hback : backOk ops = true) (hTs : Nat.beq Ts.length q = true) (hlv : (live.all fun i => Nat.blt i q && !memB i fl) = true) (hdp : depsOk (ops.take q) (live :: dep) = true)
    (hop : ops[q]? = some op) (hgu : op.guard = none) (hlb : lateB (N := N) ops Ts q st.n op ks2 fl = true) (hks2 : (ks2.all fun t => (st2.l.look t).isSome) = true)
    (hob : AObs P N X (ops.take q) Ts (keepF st.l ks) st.H st.n (ops.take q) Ts dep) (hall : ∀ j ∈ live, (ttAt Ts j).1 = true)
    (hlate : LateV P N ops Ts ⟨keepF st2.l ks2, st2.H, st2.n⟩ fl) (hcomp : compH st2 = true) (hrun : ∀ X', AOp P N X' op (fun s => SubA s st2) ⟨depF (ops.take q) Ts live (keepF st.l ks), st.H, st.n⟩)
    (k : AWL P N X ops.toArray Q (ops.drop (q + 1)) ⟨depF ops Ts fl (keepF st2.l ks2), st2.H, st2.n⟩) : AWC P N X (.region id ops.toArray true) Q st := by
  intro fr w m ρ φ hc
  obtain ⟨lb, h1, h2, h3⟩ := keep_conc hc hks
  have hq' : q < ops.length := by simpa using hq
  have hl : Ts.length = (ops.take q).length := by rw [Nat.eq_of_beq_eq_true hTs, List.length_take]; omega
  have hTl := Nat.eq_of_beq_eq_true hTs
  simp only [depsOk, List.all_cons, Bool.and_eq_true] at hdp
  rw [Bool.and_eq_true] at hch
  simp only [lateB, Bool.and_eq_true, List.all_eq_true] at hlb
  obtain ⟨hnd, hlb⟩ := hlb
  have hnd := nodup_of hnd
  have hfl : ∀ j ∈ fl, j < q := fun j hj => by have := (hlb j hj).1.1.1.1.1.1; simpa using this
  have hflat : ∀ j ∈ fl, flatL ρ.length (ttAt Ts j).2 = true := fun j hj => by rw [hc.nρ]; exact (hlb j hj).1.1.1.1.1.2
  have htt : ∀ j ∈ fl, (ttAt Ts j).1 = true := fun j hj => (hlb j hj).1.1.1.1.2
  have hk2 : ∀ j ∈ fl, memB (dstAt ops j) ks2 = false := fun j hj => by have := (hlb j hj).1.1.1.2; simpa using this
  have hpd : ∀ j ∈ fl, ∀ d, op.dst = some d → d ≠ dstAt ops j := fun j hj d hd => by
    have := (hlb j hj).1.1.2
    rw [hd] at this
    intro e; subst e; simp at this
  have hod : ∀ j ∈ fl, ∀ o, ops[j]? = some o → o.guard = none ∧ o.dst = some (dstAt ops j) ∧ dstAt ops j < N.n := fun j hj o ho => by
    have := (hlb j hj).1.2
    rw [ho] at this
    simp only [Bool.and_eq_true] at this
    obtain ⟨g1, g2⟩ := this
    cases hd : o.dst with
    | none => rw [hd] at g2; cases g2
    | some d =>
      rw [hd] at g2
      simp only [Bool.and_eq_true] at g2
      have e := Nat.eq_of_beq_eq_true g2.1
      subst e
      exact ⟨by simpa using g1, rfl, by simpa using g2.2⟩
  have hb2 : ∀ j ∈ fl, ∃ o, ops[q + 1]? = some o ∧ ∃ e ∈ o.after, Region.binds .any e = true ∧ e.on = j := fun j hj => by
    have := (hlb j hj).2
    split at this
    · rename_i o ho
      rw [List.any_eq_true] at this
      obtain ⟨e, he, hb⟩ := this
      simp only [Bool.and_eq_true] at hb
      exact ⟨o, ho, e, Array.mem_toList_iff.1 he, hb.1, Nat.eq_of_beq_eq_true hb.2⟩
    · cases this
  let X' : Cx := ⟨X.e, m, ρ, X.F⟩
  have toX' : ∀ {s : AS} {fr : Fr} {W : World} {m1 : Mem} {φ1 : List Frag}, m.le m1 → Conc X s fr W m1 ρ φ1 → Conc X' s fr W m1 ρ φ1 := fun hm h => ⟨hm, fun i h hi => hi, h.nρ, h.nφ, h.slots, h.objs, h.sh⟩
  have ofX' : ∀ {s : AS} {fr : Fr} {W : World} {m1 : Mem} {ρ1 : List Value} {φ1 : List Frag}, Conc X' s fr W m1 ρ1 φ1 → Conc X s fr W m1 ρ1 φ1 := fun h => ⟨hc.mle.trans h.mle, fun i u hi => h.pre i u (hc.pre i u hi), h.nρ, h.nφ, h.slots, h.objs, h.sh⟩
  intro a ha hg
  refine wpIn_region_any hm ?_
  refine draw_late (w := { w with drawn := w.drawn + 1 }) (Φ := Ts.map (phi X.e m ρ (φ.flatten ++ X.F))) (dep := dep) (lb := lb) hq' (draw_keys (by rw [h1]; exact hok)) (consec_of hch.1) (back_of hback) hfl hch.2 (by rw [List.length_map]; exact hTl) (monos_phi Ts) ((obs_of hl h3 hdp.2 hob).drawn sr_below) (live := live) ?_ hop hgu ?_ (Ψ := fun j v => RepA (fun _ => none) ρ (ttAt Ts j).2 v) ?_
    (R := fun l2 W2 => l2.map (·.1) = ks2 ∧ ∃ m2 ρ2 φ2, Conc X' ⟨keepF st2.l ks2, st2.H, st2.n⟩ l2 W2 m2 ρ2 φ2) ?_ hb2 ?_ _ _ _ _ ?_ (by simp) ?_ ?_ ?_
  · intro j hj
    have := (List.all_eq_true.1 hlv) j hj
    simp only [Bool.and_eq_true] at this
    exact ⟨by simpa using this.1, fun hc => by have h := this.2; rw [memB_iff.2 hc] at h; cases h⟩
  · intro j hj o ho
    refine ⟨_, (hod j hj o ho).2.1, fun e => hpd j hj _ e rfl⟩
  · intro j hj φj hφ v W hv
    have hjl : j < Ts.length := by rw [hTl]; exact hfl j hj
    rw [List.getElem?_map, List.getElem?_eq_getElem hjl] at hφ
    simp only [Option.map_some, Option.some.injEq] at hφ
    have htj : ttAt Ts j = Ts[j] := by simp only [ttAt, List.getElem?_eq_getElem hjl]
    rw [← hφ, ← htj] at hv
    obtain ⟨m', g1, g2, g3⟩ := hv.1 (htt j hj)
    exact flat_down (hflat j hj) (fun _ _ h => h) g3
  · intro W hW
    refine gather_df (phi_at hl) hdp.1 fun l' hl' => ?_
    obtain ⟨m', g4, g5⟩ := conc_df hl' (Mem.le_refl _) (h3.grow (Mem.le_refl _) (h3.sh.ext (sr_below.drawn _ _ _ hW))) hall
    intro a1 ha1 hg1
    refine Oper.wpIn_mono ?_ (hrun X' (upQ X Q) _ _ _ _ _ (toX' g4 g5) a1 ha1 hg1)
    rintro a2 W2 ⟨l2, hl2, hg2, st', m2, ρ2, φ2, g6, g7⟩
    have g6 := conc_sub g6 g7 hcomp
    obtain ⟨lb2, q1, q2, q3⟩ := keep_conc g6 hks2
    exact ⟨lb2, hl2.sub q2, hg2, q1, m2, ρ2, φ2, q3⟩
  · rintro l2 W2 ⟨hk, m2, ρ2, φ2, hc2⟩
    refine ⟨⟨fun j hj o ho => ⟨(hod j hj o ho).1, dstAt ops j, (hod j hj o ho).2.1, (hod j hj o ho).2.2, ?_, ?_, ?_⟩⟩, ?_⟩
    · have := look_keys (l := l2) (d := dstAt ops j)
      rw [hk, hk2 j hj] at this
      simpa using this
    · intro j' hj' o' ho' hd'
      have h5 := (hod j' hj' o' ho').2.1
      rw [hd'] at h5
      have h6 : dstAt ops j = dstAt ops j' := by simpa using h5
      obtain ⟨p, hp⟩ := List.getElem?_of_mem hj
      obtain ⟨p', hp'⟩ := List.getElem?_of_mem hj'
      have e1 : (fl.map (dstAt ops))[p]? = some (dstAt ops j) := by rw [List.getElem?_map, hp]; rfl
      have e2 : (fl.map (dstAt ops))[p']? = some (dstAt ops j) := by rw [List.getElem?_map, hp', h6]; rfl
      have l1 := (List.getElem?_eq_some_iff.1 e1).1
      have := (List.getElem?_inj l1 hnd).1 (e1.trans e2.symm)
      subst this
      rw [hp] at hp'; cases hp'; rfl
    · intro W hW
      have hcW := hc2.grow (Mem.le_refl _) (hc2.sh.ext hW)
      have hv := hlate.at j hj X' o ho (upQ X Q) _ _ _ _ _ hcW
      intro a1 ha1 hg1
      refine Oper.wpIn_mono ?_ (hv a1 ha1 hg1)
      rintro a2 W3 ⟨l3, hl3, hg3, d, v, hd, rfl, hB, m3, _, _, hr⟩
      have hd0 := (hod j hj o ho).2.1
      rw [hd] at hd0; cases hd0
      exact ⟨_, hl3, hg3, ⟨v, by rw [Fr.look_cons, if_pos rfl], flat_down (hflat j hj) (fun i h hi => hc2.pre i h hi) hr⟩, hB⟩
    · intro a1 W hW ha1 hg1 hfs
      have hcW := hc2.grow (Mem.le_refl _) (hc2.sh.ext hW)
      obtain ⟨l', g1, g2⟩ := late_frame (ops := ops) (Ts := Ts) (a := a1) (js := fl) hcW ha1 (fun j hj => by
        have hjl : j < ops.length := by have := hfl j hj; omega
        obtain ⟨d, v, g1, g2, g3⟩ := hfs j hj _ (List.getElem?_eq_getElem hjl)
        have hd0 := (hod j hj _ (List.getElem?_eq_getElem hjl)).2.1
        rw [g1] at hd0; cases hd0
        exact ⟨v, g2, RepA.mono (fun b o h => by cases h) (fun i h hi => hc2.pre i h hi) _ g3⟩)
      exact k _ _ _ _ _ (ofX' g2) a1 g1 hg1
  · refine ⟨sr_below.refl _, ha.sub h2, hg.step rfl (fun _ _ h _ _ => h) (Nat.le_refl _), ?_⟩
    intro i o φ _ _ hi
    simp [Array.getElem?_replicate] at hi
  · intro i o _ hi
    simp [Array.getElem?_replicate] at hi
  · intro j hj hjl
    simp [Array.getElem?_replicate, hjl]
  · simp
end
end Go.Ab
