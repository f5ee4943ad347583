/- Lemmas for a law of the seat: what functions of the program do, each stated as a contract of its own (Ab1). -/
import Derived.Test.YtbjafckcpkhoaaaEng
import Derived.Sort.Grow
import Derived.Sort.Row
import Derived.Shelf.SlSortCmp.WholeK
set_option linter.unusedVariables false
set_option linter.unusedSimpArgs false
namespace Go.Ab
open Go.RowKit Go.Shelf Go.Proofs Go.Eng

/-! data by value -/
abbrev Str := List UInt8
def bstr (s : Str) : ByteArray := ⟨s.toArray⟩
theorem bstr_data (b : ByteArray) : bstr b.data.toList = b := by cases b; simp [bstr]
theorem bstr_size (s : Str) : (bstr s).size = s.length := by simp [bstr, ByteArray.size]
theorem bstr_inj {s t : Str} (h : bstr s = bstr t) : s = t := by simpa [bstr] using h

/-- What one cell holds. -/
abbrev Cell1 := { v : Value // v.oneCell' = true }
/-- The types of data. A struct is 'st' of its fields in pairs; a short array likewise. -/
inductive Ty where
  | int (k : IntKind)
  | bool
  | str
  | unit
  | pair (a b : Ty)
  | st (a : Ty)
  | slice (e : Ty)
  | arr (n : Nat) (e : Ty)
  | raw (z : Cell1)
@[reducible] def Ty.den : Ty → Type
  | .int _ => Int
  | .bool => Bool
  | .str => Str
  | .unit => Unit
  | .pair a b => a.den × b.den
  | .st a => a.den
  | .slice e => List e.den
  | .arr _ e => List e.den
  | .raw _ => Cell1
def Ty.dflt : (t : Ty) → t.den
  | .int _ => (0 : Int)
  | .bool => false
  | .str => ([] : List UInt8)
  | .unit => ()
  | .pair a b => (a.dflt, b.dflt)
  | .st a => a.dflt
  | .slice e => ([] : List e.den)
  | .arr n e => List.replicate n e.dflt
  | .raw z => z
def Ty.cells : Ty → Nat
  | .int _ => 1
  | .bool => 1
  | .str => 1
  | .unit => 0
  | .pair a b => a.cells + b.cells
  | .st a => a.cells
  | .slice _ => 1
  | .arr n e => n * e.cells
  | .raw _ => 1
/-- Values of this type are aggregates. -/
def Ty.agg : Ty → Bool
  | .st _ => true
  | .arr _ _ => true
  | .unit => true
  | .pair _ _ => true
  | _ => false

/-! memory that is read alone -/
abbrev Mem := Nat → Option Obj
def Mem.le (m m' : Mem) : Prop := ∀ b o, m b = some o → m' b = some o
theorem Mem.le_refl (m : Mem) : m.le m := fun _ _ h => h
theorem Mem.le.trans {a b c : Mem} (h : a.le b) (k : b.le c) : a.le c := fun x o hx => k x o (h x o hx)

def CellsM (m : Mem) (b off : Nat) (vs : List Value) : Prop := ∀ j v, vs[j]? = some v → ∃ cs T fr, m b = some (.cells cs T fr) ∧ cs[off + j]? = some v
theorem CellsM.mono {m m' : Mem} {b off : Nat} {vs : List Value} (h : CellsM m b off vs) (hm : m.le m') : CellsM m' b off vs := fun j v hj => let ⟨cs, T, fr, h1, h2⟩ := h j v hj; ⟨cs, T, fr, hm _ _ h1, h2⟩

/-- The most elements that a slice has. -/
abbrev cap47 : Nat := 140737488355328

/-- The cells 'cs' hold the datum. -/
def RC (m : Mem) : (t : Ty) → t.den → List Value → Prop
  | .int k, x, cs => cs = [.int k x]
  | .bool, x, cs => cs = [.bool x]
  | .str, x, cs => cs = [.string (bstr x)]
  | .unit, _, cs => cs = []
  | .pair a b, x, cs => ∃ c d, cs = c ++ d ∧ RC m a x.1 c ∧ RC m b x.2 d
  | .st a, x, cs => RC m a x cs
  | .slice e, (x : List e.den), cs => ∃ A n c, cs = [.slice A n c] ∧ x.length = n ∧ n ≤ c ∧ n ≤ cap47 ∧ ∃ b o, (0 < n → A = some ⟨b, o, none⟩) ∧ ∀ (i : Nat) (y : e.den), x[i]? = some y → ∃ us, RC m e y us ∧ CellsM m b (o + i * e.cells) us
  | .arr n e, (x : List e.den), cs => x.length = n ∧ ∃ us : List (List Value), us.length = n ∧ cs = us.flatten ∧ ∀ (i : Nat) (y : e.den) (u : List Value), x[i]? = some y → us[i]? = some u → RC m e y u
  | .raw _, x, cs => cs = [x.1]

theorem RC.mono {m m' : Mem} (hm : m.le m') : ∀ {t : Ty} {x : t.den} {cs : List Value}, RC m t x cs → RC m' t x cs := by
  intro t
  induction t with
  | int k => intro x cs h; exact h
  | bool => intro x cs h; exact h
  | str => intro x cs h; exact h
  | unit => intro x cs h; exact h
  | pair a b iha ihb => intro x cs h; obtain ⟨c, d, h1, h2, h3⟩ := h; exact ⟨c, d, h1, iha h2, ihb h3⟩
  | st a ih => intro x cs h; exact ih (x := x) h
  | slice e ih =>
    intro x cs h
    obtain ⟨A, n, c, h1, h2, h3, h4, b, o, h5, h6⟩ := h
    exact ⟨A, n, c, h1, h2, h3, h4, b, o, h5, fun i y hy => let ⟨us, h7, h8⟩ := h6 i y hy; ⟨us, ih h7, h8.mono hm⟩⟩
  | arr n e ih =>
    intro x cs h
    obtain ⟨h1, us, h2, h3, h4⟩ := h
    exact ⟨h1, us, h2, h3, fun i y u hy hu => ih (h4 i y u hy hu)⟩
  | raw z => intro x cs h; exact h

theorem flatten_len {us : List (List Value)} {n k : Nat} (h : us.length = n) (hk : ∀ u ∈ us, u.length = k) : us.flatten.length = n * k := by
  subst h
  induction us with
  | nil => simp
  | cons u us ih =>
    rw [List.flatten_cons, List.length_append, hk u (by simp), ih (fun v hv => hk v (by simp [hv])), List.length_cons, Nat.add_mul]
    omega

theorem RC.len {m : Mem} : ∀ {t : Ty} {x : t.den} {cs : List Value}, RC m t x cs → cs.length = t.cells := by
  intro t
  induction t with
  | int k => intro x cs h; cases h; rfl
  | bool => intro x cs h; cases h; rfl
  | str => intro x cs h; cases h; rfl
  | unit => intro x cs h; cases h; rfl
  | pair a b iha ihb => intro x cs h; obtain ⟨c, d, rfl, h2, h3⟩ := h; simp [iha h2, ihb h3, Ty.cells]
  | st a ih => intro x cs h; exact ih (x := x) h
  | slice e ih => intro x cs h; obtain ⟨A, n, c, rfl, _⟩ := h; rfl
  | arr n e ih =>
    intro x cs h
    obtain ⟨h1, us, h2, rfl, h4⟩ := h
    refine flatten_len h2 fun u hu => ?_
    obtain ⟨i, hi, rfl⟩ := List.getElem_of_mem hu
    exact ih (h4 i (x[i]'(by omega)) _ (List.getElem?_eq_getElem (by omega)) (List.getElem?_eq_getElem hi))
  | raw z => intro x cs h; cases h; rfl

/-- No cell holds an aggregate. -/
theorem RC.one {m : Mem} : ∀ {t : Ty} {x : t.den} {cs : List Value}, RC m t x cs → ∀ v ∈ cs, v.oneCell' = true := by
  intro t
  induction t with
  | int k => intro x cs h; cases h; intro v hv; simp at hv; subst hv; rfl
  | bool => intro x cs h; cases h; intro v hv; simp at hv; subst hv; rfl
  | str => intro x cs h; cases h; intro v hv; simp at hv; subst hv; rfl
  | unit => intro x cs h; cases h; intro v hv; simp at hv
  | pair a b iha ihb =>
    intro x cs h; obtain ⟨c, d, rfl, h2, h3⟩ := h
    intro v hv
    rcases List.mem_append.1 hv with hv | hv
    · exact iha h2 v hv
    · exact ihb h3 v hv
  | st a ih => intro x cs h; exact ih (x := x) h
  | slice e ih => intro x cs h; obtain ⟨A, n, c, rfl, _⟩ := h; intro v hv; simp at hv; subst hv; rfl
  | arr n e ih =>
    intro x cs h
    obtain ⟨h1, us, h2, rfl, h4⟩ := h
    intro v hv
    obtain ⟨u, hu, hvu⟩ := List.mem_flatten.1 hv
    obtain ⟨i, hi, rfl⟩ := List.getElem_of_mem hu
    exact ih (h4 i (x[i]'(by omega)) _ (List.getElem?_eq_getElem (by omega)) (List.getElem?_eq_getElem hi)) v hvu
  | raw z => intro x cs h; cases h; intro v hv; simp at hv; subst hv; exact x.2

/-- A value that holds the datum. -/
def RV (m : Mem) (t : Ty) (x : t.den) (v : Value) : Prop := if t.agg then ∃ cs, v = .agg cs.toArray ∧ RC m t x cs else RC m t x [v]

/-! values xs the walk sees them -/
inductive AV where
  | int (k : IntKind) (z : Int)
  | bool (b : Bool)
  | str (s : Str)
  | sl (t : Ty) (x : List t.den)
  | nils
  | rp (cs : List AV)
  | agg (cs : List AV)
  | tup (vs : List AV)
  | ptr (i o : Nat)
  | osl (i : Nat)
  | ep (i sz z o : Nat)
  | map (i : Nat)
  | fn (f : FuncId) (first caps : List AV)
  | nilp
  | nilf
  | nili
  | nilm
  | yld (l : Nat)
  | val (v : Value)
  | clo (a : AV)
  | sog (i : Nat)
  | epg (i k : Nat)
  | row (i k : Nat)
  | epr (i k sz z o : Nat)
  | any
  | bad

mutual
/-- 'v' is what the walk sees, the handles of what the call owns being 'ρ'. -/
def RepA (m : Mem) (ρ : List Value) : AV → Value → Prop
  | .int k z, v => v = .int k z
  | .bool b, v => v = .bool b
  | .str s, v => v = .string (bstr s)
  | .sl t x, v => RC m (.slice t) x [v]
  | .nils, v => v = .slice none 0 0
  | .rp cs, v => ∃ b o us, v = .pointer (some ⟨b, o, none⟩) ∧ RepL m ρ cs us ∧ CellsM m b o us ∧ (∀ u ∈ us, u.oneCell' = true)
  | .agg cs, v => ∃ us, v = .agg us.toArray ∧ RepL m ρ cs us ∧ (∀ u ∈ us, u.oneCell' = true)
  | .tup vs, v => ∃ us, v = .tuple us.toArray ∧ RepL m ρ vs us
  | .ptr i o, v => ∃ b, ρ[i]? = some (.pointer (some ⟨b, 0, none⟩)) ∧ v = .pointer (some ⟨b, o, none⟩)
  | .osl i, v => ρ[i]? = some v ∧ v.oneCell' = true
  | .ep i sz z o, v => ∃ b n c, ρ[i]? = some (.slice (some ⟨b, 0, none⟩) n c) ∧ v = .pointer (some ⟨b, z * sz + o, none⟩)
  | .map i, v => ρ[i]? = some v ∧ v.oneCell' = true
  | .fn f first caps, v => ∃ us ws, v = .func (.func f) us.toArray ws.toArray ∧ RepL m ρ first us ∧ RepL m ρ caps ws
  | .nilp, v => v = .pointer none
  | .nilf, v => v = .nilFunc
  | .nili, v => v = .nilIface
  | .nilm, v => v = .map none
  | .yld l, v => v = .func (.yield l) #[] #[]
  | .val u, v => v = u
  | .clo a, v => RepA m [] a v
  | .sog i, v => ∃ rs, ρ[i]? = some (.tuple (v :: rs).toArray) ∧ v.oneCell' = true
  | .epg i k, v => ∃ b n c rs, ρ[i]? = some (.tuple (.slice (some ⟨b, 0, none⟩) n c :: rs).toArray) ∧ v = .pointer (some ⟨b, k, none⟩)
  | .row i k, v => ∃ h rs, ρ[i]? = some (.tuple (h :: rs).toArray) ∧ rs[k]? = some v ∧ v.oneCell' = true
  | .epr i k sz z o, v => ∃ h rs b n c, ρ[i]? = some (.tuple (h :: rs).toArray) ∧ rs[k]? = some (.slice (some ⟨b, 0, none⟩) n c) ∧ v = .pointer (some ⟨b, z * sz + o, none⟩)
  | .any, _ => True
  | .bad, _ => False
def RepL (m : Mem) (ρ : List Value) : List AV → List Value → Prop
  | [], [] => True
  | a :: xs, v :: vs => RepA m ρ a v ∧ RepL m ρ xs vs
  | _, _ => False
end

theorem RepL.len {m : Mem} {ρ : List Value} : ∀ {xs : List AV} {vs : List Value}, RepL m ρ xs vs → vs.length = xs.length := by
  intro xs
  induction xs with
  | nil => intro vs h; cases vs with
    | nil => rfl
    | cons => simp [RepL] at h
  | cons a xs ih => intro vs h; cases vs with
    | nil => simp [RepL] at h
    | cons v vs => simp only [RepL] at h; simp [ih h.2]
theorem RepL.get {m : Mem} {ρ : List Value} : ∀ {xs : List AV} {vs : List Value} {i : Nat} {a : AV}, RepL m ρ xs vs → xs[i]? = some a → ∃ v, vs[i]? = some v ∧ RepA m ρ a v := by
  intro xs
  induction xs with
  | nil => intro vs i a h hi; simp at hi
  | cons a xs ih => intro vs i b h hi; cases vs with
    | nil => simp [RepL] at h
    | cons v vs =>
      simp only [RepL] at h
      cases i with
      | zero => simp at hi; subst hi; exact ⟨v, rfl, h.1⟩
      | succ i => simpa using ih h.2 (by simpa using hi)
theorem RepL.app {m : Mem} {ρ : List Value} : ∀ {xs bs : List AV} {us vs : List Value}, RepL m ρ xs us → RepL m ρ bs vs → RepL m ρ (xs ++ bs) (us ++ vs) := by
  intro xs
  induction xs with
  | nil => intro bs us vs h k; cases us with
    | nil => simpa using k
    | cons => simp [RepL] at h
  | cons a xs ih => intro bs us vs h k; cases us with
    | nil => simp [RepL] at h
    | cons u us => simp only [RepL, List.cons_append] at h ⊢; exact ⟨h.1, ih h.2 k⟩
theorem RepL.split {m : Mem} {ρ : List Value} : ∀ {xs bs : List AV} {vs : List Value}, RepL m ρ (xs ++ bs) vs → ∃ us ws, vs = us ++ ws ∧ RepL m ρ xs us ∧ RepL m ρ bs ws := by
  intro xs
  induction xs with
  | nil => intro bs vs h; exact ⟨[], vs, rfl, by simp [RepL], h⟩
  | cons a xs ih => intro bs vs h; cases vs with
    | nil => simp [RepL] at h
    | cons v vs =>
      simp only [RepL, List.cons_append] at h
      obtain ⟨us, ws, rfl, h1, h2⟩ := ih h.2
      exact ⟨v :: us, ws, rfl, ⟨h.1, h1⟩, h2⟩
theorem RepL.drop {m : Mem} {ρ : List Value} : ∀ (k : Nat) {xs : List AV} {vs : List Value}, RepL m ρ xs vs → RepL m ρ (xs.drop k) (vs.drop k) := by
  intro k
  induction k with
  | zero => intro xs vs h; simpa using h
  | succ k ih => intro xs vs h; cases xs with
    | nil => cases vs with
      | nil => simp [RepL]
      | cons => simp [RepL] at h
    | cons a xs => cases vs with
      | nil => simp [RepL] at h
      | cons v vs => simp only [RepL] at h; simpa using ih h.2
theorem RepL.take {m : Mem} {ρ : List Value} : ∀ (k : Nat) {xs : List AV} {vs : List Value}, RepL m ρ xs vs → RepL m ρ (xs.take k) (vs.take k) := by
  intro k
  induction k with
  | zero => intro xs vs h; simp [RepL]
  | succ k ih => intro xs vs h; cases xs with
    | nil => cases vs with
      | nil => simp [RepL]
      | cons => simp [RepL] at h
    | cons a xs => cases vs with
      | nil => simp [RepL] at h
      | cons v vs => simp only [RepL, List.take_succ_cons] at h ⊢; exact ⟨h.1, ih h.2⟩

mutual
theorem RepA.mono {m m' : Mem} {ρ ρ' : List Value} (hm : m.le m') (hρ : ∀ (i : Nat) (h : Value), ρ[i]? = some h → ρ'[i]? = some h) : ∀ (a : AV) {v : Value}, RepA m ρ a v → RepA m' ρ' a v
  | .int .., v, h => by simpa only [RepA] using h
  | .bool .., v, h => by simpa only [RepA] using h
  | .str .., v, h => by simpa only [RepA] using h
  | .sl .., v, h => by simp only [RepA] at h ⊢; exact h.mono hm
  | .nils, v, h => by simpa only [RepA] using h
  | .rp cs, v, h => by
    simp only [RepA] at h ⊢
    obtain ⟨b, o, us, h1, h2, h3, h4⟩ := h
    exact ⟨b, o, us, h1, RepL.mono hm hρ cs h2, h3.mono hm, h4⟩
  | .agg cs, v, h => by
    simp only [RepA] at h ⊢
    obtain ⟨us, h1, h2, h4⟩ := h
    exact ⟨us, h1, RepL.mono hm hρ cs h2, h4⟩
  | .tup cs, v, h => by
    simp only [RepA] at h ⊢
    obtain ⟨us, h1, h2⟩ := h
    exact ⟨us, h1, RepL.mono hm hρ cs h2⟩
  | .ptr i o, v, h => by simp only [RepA] at h ⊢; obtain ⟨b, h1, h2⟩ := h; exact ⟨b, hρ _ _ h1, h2⟩
  | .osl i, v, h => by simp only [RepA] at h ⊢; exact ⟨hρ _ _ h.1, h.2⟩
  | .ep i sz z o, v, h => by simp only [RepA] at h ⊢; obtain ⟨b, n, c, h1, h2⟩ := h; exact ⟨b, n, c, hρ _ _ h1, h2⟩
  | .map i, v, h => by simp only [RepA] at h ⊢; exact ⟨hρ _ _ h.1, h.2⟩
  | .fn f first caps, v, h => by
    simp only [RepA] at h ⊢
    obtain ⟨us, ws, h1, h2, h3⟩ := h
    exact ⟨us, ws, h1, RepL.mono hm hρ first h2, RepL.mono hm hρ caps h3⟩
  | .nilp, v, h => by simpa only [RepA] using h
  | .nilf, v, h => by simpa only [RepA] using h
  | .nili, v, h => by simpa only [RepA] using h
  | .nilm, v, h => by simpa only [RepA] using h
  | .yld _, v, h => by simpa only [RepA] using h
  | .val _, v, h => by simpa only [RepA] using h
  | .clo a, v, h => by simp only [RepA] at h ⊢; exact RepA.mono hm (fun _ _ h => h) a h
  | .sog i, v, h => by simp only [RepA] at h ⊢; obtain ⟨rs, h1, h2⟩ := h; exact ⟨rs, hρ _ _ h1, h2⟩
  | .epg i k, v, h => by simp only [RepA] at h ⊢; obtain ⟨b, n, c, rs, h1, h2⟩ := h; exact ⟨b, n, c, rs, hρ _ _ h1, h2⟩
  | .row i k, v, h => by simp only [RepA] at h ⊢; obtain ⟨hd, rs, h1, h2⟩ := h; exact ⟨hd, rs, hρ _ _ h1, h2⟩
  | .epr i k sz z o, v, h => by simp only [RepA] at h ⊢; obtain ⟨hd, rs, b, n, c, h1, h2⟩ := h; exact ⟨hd, rs, b, n, c, hρ _ _ h1, h2⟩
  | .any, v, h => by simp only [RepA]
  | .bad, v, h => by simp only [RepA] at h
theorem RepL.mono {m m' : Mem} {ρ ρ' : List Value} (hm : m.le m') (hρ : ∀ (i : Nat) (h : Value), ρ[i]? = some h → ρ'[i]? = some h) : ∀ (xs : List AV) {vs : List Value}, RepL m ρ xs vs → RepL m' ρ' xs vs
  | [], [], h => by simp only [RepL]
  | [], _ :: _, h => by simp only [RepL] at h
  | _ :: _, [], h => by simp only [RepL] at h
  | a :: xs, v :: vs, h => by simp only [RepL] at h ⊢; exact ⟨RepA.mono hm hρ a h.1, RepL.mono hm hρ xs h.2⟩
end

/-- A datum cell by cell. -/
def expl : (t : Ty) → t.den → List AV
  | .int k, x => [.int k x]
  | .bool, x => [.bool x]
  | .str, x => [.str x]
  | .unit, _ => []
  | .pair a b, x => expl a x.1 ++ expl b x.2
  | .st a, x => expl a x
  | .slice e, (x : List e.den) => [.sl e x]
  | .raw _, x => [.val x.1]
  | .arr n e, (x : List e.den) => (List.range n).flatMap fun i => expl e (x.getD i e.dflt)
/-- A datum xs a value. -/
def whole (t : Ty) (x : t.den) : AV := if t.agg then .agg (expl t x) else ((expl t x).head?).getD .any

theorem rc_expl {m : Mem} {ρ : List Value} : ∀ {t : Ty} {x : t.den} {cs : List Value}, RC m t x cs → RepL m ρ (expl t x) cs := by
  intro t
  induction t with
  | int k => intro x cs h; cases h; simp [expl, RepL, RepA]
  | bool => intro x cs h; cases h; simp [expl, RepL, RepA]
  | str => intro x cs h; cases h; simp [expl, RepL, RepA]
  | unit => intro x cs h; cases h; simp [expl, RepL]
  | pair a b iha ihb => intro x cs h; obtain ⟨c, d, rfl, h2, h3⟩ := h; exact (iha h2).app (ihb h3)
  | st a ih => intro x cs h; exact ih (x := x) h
  | slice e ih =>
    intro x cs h
    have h' := h
    obtain ⟨A, n, c, rfl, _⟩ := h
    simp only [expl, RepL, RepA, and_true]
    exact h'
  | arr n e ih =>
    intro x cs h
    obtain ⟨h1, us, h2, rfl, h4⟩ := h
    have key : ∀ k, k ≤ n → RepL m ρ ((List.range k).flatMap fun i => expl e (x.getD i e.dflt)) (us.take k).flatten := by
      intro k
      induction k with
      | zero => intro _; simp [RepL]
      | succ k ihk =>
        intro hk
        have hx : x[k]? = some (x[k]'(by omega)) := List.getElem?_eq_getElem (by omega)
        have hu : us[k]? = some (us[k]'(by omega)) := List.getElem?_eq_getElem (by omega)
        rw [List.range_succ, List.flatMap_append, List.take_add_one, List.flatten_append, hu]
        refine (ihk (by omega)).app ?_
        simp only [List.flatMap_cons, List.flatMap_nil, List.append_nil, Option.toList_some, List.flatten_cons, List.flatten_nil]
        rw [List.getD_eq_getElem?_getD, hx, Option.getD_some]
        exact ih (h4 k _ _ hx hu)
    have := key n (Nat.le_refl _)
    rwa [List.take_of_length_le (by omega)] at this
  | raw z => intro x cs h; cases h; simp [expl, RepL, RepA]

def Ty.noArr : Ty → Bool
  | .pair a b => a.noArr && b.noArr
  | .st a => a.noArr
  | .arr _ _ => false
  | _ => true
/-- Cells that are seen xs a datum's hold it. -/
theorem rc_of_expl {m : Mem} {ρ : List Value} : ∀ {t : Ty} {x : t.den} {cs : List Value}, t.noArr = true → RepL m ρ (expl t x) cs → RC m t x cs := by
  have one : ∀ {a : AV} {cs : List Value}, RepL m ρ [a] cs → ∃ v, cs = [v] ∧ RepA m ρ a v := by
    intro a cs h
    cases cs with
    | nil => simp [RepL] at h
    | cons v vs => cases vs with
      | nil => simp only [RepL, and_true] at h; exact ⟨v, rfl, h⟩
      | cons => simp [RepL] at h
  intro t
  induction t with
  | int k => intro x cs _ h; obtain ⟨v, rfl, h'⟩ := one (a := .int k x) h; simp only [RepA] at h'; subst h'; rfl
  | bool => intro x cs _ h; obtain ⟨v, rfl, h'⟩ := one (a := .bool x) h; simp only [RepA] at h'; subst h'; rfl
  | str => intro x cs _ h; obtain ⟨v, rfl, h'⟩ := one (a := .str x) h; simp only [RepA] at h'; subst h'; rfl
  | unit => intro x cs _ h; cases cs with
    | nil => rfl
    | cons => simp [RepL, expl] at h
  | pair a b iha ihb =>
    intro x cs hn h
    simp only [Ty.noArr, Bool.and_eq_true] at hn
    obtain ⟨us, ws, rfl, h1, h2⟩ := RepL.split h
    exact ⟨us, ws, rfl, iha hn.1 h1, ihb hn.2 h2⟩
  | st a ih => intro x cs hn h; exact ih (x := x) hn h
  | slice e ih => intro x cs _ h; obtain ⟨v, rfl, h'⟩ := one (a := .sl e x) h; simpa only [RepA] using h'
  | arr n e ih => intro x cs hn h; simp [Ty.noArr] at hn
  | raw z => intro x cs _ h; obtain ⟨v, rfl, h'⟩ := one (a := .val x.1) h; simp only [RepA] at h'; subst h'; rfl

/-! constants -/
def ofV1 : Value → AV
  | .int k n => .int k n
  | .bool b => .bool b
  | .string s => .str s.data.toList
  | .slice none 0 0 => .nils
  | .pointer none => .nilp
  | .nilFunc => .nilf
  | .nilIface => .nili
  | .map none => .nilm
  | v => .val v
def ofV : Value → AV
  | .agg cs => if cs.toList.all (·.oneCell') then .agg (cs.toList.map ofV1) else .val (.agg cs)
  | v => ofV1 v
theorem rep_ofV1 (m : Mem) (ρ : List Value) (v : Value) : RepA m ρ (ofV1 v) v := by
  unfold ofV1
  split <;> simp only [RepA]
  exact (congrArg Value.string (bstr_data _)).symm
theorem rep_ofV (m : Mem) (ρ : List Value) (v : Value) : RepA m ρ (ofV v) v := by
  unfold ofV
  split
  · rename_i cs
    split
    · rename_i h
      simp only [RepA]
      refine ⟨cs.toList, by simp, ?_, by simpa only [List.all_eq_true] using h⟩
      clear h
      induction cs.toList with
      | nil => simp [RepL]
      | cons u us ih => simp only [List.map_cons, RepL]; exact ⟨rep_ofV1 m ρ u, ih⟩
    · simp only [RepA]
  · exact rep_ofV1 m ρ v

/-! trees of what the call owns -/
inductive OT where
  | dat (t : Ty)
  | sl (E : TypeId) (e : OT)
  | mp (k : Ty) (v : OT)
  | pt (T : TypeId) (e : OT)
  | pair (a b : OT)
@[reducible] def OT.den : OT → Type
  | .dat t => t.den
  | .sl _ e => List e.den
  | .mp k v => List (k.den × v.den)
  | .pt _ e => e.den
  | .pair a b => a.den × b.den
def OT.cells : OT → Nat
  | .dat t => t.cells
  | .pair a b => a.cells + b.cells
  | _ => 1
def OT.aggB : OT → Bool
  | .dat t => t.agg
  | .pair _ _ => true
  | _ => false
def OT.node : OT → Bool
  | .sl _ _ => true
  | .mp _ _ => true
  | .pt _ _ => true
  | _ => false

/-! what the call owns -/
inductive AO where
  | dead
  | var (T : TypeId) (cs : List AV)
  | sl (T : TypeId) (t : Ty) (x : List t.den)
  | map (tk tv : Ty) (x : List (tk.den × tv.den))
  | slo (T T' : TypeId) (t : Ty) (x : List (List t.den))
  | guest (p : Mem → List (Nat × Obj) → Prop)
  | mpt (k : Ty) (v : OT) (x : List (k.den × v.den)) (hs : List (k.den × Nat))

abbrev Frag := List (Nat × Obj)

/-- The elements' cells, one behind the other. -/
def RowsC (m : Mem) (t : Ty) (x : List t.den) (vs : List Value) : Prop := ∃ us : List (List Value), us.length = x.length ∧ vs = us.flatten ∧ ∀ (i : Nat) (y : t.den) (u : List Value), x[i]? = some y → us[i]? = some u → RC m t y u

/-- A slice of the call's own: its handle, where it lies. -/
def SlRep (m : Mem) (T : TypeId) (t : Ty) (x : List t.den) (h : Value) (f : Frag) : Prop :=
  x.length ≤ cap47 ∧ ((x = [] ∧ h = .slice none 0 0 ∧ f = []) ∨ ∃ b c cs vs, h = .slice (some ⟨b, 0, none⟩) x.length c ∧ f = [(b, .cells cs T (0, 0))] ∧ x.length ≤ c ∧ c ≤ maxLen ∧ cs.size = c * t.cells ∧
      RowsC m t x vs ∧ cs.toList.take (x.length * t.cells) = vs)
theorem RowsC.mono {m m' : Mem} (hm : m.le m') {t : Ty} {x : List t.den} {vs : List Value} (h : RowsC m t x vs) : RowsC m' t x vs :=
  let ⟨us, h6, h7, h8⟩ := h; ⟨us, h6, h7, fun i y u hy hu => (h8 i y u hy hu).mono hm⟩
theorem SlRep.mono {m m' : Mem} (hm : m.le m') {T : TypeId} {t : Ty} {x : List t.den} {h : Value} {f : Frag} (H : SlRep m T t x h f) : SlRep m' T t x h f := by
  obtain ⟨h0, H | ⟨b, c, cs, vs, h1, h2, h3, h4, h5, h6, h9⟩⟩ := H
  · exact ⟨h0, .inl H⟩
  · exact ⟨h0, .inr ⟨b, c, cs, vs, h1, h2, h3, h4, h5, h6.mono hm, h9⟩⟩
/-- Rows of the call's own. -/
def RowsO (m : Mem) (T : TypeId) (t : Ty) : List (List t.den) → List Value → List Frag → Prop
  | [], [], [] => True
  | x :: xs, r :: rs, f :: fs => SlRep m T t x r f ∧ RowsO m T t xs rs fs
  | _, _, _ => False
theorem RowsO.mono {m m' : Mem} (hm : m.le m') {T : TypeId} {t : Ty} : ∀ {x : List (List t.den)} {rs : List Value} {fs : List Frag}, RowsO m T t x rs fs → RowsO m' T t x rs fs := by
  intro x
  induction x with
  | nil => intro rs fs h; cases rs with
    | nil => cases fs with
      | nil => trivial
      | cons => exact h.elim
    | cons => exact h.elim
  | cons y x ih => intro rs fs h; cases rs with
    | nil => exact h.elim
    | cons r rs => cases fs with
      | nil => exact h.elim
      | cons f fs => exact ⟨h.1.mono hm, ih h.2⟩

/-- What a tree's part is: its cells, where it lies. -/
def OR (m : Mem) : (o : OT) → o.den → List Value → Frag → Prop
  | .dat t, x, cs, f => RC m t x cs ∧ f = []
  | .pair a b, x, cs, f => ∃ c d g h, cs = c ++ d ∧ f = g ++ h ∧ OR m a x.1 c g ∧ OR m b x.2 d h
  | .pt T e, x, cs, f => ∃ b us g, cs = [.pointer (some ⟨b, 0, none⟩)] ∧ f = (b, .cells us.toArray T (0, 0)) :: g ∧ (∀ u ∈ us, u.oneCell' = true) ∧ OR m e x us g
  | .sl E e, (x : List e.den), cs, f => x.length ≤ cap47 ∧ ((x = [] ∧ cs = [.slice none 0 0] ∧ f = []) ∨
      ∃ (b c : Nat) (arr : Array Value) (us : List (List Value)) (fs : List Frag), cs = [.slice (some ⟨b, 0, none⟩) x.length c] ∧ f = (b, .cells arr E (0, 0)) :: fs.flatten ∧ x.length ≤ c ∧ c ≤ maxLen ∧ arr.size = c * e.cells ∧ us.length = x.length ∧ fs.length = x.length ∧
        arr.toList.take (x.length * e.cells) = us.flatten ∧ ∀ (i : Nat) (y : e.den) (u : List Value) (g : Frag), x[i]? = some y → us[i]? = some u → fs[i]? = some g → OR m e y u g)
  | .mp k v, (x : List (k.den × v.den)), cs, f => ∃ (b : Nat) (es : Array MapEntry) (clock : Nat) (fs : List Frag), cs = [.map (some b)] ∧ f = (b, .map es clock) :: fs.flatten ∧
      es.toList.length = x.length ∧ fs.length = x.length ∧ (x.map (·.1)).Nodup ∧
      ∀ (i : Nat) (p : k.den × v.den) (e : MapEntry) (g : Frag), x[i]? = some p → es.toList[i]? = some e → fs[i]? = some g → RV m k p.1 e.key ∧ ∃ us : List Value, (if v.aggB then e.val = .agg us.toArray else us = [e.val]) ∧ OR m v p.2 us g
theorem RV.mono {m m' : Mem} (hm : m.le m') {t : Ty} {x : t.den} {v : Value} (h : RV m t x v) : RV m' t x v := by
  unfold RV at h ⊢
  split
  · rename_i ha; rw [if_pos ha] at h; obtain ⟨cs, h1, h2⟩ := h; exact ⟨cs, h1, h2.mono hm⟩
  · rename_i ha; rw [if_neg ha] at h; exact h.mono hm
theorem OR.mono {m m' : Mem} (hm : m.le m') : ∀ {o : OT} {x : o.den} {cs : List Value} {f : Frag}, OR m o x cs f → OR m' o x cs f := by
  intro o
  induction o with
  | dat t => intro x cs f h; exact ⟨h.1.mono hm, h.2⟩
  | pair a b iha ihb => intro x cs f h; obtain ⟨c, d, g, k, h1, h2, h3, h4⟩ := h; exact ⟨c, d, g, k, h1, h2, iha h3, ihb h4⟩
  | pt T e ih => intro x cs f h; obtain ⟨b, us, g, h1, h2, h3, h4⟩ := h; exact ⟨b, us, g, h1, h2, h3, ih h4⟩
  | sl E e ih =>
    intro x cs f h
    obtain ⟨h0, h | ⟨b, c, arr, us, fs, h1, h2, h3, h4, h5, h6, h7, h8, h9⟩⟩ := h
    · exact ⟨h0, .inl h⟩
    · exact ⟨h0, .inr ⟨b, c, arr, us, fs, h1, h2, h3, h4, h5, h6, h7, h8, fun i y u g a1 a2 a3 => ih (h9 i y u g a1 a2 a3)⟩⟩
  | mp k v ih =>
    intro x cs f h
    obtain ⟨b, es, clock, fs, h1, h2, h3, h4, h5, h6⟩ := h
    refine ⟨b, es, clock, fs, h1, h2, h3, h4, h5, fun i p e g a1 a2 a3 => ?_⟩
    obtain ⟨b1, us, b2, b3⟩ := h6 i p e g a1 a2 a3
    exact ⟨b1.mono hm, us, b2, ih b3⟩
/-- What is taken out of a map has a handle; where there is no entry it is nil. -/
def HoleOk {κ : Type} (ρ : List Value) (ks : List κ) (q : κ × Nat) : Prop := (∃ u, ρ[q.2]? = some u) ∧ (q.1 ∉ ks → ρ[q.2]? = some (.slice none 0 0))
theorem HoleOk.tr {κ : Type} {ρ ρ' : List Value} {ks : List κ} {z : κ} {n n' : Nat} (h : HoleOk ρ ks (z, n)) (hr : ∀ u, ρ[n]? = some u → ρ'[n']? = some u) : HoleOk ρ' ks (z, n') :=
  ⟨let ⟨u, hu⟩ := h.1; ⟨u, hr u hu⟩, fun hz => hr _ (h.2 hz)⟩
/-- An entry of a map of what the call owns: what it leads to may be taken out. -/
def EntT (m : Mem) (ρ : List Value) (k : Ty) (v : OT) (hs : List (k.den × Nat)) (p : k.den × v.den) (e : MapEntry) (g : Frag) : Prop :=
  (RV m k p.1 e.key ∧ e.val.oneCell' = true) ∧ (∀ n, (p.1, n) ∈ hs → g = [] ∧ ρ[n]? = some e.val) ∧ ((∀ n, (p.1, n) ∉ hs) → OR m v p.2 [e.val] g)
theorem EntT.mono {m m' : Mem} {ρ ρ' : List Value} (hm : m.le m') (hρ : ∀ (i : Nat) (h : Value), ρ[i]? = some h → ρ'[i]? = some h) {k : Ty} {v : OT} {hs : List (k.den × Nat)} {p : k.den × v.den} {e : MapEntry} {g : Frag} (h : EntT m ρ k v hs p e g) : EntT m' ρ' k v hs p e g :=
  ⟨⟨h.1.1.mono hm, h.1.2⟩, fun n hn => ⟨(h.2.1 n hn).1, hρ _ _ (h.2.1 n hn).2⟩, fun hn => (h.2.2 hn).mono hm⟩

/-- An object's handle and where it lies. -/
def ORep (m : Mem) (ρ : List Value) : AO → Value → Frag → Prop
  | .dead, _, f => f = []
  | .var T cs, h, f => ∃ b us, h = .pointer (some ⟨b, 0, none⟩) ∧ f = [(b, .cells us.toArray T (0, 0))] ∧ RepL m ρ cs us ∧ (∀ u ∈ us, u.oneCell' = true)
  | .sl T t x, h, f => x.length ≤ cap47 ∧ ((x = [] ∧ h = .slice none 0 0 ∧ f = []) ∨ ∃ b c cs vs, h = .slice (some ⟨b, 0, none⟩) x.length c ∧ f = [(b, .cells cs T (0, 0))] ∧ x.length ≤ c ∧ c ≤ maxLen ∧ cs.size = c * t.cells ∧
      RowsC m t x vs ∧ cs.toList.take (x.length * t.cells) = vs)
  | .slo T T' t x, h, f => ∃ rs fs f0 b c cs, h = .tuple (.slice (some ⟨b, 0, none⟩) x.length c :: rs).toArray ∧ f = f0 ++ fs.flatten ∧ f0 = [(b, .cells cs T (0, 0))] ∧ x.length ≤ cap47 ∧ x.length ≤ c ∧ c ≤ maxLen ∧ cs.size = c ∧ cs.toList.take x.length = rs ∧ RowsO m T' t x rs fs
  | .guest p, h, f => ∃ m0, m0.le m ∧ p m0 f
  | .mpt k v x hs, h, f => v.node = true ∧ (∀ q ∈ hs, HoleOk ρ (x.map (·.1)) q) ∧ ∃ (b : Nat) (es : Array MapEntry) (clock : Nat) (fs : List Frag), h = .map (some b) ∧ f = (b, .map es clock) :: fs.flatten ∧ es.toList.length = x.length ∧ fs.length = x.length ∧ (x.map (·.1)).Nodup ∧
      ∀ (i : Nat) (p : k.den × v.den) (e : MapEntry) (g : Frag), x[i]? = some p → es.toList[i]? = some e → fs[i]? = some g → EntT m ρ k v hs p e g
  | .map tk tv x, h, f => ∃ b es clock, h = .map (some b) ∧ f = [(b, .map es clock)] ∧ es.toList.length = x.length ∧ (x.map (·.1)).Nodup ∧ ∀ (i : Nat) (p : tk.den × tv.den) (e : MapEntry), x[i]? = some p → es.toList[i]? = some e → RV m tk p.1 e.key ∧ RV m tv p.2 e.val

theorem ORep.mono {m m' : Mem} {ρ ρ' : List Value} (hm : m.le m') (hρ : ∀ (i : Nat) (h : Value), ρ[i]? = some h → ρ'[i]? = some h) {o : AO} {h : Value} {f : Frag} (H : ORep m ρ o h f) : ORep m' ρ' o h f := by
  cases o with
  | dead => exact H
  | var T cs => obtain ⟨b, us, h1, h2, h3, h4⟩ := H; exact ⟨b, us, h1, h2, RepL.mono hm hρ cs h3, h4⟩
  | sl T t x =>
    obtain ⟨h0, H | ⟨b, c, cs, vs, h1, h2, h3, h4, h5, ⟨us, h6, h7, h8⟩, h9⟩⟩ := H
    · exact ⟨h0, .inl H⟩
    · exact ⟨h0, .inr ⟨b, c, cs, vs, h1, h2, h3, h4, h5, ⟨us, h6, h7, fun i y u hy hu => (h8 i y u hy hu).mono hm⟩, h9⟩⟩
  | slo T T' t x =>
    obtain ⟨rs, fs, f0, b, c, cs, h1, h2, h3, h4, h5, h6, h7, h8, h9⟩ := H
    exact ⟨rs, fs, f0, b, c, cs, h1, h2, h3, h4, h5, h6, h7, h8, h9.mono hm⟩
  | guest p => obtain ⟨m0, h1, h2⟩ := H; exact ⟨m0, h1.trans hm, h2⟩
  | mpt k v x hs => obtain ⟨h0, h00, b, es, cl, fs, h1, h2, h3, h4, h5, h6⟩ := H; exact ⟨h0, fun q hq => (h00 q hq).tr (fun u hu => hρ _ _ hu), b, es, cl, fs, h1, h2, h3, h4, h5, fun i p e g a1 a2 a3 => (h6 i p e g a1 a2 a3).mono hm hρ⟩
  | map tk tv x =>
    obtain ⟨b, es, cl, h1, h2, h3, h4, h5⟩ := H
    refine ⟨b, es, cl, h1, h2, h3, h4, fun i p e hp he => ?_⟩
    have hv : ∀ {t : Ty} {x : t.den} {v : Value}, RV m t x v → RV m' t x v := by
      intro t x v h
      unfold RV at h ⊢
      split
      · rename_i ha; rw [if_pos ha] at h; obtain ⟨cs, h1, h2⟩ := h; exact ⟨cs, h1, h2.mono hm⟩
      · rename_i ha; rw [if_neg ha] at h; exact h.mono hm
    exact ⟨hv (h5 i p e hp he).1, hv (h5 i p e hp he).2⟩

/-! the world: what is read alone, what is owned -/
structure SH (e w : World) (m : Mem) (f : Frag) : Prop where
  os : w.os = e.os
  tape : w.tape = e.tape
  output : w.output = e.output
  fz : ∀ b o, m b = some o → w.heap[b]? = some o
  own : ∀ p ∈ f, w.heap[p.1]? = some p.2
  nd : (f.map (·.1)).Nodup
  dis : ∀ p ∈ f, m p.1 = none
  noctl : ∀ p ∈ f, ctl p.2 = false
  mctl : ∀ b o, m b = some o → ctl o = false

theorem SH.perm {e w : World} {m : Mem} {f g : Frag} (h : SH e w m f) (hp : f.Perm g) : SH e w m g :=
  ⟨h.os, h.tape, h.output, h.fz, fun p hm => h.own p (hp.mem_iff.2 hm), (hp.map _).nodup_iff.1 h.nd, fun p hm => h.dis p (hp.mem_iff.2 hm), fun p hm => h.noctl p (hp.mem_iff.2 hm), h.mctl⟩

theorem SH.lt {e w : World} {m : Mem} {f : Frag} (h : SH e w m f) {p : Nat × Obj} (hp : p ∈ f) : p.1 < w.heap.size := (Array.getElem?_eq_some_iff.1 (h.own p hp)).1

/-- A new block. -/
theorem SH.alloc {e w w' : World} {m : Mem} {f : Frag} {b : Nat} {o : Obj} (h : SH e w m f) (hN : New w w' b o) (ho : ctl o = false) : SH e w' m ((b, o) :: f) := by
  have hlt : ∀ x o', w.heap[x]? = some o' → x < w.heap.size := fun x o' hx => (Array.getElem?_eq_some_iff.1 hx).1
  refine ⟨hN.ext.os.trans h.os, hN.ext.tape.trans h.tape, hN.ext.output.trans h.output, fun x o' hx => (hN.ext.block x (hlt _ _ (h.fz _ _ hx))).trans (h.fz _ _ hx), ?_, ?_, ?_, ?_, h.mctl⟩
  · intro p hp
    rcases List.mem_cons.1 hp with rfl | hp
    · exact hN.blk
    · exact (hN.ext.block _ (h.lt hp)).trans (h.own p hp)
  · rw [List.map_cons, List.nodup_cons]
    refine ⟨fun hm => ?_, h.nd⟩
    obtain ⟨p, hp, he⟩ := List.mem_map.1 hm
    have := h.lt hp
    have h3 : b = w.heap.size := hN.eq
    simp only at he
    omega
  · intro p hp
    rcases List.mem_cons.1 hp with rfl | hp
    · show m b = none
      cases hb : m b with
      | none => rfl
      | some o' => have := hlt _ _ (h.fz _ _ hb); rw [hN.eq] at this; omega
    · exact h.dis p hp
  · intro p hp
    rcases List.mem_cons.1 hp with rfl | hp
    · exact ho
    · exact h.noctl p hp

/-- What is owned is written. -/
theorem SH.put {e w w' : World} {m : Mem} {f : Frag} {b : Nat} {o o' : Obj} (h : SH e w m ((b, o) :: f)) (hP : Put w w' b) (hb : w'.heap[b]? = some o') (ho : ctl o' = false) : SH e w' m ((b, o') :: f) := by
  have hnd := h.nd
  rw [List.map_cons, List.nodup_cons] at hnd
  refine ⟨hP.os.trans h.os, hP.tape.trans h.tape, hP.output.trans h.output, fun x o' hx => (hP.other x ?_).trans (h.fz _ _ hx), ?_, ?_, ?_, ?_, h.mctl⟩
  · rintro rfl
    have := h.dis (x, o) (by simp)
    simp only at this
    rw [this] at hx; cases hx
  · intro p hp
    rcases List.mem_cons.1 hp with rfl | hp
    · exact hb
    · refine (hP.other _ ?_).trans (h.own p (by simp [hp]))
      intro he
      exact hnd.1 (List.mem_map.2 ⟨p, hp, he⟩)
  · rw [List.map_cons, List.nodup_cons]; exact hnd
  · intro p hp
    rcases List.mem_cons.1 hp with rfl | hp
    · exact h.dis (b, o) (by simp)
    · exact h.dis p (by simp [hp])
  · intro p hp
    rcases List.mem_cons.1 hp with rfl | hp
    · exact ho
    · exact h.noctl p (by simp [hp])

/-- Nothing that was there turns. -/
theorem SH.ext {e w w' : World} {m : Mem} {f : Frag} (h : SH e w m f) (hB : Below w.heap.size w w') : SH e w' m f := by
  have hlt : ∀ x o', w.heap[x]? = some o' → x < w.heap.size := fun x o' hx => (Array.getElem?_eq_some_iff.1 hx).1
  exact ⟨hB.os.trans h.os, hB.tape.trans h.tape, hB.output.trans h.output, fun x o hx => (hB.block x (hlt _ _ (h.fz _ _ hx))).trans (h.fz _ _ hx), fun p hp => (hB.block _ (h.lt hp)).trans (h.own p hp), h.nd, h.dis, h.noctl, h.mctl⟩

/-- What was owned is read alone from now on. -/
def Mem.add (m : Mem) (g : Frag) : Mem := fun b => match m b with
  | some o => some o
  | none => (g.find? fun p => Nat.beq p.1 b).map (·.2)
theorem Mem.le_add (m : Mem) (g : Frag) : m.le (m.add g) := fun b o h => by simp [Mem.add, h]
theorem SH.frz {e w : World} {m : Mem} {g f : Frag} (h : SH e w m (g ++ f)) : SH e w (m.add g) f := by
  have hnd := h.nd
  rw [List.map_append, List.nodup_append] at hnd
  refine ⟨h.os, h.tape, h.output, ?_, fun p hp => h.own p (by simp [hp]), hnd.2.1, ?_, fun p hp => h.noctl p (by simp [hp]), ?_⟩
  · intro b o hb
    unfold Mem.add at hb
    split at hb
    · rename_i o' ho; cases hb; exact h.fz _ _ ho
    · rw [Option.map_eq_some_iff] at hb
      obtain ⟨p, hp, rfl⟩ := hb
      have h1 := List.mem_of_find?_eq_some hp
      have h2 := List.find?_some hp
      have h3 : p.1 = b := Nat.eq_of_beq_eq_true h2
      subst h3
      exact h.own p (by simp [h1])
  · intro p hp
    unfold Mem.add
    rw [h.dis p (by simp [hp])]
    simp only [Option.map_eq_none_iff, List.find?_eq_none]
    intro q hq he
    have h3 : q.1 = p.1 := Nat.eq_of_beq_eq_true he
    exact hnd.2.2 q.1 (List.mem_map.2 ⟨q, hq, rfl⟩) p.1 (List.mem_map.2 ⟨p, hp, rfl⟩) h3
  · intro b o hb
    unfold Mem.add at hb
    split at hb
    · rename_i o' ho; cases hb; exact h.mctl _ _ ho
    · rw [Option.map_eq_some_iff] at hb
      obtain ⟨p, hp, rfl⟩ := hb
      exact h.noctl p (by simp [List.mem_of_find?_eq_some hp])
theorem SH.weak {e w : World} {m m' : Mem} {f : Frag} (h : SH e w m f) (hm : m'.le m) : SH e w m' f :=
  ⟨h.os, h.tape, h.output, fun b o hb => h.fz b o (hm b o hb), h.own, h.nd, fun p hp => (by
    cases hx : m' p.1 with
    | none => rfl
    | some o => have := hm _ _ hx; rw [h.dis p hp] at this; cases this), h.noctl, fun b o hb => h.mctl b o (hm b o hb)⟩
theorem add_get {m : Mem} {g : Frag} {b : Nat} {o : Obj} (hnd : (g.map (·.1)).Nodup) (hg : (b, o) ∈ g) (hm : m b = none) : m.add g b = some o := by
  unfold Mem.add
  rw [hm]
  simp only [Option.map_eq_some_iff]
  refine ⟨(b, o), ?_, rfl⟩
  induction g with
  | nil => cases hg
  | cons p g ih =>
    rw [List.map_cons, List.nodup_cons] at hnd
    rcases List.mem_cons.1 hg with rfl | hg
    · simp
    · have : p.1 ≠ b := fun e => hnd.1 (List.mem_map.2 ⟨(b, o), hg, e.symm⟩)
      have h2 : Nat.beq p.1 b = false := by
        rw [Bool.eq_false_iff]; intro hc; exact this (Nat.eq_of_beq_eq_true hc)
      rw [List.find?_cons_of_neg (by simp [h2])]
      exact ih hnd.2 hg
end Go.Ab

set_option linter.unusedVariables false
set_option linter.unusedSimpArgs false
namespace Go.Ab
open Go.RowKit Go.Shelf Go.Proofs Go.Eng

theorem flatten_at {α : Type} : ∀ {us : List (List α)} {c j : Nat} {v : α}, (∀ u ∈ us, u.length = c) → us.flatten[j]? = some v → ∃ z r u, j = z * c + r ∧ us[z]? = some u ∧ u[r]? = some v := by
  intro us
  induction us with
  | nil => intro c j v _ h; simp at h
  | cons w us ih =>
    intro c j v hall h
    have hw := hall w (by simp)
    rw [List.flatten_cons] at h
    rcases Nat.lt_or_ge j w.length with hj | hj
    · rw [List.getElem?_append_left hj] at h
      exact ⟨0, j, w, by omega, rfl, h⟩
    · rw [List.getElem?_append_right hj] at h
      obtain ⟨z, r, u, h1, h2, h3⟩ := ih (fun u hu => hall u (by simp [hu])) h
      exact ⟨z + 1, r, u, by rw [Nat.add_mul]; omega, by simpa using h2, h3⟩

def allM (w : World) (f : Frag) : Mem := fun b => if (f.map (·.1)).contains b then none else (w.heap[b]?).filter fun o => !ctl o
theorem flatK_list {α : Type} [Inhabited α] {enc : α → List Value} {k : Nat} (hk : ∀ x, (enc x).length = k) (d : List α) : (Go.Sort.flatK enc k d.toArray).toList = (d.map enc).flatten := by
  have hl : (d.map enc).flatten.length = d.length * k := by
    rw [flatten_len (k := k) (by simp : (d.map enc).length = d.length)]
    intro u hu
    obtain ⟨x, _, rfl⟩ := List.mem_map.1 hu
    exact hk x
  apply List.ext_getElem?
  intro j
  rcases Nat.lt_or_ge j (d.length * k) with hj | hj
  · obtain ⟨v, hv⟩ : ∃ v, (d.map enc).flatten[j]? = some v := ⟨_, List.getElem?_eq_getElem (by rw [hl]; exact hj)⟩
    obtain ⟨z, r, u, e, h2, h3⟩ := flatten_at (c := k) (fun u hu => by
      obtain ⟨x, _, rfl⟩ := List.mem_map.1 hu
      exact hk x) hv
    rw [List.getElem?_map] at h2
    cases hz : d[z]? with
    | none => rw [hz] at h2; cases h2
    | some x =>
      rw [hz] at h2
      cases h2
      have hzl := (List.getElem?_eq_some_iff.1 hz).1
      have hr : r < k := by have := (List.getElem?_eq_some_iff.1 h3).1; rw [hk] at this; exact this
      have hd : j / k = z := by rw [e, Nat.mul_comm, Nat.mul_add_div (by omega), Nat.div_eq_of_lt hr]; omega
      have hm : j % k = r := by rw [e, Nat.mul_comm, Nat.mul_add_mod, Nat.mod_eq_of_lt hr]
      rw [hv]
      simp only [Go.Sort.flatK, Array.toList_map, List.getElem?_map, Array.toList_range, List.size_toArray]
      rw [List.getElem?_range hj, Option.map_some, hd, hm]
      congr 1
      have h4 : d.toArray[z]! = x := by
        rw [getElem!_pos d.toArray z (by simpa using hzl)]
        have := (List.getElem?_eq_some_iff.1 hz).2
        simpa using this
      rw [h4, getElem!_pos (enc x) r (by rw [hk]; exact hr)]
      exact (List.getElem?_eq_some_iff.1 h3).2
  · rw [List.getElem?_eq_none (by simp only [Go.Sort.flatK, Array.toList_map, List.length_map, Array.toList_range, List.length_range, List.size_toArray]; exact hj), List.getElem?_eq_none (by rw [hl]; exact hj)]

/-- A row of the call's own, its cells written anew. -/
theorem row_putV {e w : World} {m : Mem} {F : Frag} {b E : Nat} {cs : Array Value} {vs ys : List Value} (hs : SH e w m ((b, .cells cs E (0, 0)) :: F)) (hv : cs.toList.take vs.length = vs) (hle : vs.length ≤ cs.size) (hl : ys.length = vs.length) :
    Sort.Holds id w b 0 vs.toArray ∧ b < w.heap.size ∧ ∀ n os, ∃ cs', cs'.size = cs.size ∧ cs'.toList.take vs.length = ys ∧ SH e (Sort.grow (Sort.putRow id (Sort.ahead w n) b 0 ys.toArray) os) m ((b, .cells cs' E (0, 0)) :: F) ∧ DK none w (Sort.grow (Sort.putRow id (Sort.ahead w n) b 0 ys.toArray) os) := by
  have hb := hs.own (b, .cells cs E (0, 0)) (by simp)
  simp only at hb
  have hbl := (Array.getElem?_eq_some_iff.1 hb).1
  refine ⟨fun j hj => ?_, hbl, fun n os => ?_⟩
  · have hj' : j < vs.length := by simpa using hj
    refine ⟨?_, ?_⟩
    · simp only [World.cell?, hb, Nat.zero_add]
      have h2 := congrArg (fun l => l[j]?) hv
      simp only [List.getElem?_take, hj', if_true, List.getElem?_eq_getElem hj'] at h2
      rw [getElem!_pos _ j hj]
      simpa using h2
    · simp [World.frozen?, hb]
  · obtain ⟨w1, hw1⟩ : ∃ w1, w1 = Sort.putRow id (Sort.ahead w n) b 0 ys.toArray := ⟨_, rfl⟩
    have hget : ∀ k, w1.heap[k]? = if b = k then (w.heap[k]?).map (Sort.onCells (Sort.putCells id 0 ys.toArray)) else w.heap[k]? := by
      intro k
      rw [hw1]
      simp only [Sort.putRow, Sort.mapBlock, Sort.ahead, Array.getElem?_modify]
    have hP : Put w w1 b := by
      refine ⟨by rw [hw1]; rfl, by rw [hw1]; rfl, by rw [hw1]; rfl, by rw [hw1]; simp [Sort.putRow, Sort.mapBlock, Sort.ahead], fun k hk => ?_⟩
      rw [hget, if_neg (fun e => hk e.symm)]
    have hb1 : w1.heap[b]? = some (.cells (Sort.putCells id 0 ys.toArray cs) E (0, 0)) := by
      rw [hget, if_pos rfl, hb]; rfl
    have hs1 := hs.put hP hb1 rfl
    have hBl : Below w1.heap.size w1 (Sort.grow w1 os) := ⟨rfl, rfl, rfl, by simp, fun k hk => Sort.heap_grow_old w1 os hk⟩
    rw [← hw1]
    have hsz : (Sort.putCells id 0 ys.toArray cs).size = cs.size := by simp [Sort.putCells]
    refine ⟨_, hsz, ?_, hs1.ext hBl, ?_⟩
    · apply List.ext_getElem?
      intro j
      rw [List.getElem?_take]
      rcases Nat.lt_or_ge j vs.length with hj | hj
      · have hjc : j < cs.size := by omega
        have hjy : j < ys.length := by omega
        have hyj : ys[j]? = some (ys[j]'hjy) := List.getElem?_eq_getElem hjy
        rw [if_pos hj, hyj]
        have h9 : (Sort.putCells id 0 ys.toArray cs)[j]? = some (ys[j]'hjy) := by
          simp only [Sort.putCells, Array.getElem?_mapIdx, Array.getElem?_eq_getElem hjc, Option.map_some, Nat.zero_le, true_and, Nat.zero_add, Nat.sub_zero, List.size_toArray, hjy, if_true, id]
          rw [getElem!_pos _ j (by simpa using hjy)]
          simp
        simpa using h9
      · rw [if_neg (by omega), List.getElem?_eq_none (by omega)]
    · intro k o hk hcx _
      have hkl := (Array.getElem?_eq_some_iff.1 hk).1
      rw [Sort.heap_grow_old w1 os (by rw [hP.size]; exact hkl), hget]
      split
      · rename_i e'; subst e'; rw [hb] at hk; cases hk; cases hcx
      · exact hk


end Go.Ab
