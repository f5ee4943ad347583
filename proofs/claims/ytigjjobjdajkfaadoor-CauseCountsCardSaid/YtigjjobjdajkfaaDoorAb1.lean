/- Lemmas for a law of the seat: what functions of the program do, each stated as a contract of its own (Ab1). -/
import Derived.Test.YtigjjobjdajkfaaDoorEng
import Derived.Laws.MakeOwn
set_option linter.unusedVariables false
set_option linter.unusedSimpArgs false
namespace Go.Ab
open Go.RowKit Go.Shelf Go.Proofs Go.Eng

/-! data by value -/
abbrev Str := List UInt8
def bstr (s : Str) : ByteArray := ⟨s.toArray⟩
theorem bstr_data (b : ByteArray) : bstr b.data.toList = b := by cases b; simp [bstr]
theorem bstr_size (s : Str) : (bstr s).size = s.length := by simp [bstr, ByteArray.size]
theorem bstr_inj {s t : Str} (h : bstr s = bstr t) : s = t := by simpa [bstr] using h

/-- What one cell holds. -/
abbrev Cell1 := { v : Value // v.oneCell' = true }
/-- The types of data. A struct is 'st' of its fields in pairs; a short array likewise. -/
inductive Ty where
  | int (k : IntKind)
  | bool
  | str
  | unit
  | pair (a b : Ty)
  | st (a : Ty)
  | slice (e : Ty)
  | arr (n : Nat) (e : Ty)
  | raw (z : Cell1)
  | map (k v : Ty)
@[reducible] def Ty.den : Ty → Type
  | .int _ => Int
  | .bool => Bool
  | .str => Str
  | .unit => Unit
  | .pair a b => a.den × b.den
  | .st a => a.den
  | .slice e => List e.den
  | .arr _ e => List e.den
  | .raw _ => Cell1
  | .map k v => List (k.den × v.den)
def Ty.dflt : (t : Ty) → t.den
  | .int _ => (0 : Int)
  | .bool => false
  | .str => ([] : List UInt8)
  | .unit => ()
  | .pair a b => (a.dflt, b.dflt)
  | .st a => a.dflt
  | .slice e => ([] : List e.den)
  | .arr n e => List.replicate n e.dflt
  | .raw z => z
  | .map k v => ([] : List (k.den × v.den))
def Ty.cells : Ty → Nat
  | .int _ => 1
  | .bool => 1
  | .str => 1
  | .unit => 0
  | .pair a b => a.cells + b.cells
  | .st a => a.cells
  | .slice _ => 1
  | .arr n e => n * e.cells
  | .raw _ => 1
  | .map _ _ => 1
/-- Values of this type are aggregates. -/
def Ty.agg : Ty → Bool
  | .st _ => true
  | .arr _ _ => true
  | .unit => true
  | .pair _ _ => true
  | _ => false

/-! memory that is read alone -/
abbrev Mem := Nat → Option Obj
def Mem.le (m m' : Mem) : Prop := ∀ b o, m b = some o → m' b = some o
theorem Mem.le_refl (m : Mem) : m.le m := fun _ _ h => h
theorem Mem.le.trans {a b c : Mem} (h : a.le b) (k : b.le c) : a.le c := fun x o hx => k x o (h x o hx)

def CellsM (m : Mem) (b off : Nat) (vs : List Value) : Prop := ∀ j v, vs[j]? = some v → ∃ cs T fr, m b = some (.cells cs T fr) ∧ cs[off + j]? = some v
theorem CellsM.mono {m m' : Mem} {b off : Nat} {vs : List Value} (h : CellsM m b off vs) (hm : m.le m') : CellsM m' b off vs := fun j v hj => let ⟨cs, T, fr, h1, h2⟩ := h j v hj; ⟨cs, T, fr, hm _ _ h1, h2⟩

/-- The most elements that a slice has. -/
abbrev cap47 : Nat := 140737488355328

/-- The stamps of a map's entries. -/
def Births (es : Array MapEntry) (clock : Nat) : Prop := (es.toList.map (·.born)).Nodup ∧ ∀ e ∈ es.toList, e.born < clock
/-- The cells 'cs' hold the datum. -/
def RC (m : Mem) : (t : Ty) → t.den → List Value → Prop
  | .int k, x, cs => cs = [.int k x]
  | .bool, x, cs => cs = [.bool x]
  | .str, x, cs => cs = [.string (bstr x)]
  | .unit, _, cs => cs = []
  | .pair a b, x, cs => ∃ c d, cs = c ++ d ∧ RC m a x.1 c ∧ RC m b x.2 d
  | .st a, x, cs => RC m a x cs
  | .slice e, (x : List e.den), cs => ∃ A n c, cs = [.slice A n c] ∧ x.length = n ∧ n ≤ c ∧ n ≤ cap47 ∧ ∃ b o, (0 < n → A = some ⟨b, o, none⟩) ∧ ∀ (i : Nat) (y : e.den), x[i]? = some y → ∃ us, RC m e y us ∧ CellsM m b (o + i * e.cells) us
  | .arr n e, (x : List e.den), cs => x.length = n ∧ ∃ us : List (List Value), us.length = n ∧ cs = us.flatten ∧ ∀ (i : Nat) (y : e.den) (u : List Value), x[i]? = some y → us[i]? = some u → RC m e y u
  | .raw _, x, cs => cs = [x.1]
  | .map k v, (x : List (k.den × v.den)), cs => (x = [] ∧ cs = [.map none]) ∨ ∃ (b : Nat) (es : Array MapEntry) (clock : Nat), cs = [.map (some b)] ∧ m b = some (.map es clock) ∧ es.toList.length = x.length ∧ (x.map (·.1)).Nodup ∧ Births es clock ∧
      ∀ (i : Nat) (p : k.den × v.den) (e : MapEntry), x[i]? = some p → es.toList[i]? = some e → (if k.agg then ∃ us, e.key = .agg us.toArray ∧ RC m k p.1 us else RC m k p.1 [e.key]) ∧ (if v.agg then ∃ us, e.val = .agg us.toArray ∧ RC m v p.2 us else RC m v p.2 [e.val])

theorem RC.mono {m m' : Mem} (hm : m.le m') : ∀ {t : Ty} {x : t.den} {cs : List Value}, RC m t x cs → RC m' t x cs := by
  intro t
  induction t with
  | int k => intro x cs h; exact h
  | bool => intro x cs h; exact h
  | str => intro x cs h; exact h
  | unit => intro x cs h; exact h
  | pair a b iha ihb => intro x cs h; obtain ⟨c, d, h1, h2, h3⟩ := h; exact ⟨c, d, h1, iha h2, ihb h3⟩
  | st a ih => intro x cs h; exact ih (x := x) h
  | slice e ih =>
    intro x cs h
    obtain ⟨A, n, c, h1, h2, h3, h4, b, o, h5, h6⟩ := h
    exact ⟨A, n, c, h1, h2, h3, h4, b, o, h5, fun i y hy => let ⟨us, h7, h8⟩ := h6 i y hy; ⟨us, ih h7, h8.mono hm⟩⟩
  | arr n e ih =>
    intro x cs h
    obtain ⟨h1, us, h2, h3, h4⟩ := h
    exact ⟨h1, us, h2, h3, fun i y u hy hu => ih (h4 i y u hy hu)⟩
  | raw z => intro x cs h; exact h
  | map k v ihk ihv =>
    intro x cs h
    rcases h with h | ⟨b, es, clock, h1, h2, h3, h4, h5, h6⟩
    · exact .inl h
    · refine .inr ⟨b, es, clock, h1, hm _ _ h2, h3, h4, h5, fun i p e a1 a2 => ?_⟩
      obtain ⟨g1, g2⟩ := h6 i p e a1 a2
      refine ⟨?_, ?_⟩
      · split at g1
        · rename_i ha; rw [if_pos ha]; obtain ⟨us, q1, q2⟩ := g1; exact ⟨us, q1, ihk q2⟩
        · rename_i ha; rw [if_neg ha]; exact ihk g1
      · split at g2
        · rename_i ha; rw [if_pos ha]; obtain ⟨us, q1, q2⟩ := g2; exact ⟨us, q1, ihv q2⟩
        · rename_i ha; rw [if_neg ha]; exact ihv g2

theorem flatten_len {us : List (List Value)} {n k : Nat} (h : us.length = n) (hk : ∀ u ∈ us, u.length = k) : us.flatten.length = n * k := by
  subst h
  induction us with
  | nil => simp
  | cons u us ih =>
    rw [List.flatten_cons, List.length_append, hk u (by simp), ih (fun v hv => hk v (by simp [hv])), List.length_cons, Nat.add_mul]
    omega

theorem RC.len {m : Mem} : ∀ {t : Ty} {x : t.den} {cs : List Value}, RC m t x cs → cs.length = t.cells := by
  intro t
  induction t with
  | int k => intro x cs h; cases h; rfl
  | bool => intro x cs h; cases h; rfl
  | str => intro x cs h; cases h; rfl
  | unit => intro x cs h; cases h; rfl
  | pair a b iha ihb => intro x cs h; obtain ⟨c, d, rfl, h2, h3⟩ := h; simp [iha h2, ihb h3, Ty.cells]
  | st a ih => intro x cs h; exact ih (x := x) h
  | slice e ih => intro x cs h; obtain ⟨A, n, c, rfl, _⟩ := h; rfl
  | arr n e ih =>
    intro x cs h
    obtain ⟨h1, us, h2, rfl, h4⟩ := h
    refine flatten_len h2 fun u hu => ?_
    obtain ⟨i, hi, rfl⟩ := List.getElem_of_mem hu
    exact ih (h4 i (x[i]'(by omega)) _ (List.getElem?_eq_getElem (by omega)) (List.getElem?_eq_getElem hi))
  | raw z => intro x cs h; cases h; rfl
  | map k v ihk ihv =>
    intro x cs h
    rcases h with ⟨_, rfl⟩ | ⟨b, es, clock, rfl, _⟩ <;> rfl

/-- No cell holds an aggregate. -/
theorem RC.one {m : Mem} : ∀ {t : Ty} {x : t.den} {cs : List Value}, RC m t x cs → ∀ v ∈ cs, v.oneCell' = true := by
  intro t
  induction t with
  | int k => intro x cs h; cases h; intro v hv; simp at hv; subst hv; rfl
  | bool => intro x cs h; cases h; intro v hv; simp at hv; subst hv; rfl
  | str => intro x cs h; cases h; intro v hv; simp at hv; subst hv; rfl
  | unit => intro x cs h; cases h; intro v hv; simp at hv
  | pair a b iha ihb =>
    intro x cs h; obtain ⟨c, d, rfl, h2, h3⟩ := h
    intro v hv
    rcases List.mem_append.1 hv with hv | hv
    · exact iha h2 v hv
    · exact ihb h3 v hv
  | st a ih => intro x cs h; exact ih (x := x) h
  | slice e ih => intro x cs h; obtain ⟨A, n, c, rfl, _⟩ := h; intro v hv; simp at hv; subst hv; rfl
  | arr n e ih =>
    intro x cs h
    obtain ⟨h1, us, h2, rfl, h4⟩ := h
    intro v hv
    obtain ⟨u, hu, hvu⟩ := List.mem_flatten.1 hv
    obtain ⟨i, hi, rfl⟩ := List.getElem_of_mem hu
    exact ih (h4 i (x[i]'(by omega)) _ (List.getElem?_eq_getElem (by omega)) (List.getElem?_eq_getElem hi)) v hvu
  | raw z => intro x cs h; cases h; intro v hv; simp at hv; subst hv; exact x.2
  | map k v ihk ihv =>
    intro x cs h
    rcases h with ⟨_, rfl⟩ | ⟨b, es, clock, rfl, _⟩ <;> intro u hu <;> simp at hu <;> subst hu <;> rfl

/-- A value that holds the datum. -/
def RV (m : Mem) (t : Ty) (x : t.den) (v : Value) : Prop := if t.agg then ∃ cs, v = .agg cs.toArray ∧ RC m t x cs else RC m t x [v]

/-! values xs the walk sees them -/
inductive AV where
  | int (k : IntKind) (z : Int)
  | bool (b : Bool)
  | str (s : Str)
  | sl (t : Ty) (x : List t.den)
  | nils
  | rp (cs : List AV)
  | agg (cs : List AV)
  | tup (vs : List AV)
  | ptr (i o : Nat)
  | osl (i : Nat)
  | ep (i sz z o : Nat)
  | map (i : Nat)
  | fn (f : FuncId) (first caps : List AV)
  | nilp
  | nilf
  | nili
  | nilm
  | yld (l : Nat)
  | val (v : Value)
  | clo (a : AV)
  | sog (i : Nat)
  | epg (i k : Nat)
  | row (i k : Nat)
  | epr (i k sz z o : Nat)
  | dm (tk tv : Ty) (x : List (tk.den × tv.den))
  | any
  | bad

mutual
/-- 'v' is what the walk sees, the handles of what the call owns being 'ρ'. -/
def RepA (m : Mem) (ρ : List Value) : AV → Value → Prop
  | .int k z, v => v = .int k z
  | .bool b, v => v = .bool b
  | .str s, v => v = .string (bstr s)
  | .sl t x, v => RC m (.slice t) x [v]
  | .nils, v => v = .slice none 0 0
  | .rp cs, v => ∃ b o us, v = .pointer (some ⟨b, o, none⟩) ∧ RepL m ρ cs us ∧ CellsM m b o us ∧ (∀ u ∈ us, u.oneCell' = true)
  | .agg cs, v => ∃ us, v = .agg us.toArray ∧ RepL m ρ cs us ∧ (∀ u ∈ us, u.oneCell' = true)
  | .tup vs, v => ∃ us, v = .tuple us.toArray ∧ RepL m ρ vs us
  | .ptr i o, v => ∃ b, ρ[i]? = some (.pointer (some ⟨b, 0, none⟩)) ∧ v = .pointer (some ⟨b, o, none⟩)
  | .osl i, v => ρ[i]? = some v ∧ v.oneCell' = true
  | .ep i sz z o, v => ∃ b n c, ρ[i]? = some (.slice (some ⟨b, 0, none⟩) n c) ∧ v = .pointer (some ⟨b, z * sz + o, none⟩)
  | .map i, v => ρ[i]? = some v ∧ v.oneCell' = true
  | .fn f first caps, v => ∃ us ws, v = .func (.func f) us.toArray ws.toArray ∧ RepL m ρ first us ∧ RepL m ρ caps ws
  | .nilp, v => v = .pointer none
  | .nilf, v => v = .nilFunc
  | .nili, v => v = .nilIface
  | .nilm, v => v = .map none
  | .yld l, v => v = .func (.yield l) #[] #[]
  | .val u, v => v = u
  | .clo a, v => RepA m [] a v
  | .sog i, v => ∃ rs, ρ[i]? = some (.tuple (v :: rs).toArray) ∧ v.oneCell' = true
  | .epg i k, v => ∃ b n c rs, ρ[i]? = some (.tuple (.slice (some ⟨b, 0, none⟩) n c :: rs).toArray) ∧ v = .pointer (some ⟨b, k, none⟩)
  | .row i k, v => ∃ h rs, ρ[i]? = some (.tuple (h :: rs).toArray) ∧ rs[k]? = some v ∧ v.oneCell' = true
  | .epr i k sz z o, v => ∃ h rs b n c, ρ[i]? = some (.tuple (h :: rs).toArray) ∧ rs[k]? = some (.slice (some ⟨b, 0, none⟩) n c) ∧ v = .pointer (some ⟨b, z * sz + o, none⟩)
  | .dm tk tv x, v => RC m (.map tk tv) x [v]
  | .any, _ => True
  | .bad, _ => False
def RepL (m : Mem) (ρ : List Value) : List AV → List Value → Prop
  | [], [] => True
  | a :: xs, v :: vs => RepA m ρ a v ∧ RepL m ρ xs vs
  | _, _ => False
end

theorem RepL.len {m : Mem} {ρ : List Value} : ∀ {xs : List AV} {vs : List Value}, RepL m ρ xs vs → vs.length = xs.length := by
  intro xs
  induction xs with
  | nil => intro vs h; cases vs with
    | nil => rfl
    | cons => simp [RepL] at h
  | cons a xs ih => intro vs h; cases vs with
    | nil => simp [RepL] at h
    | cons v vs => simp only [RepL] at h; simp [ih h.2]
theorem RepL.get {m : Mem} {ρ : List Value} : ∀ {xs : List AV} {vs : List Value} {i : Nat} {a : AV}, RepL m ρ xs vs → xs[i]? = some a → ∃ v, vs[i]? = some v ∧ RepA m ρ a v := by
  intro xs
  induction xs with
  | nil => intro vs i a h hi; simp at hi
  | cons a xs ih => intro vs i b h hi; cases vs with
    | nil => simp [RepL] at h
    | cons v vs =>
      simp only [RepL] at h
      cases i with
      | zero => simp at hi; subst hi; exact ⟨v, rfl, h.1⟩
      | succ i => simpa using ih h.2 (by simpa using hi)
theorem RepL.app {m : Mem} {ρ : List Value} : ∀ {xs bs : List AV} {us vs : List Value}, RepL m ρ xs us → RepL m ρ bs vs → RepL m ρ (xs ++ bs) (us ++ vs) := by
  intro xs
  induction xs with
  | nil => intro bs us vs h k; cases us with
    | nil => simpa using k
    | cons => simp [RepL] at h
  | cons a xs ih => intro bs us vs h k; cases us with
    | nil => simp [RepL] at h
    | cons u us => simp only [RepL, List.cons_append] at h ⊢; exact ⟨h.1, ih h.2 k⟩
theorem RepL.split {m : Mem} {ρ : List Value} : ∀ {xs bs : List AV} {vs : List Value}, RepL m ρ (xs ++ bs) vs → ∃ us ws, vs = us ++ ws ∧ RepL m ρ xs us ∧ RepL m ρ bs ws := by
  intro xs
  induction xs with
  | nil => intro bs vs h; exact ⟨[], vs, rfl, by simp [RepL], h⟩
  | cons a xs ih => intro bs vs h; cases vs with
    | nil => simp [RepL] at h
    | cons v vs =>
      simp only [RepL, List.cons_append] at h
      obtain ⟨us, ws, rfl, h1, h2⟩ := ih h.2
      exact ⟨v :: us, ws, rfl, ⟨h.1, h1⟩, h2⟩
theorem RepL.drop {m : Mem} {ρ : List Value} : ∀ (k : Nat) {xs : List AV} {vs : List Value}, RepL m ρ xs vs → RepL m ρ (xs.drop k) (vs.drop k) := by
  intro k
  induction k with
  | zero => intro xs vs h; simpa using h
  | succ k ih => intro xs vs h; cases xs with
    | nil => cases vs with
      | nil => simp [RepL]
      | cons => simp [RepL] at h
    | cons a xs => cases vs with
      | nil => simp [RepL] at h
      | cons v vs => simp only [RepL] at h; simpa using ih h.2
theorem RepL.take {m : Mem} {ρ : List Value} : ∀ (k : Nat) {xs : List AV} {vs : List Value}, RepL m ρ xs vs → RepL m ρ (xs.take k) (vs.take k) := by
  intro k
  induction k with
  | zero => intro xs vs h; simp [RepL]
  | succ k ih => intro xs vs h; cases xs with
    | nil => cases vs with
      | nil => simp [RepL]
      | cons => simp [RepL] at h
    | cons a xs => cases vs with
      | nil => simp [RepL] at h
      | cons v vs => simp only [RepL, List.take_succ_cons] at h ⊢; exact ⟨h.1, ih h.2⟩

mutual
theorem RepA.mono {m m' : Mem} {ρ ρ' : List Value} (hm : m.le m') (hρ : ∀ (i : Nat) (h : Value), ρ[i]? = some h → ρ'[i]? = some h) : ∀ (a : AV) {v : Value}, RepA m ρ a v → RepA m' ρ' a v
  | .int .., v, h => by simpa only [RepA] using h
  | .bool .., v, h => by simpa only [RepA] using h
  | .str .., v, h => by simpa only [RepA] using h
  | .sl .., v, h => by simp only [RepA] at h ⊢; exact h.mono hm
  | .nils, v, h => by simpa only [RepA] using h
  | .rp cs, v, h => by
    simp only [RepA] at h ⊢
    obtain ⟨b, o, us, h1, h2, h3, h4⟩ := h
    exact ⟨b, o, us, h1, RepL.mono hm hρ cs h2, h3.mono hm, h4⟩
  | .agg cs, v, h => by
    simp only [RepA] at h ⊢
    obtain ⟨us, h1, h2, h4⟩ := h
    exact ⟨us, h1, RepL.mono hm hρ cs h2, h4⟩
  | .tup cs, v, h => by
    simp only [RepA] at h ⊢
    obtain ⟨us, h1, h2⟩ := h
    exact ⟨us, h1, RepL.mono hm hρ cs h2⟩
  | .ptr i o, v, h => by simp only [RepA] at h ⊢; obtain ⟨b, h1, h2⟩ := h; exact ⟨b, hρ _ _ h1, h2⟩
  | .osl i, v, h => by simp only [RepA] at h ⊢; exact ⟨hρ _ _ h.1, h.2⟩
  | .ep i sz z o, v, h => by simp only [RepA] at h ⊢; obtain ⟨b, n, c, h1, h2⟩ := h; exact ⟨b, n, c, hρ _ _ h1, h2⟩
  | .map i, v, h => by simp only [RepA] at h ⊢; exact ⟨hρ _ _ h.1, h.2⟩
  | .fn f first caps, v, h => by
    simp only [RepA] at h ⊢
    obtain ⟨us, ws, h1, h2, h3⟩ := h
    exact ⟨us, ws, h1, RepL.mono hm hρ first h2, RepL.mono hm hρ caps h3⟩
  | .nilp, v, h => by simpa only [RepA] using h
  | .nilf, v, h => by simpa only [RepA] using h
  | .nili, v, h => by simpa only [RepA] using h
  | .nilm, v, h => by simpa only [RepA] using h
  | .yld _, v, h => by simpa only [RepA] using h
  | .val _, v, h => by simpa only [RepA] using h
  | .clo a, v, h => by simp only [RepA] at h ⊢; exact RepA.mono hm (fun _ _ h => h) a h
  | .sog i, v, h => by simp only [RepA] at h ⊢; obtain ⟨rs, h1, h2⟩ := h; exact ⟨rs, hρ _ _ h1, h2⟩
  | .epg i k, v, h => by simp only [RepA] at h ⊢; obtain ⟨b, n, c, rs, h1, h2⟩ := h; exact ⟨b, n, c, rs, hρ _ _ h1, h2⟩
  | .row i k, v, h => by simp only [RepA] at h ⊢; obtain ⟨hd, rs, h1, h2⟩ := h; exact ⟨hd, rs, hρ _ _ h1, h2⟩
  | .epr i k sz z o, v, h => by simp only [RepA] at h ⊢; obtain ⟨hd, rs, b, n, c, h1, h2⟩ := h; exact ⟨hd, rs, b, n, c, hρ _ _ h1, h2⟩
  | .dm .., v, h => by simp only [RepA] at h ⊢; exact h.mono hm
  | .any, v, h => by simp only [RepA]
  | .bad, v, h => by simp only [RepA] at h
theorem RepL.mono {m m' : Mem} {ρ ρ' : List Value} (hm : m.le m') (hρ : ∀ (i : Nat) (h : Value), ρ[i]? = some h → ρ'[i]? = some h) : ∀ (xs : List AV) {vs : List Value}, RepL m ρ xs vs → RepL m' ρ' xs vs
  | [], [], h => by simp only [RepL]
  | [], _ :: _, h => by simp only [RepL] at h
  | _ :: _, [], h => by simp only [RepL] at h
  | a :: xs, v :: vs, h => by simp only [RepL] at h ⊢; exact ⟨RepA.mono hm hρ a h.1, RepL.mono hm hρ xs h.2⟩
end

/-- A datum cell by cell. -/
def expl : (t : Ty) → t.den → List AV
  | .int k, x => [.int k x]
  | .bool, x => [.bool x]
  | .str, x => [.str x]
  | .unit, _ => []
  | .pair a b, x => expl a x.1 ++ expl b x.2
  | .st a, x => expl a x
  | .slice e, (x : List e.den) => [.sl e x]
  | .raw _, x => [.val x.1]
  | .map k v, x => [.dm k v x]
  | .arr n e, (x : List e.den) => (List.range n).flatMap fun i => expl e (x.getD i e.dflt)
/-- A datum xs a value. -/
def whole (t : Ty) (x : t.den) : AV := if t.agg then .agg (expl t x) else ((expl t x).head?).getD .any

theorem rc_expl {m : Mem} {ρ : List Value} : ∀ {t : Ty} {x : t.den} {cs : List Value}, RC m t x cs → RepL m ρ (expl t x) cs := by
  intro t
  induction t with
  | int k => intro x cs h; cases h; simp [expl, RepL, RepA]
  | bool => intro x cs h; cases h; simp [expl, RepL, RepA]
  | str => intro x cs h; cases h; simp [expl, RepL, RepA]
  | unit => intro x cs h; cases h; simp [expl, RepL]
  | pair a b iha ihb => intro x cs h; obtain ⟨c, d, rfl, h2, h3⟩ := h; exact (iha h2).app (ihb h3)
  | st a ih => intro x cs h; exact ih (x := x) h
  | slice e ih =>
    intro x cs h
    have h' := h
    obtain ⟨A, n, c, rfl, _⟩ := h
    simp only [expl, RepL, RepA, and_true]
    exact h'
  | arr n e ih =>
    intro x cs h
    obtain ⟨h1, us, h2, rfl, h4⟩ := h
    have key : ∀ k, k ≤ n → RepL m ρ ((List.range k).flatMap fun i => expl e (x.getD i e.dflt)) (us.take k).flatten := by
      intro k
      induction k with
      | zero => intro _; simp [RepL]
      | succ k ihk =>
        intro hk
        have hx : x[k]? = some (x[k]'(by omega)) := List.getElem?_eq_getElem (by omega)
        have hu : us[k]? = some (us[k]'(by omega)) := List.getElem?_eq_getElem (by omega)
        rw [List.range_succ, List.flatMap_append, List.take_add_one, List.flatten_append, hu]
        refine (ihk (by omega)).app ?_
        simp only [List.flatMap_cons, List.flatMap_nil, List.append_nil, Option.toList_some, List.flatten_cons, List.flatten_nil]
        rw [List.getD_eq_getElem?_getD, hx, Option.getD_some]
        exact ih (h4 k _ _ hx hu)
    have := key n (Nat.le_refl _)
    rwa [List.take_of_length_le (by omega)] at this
  | raw z => intro x cs h; cases h; simp [expl, RepL, RepA]
  | map k v ihk ihv =>
    intro x cs h
    have h' := h
    rcases h with ⟨_, rfl⟩ | ⟨b, es, clock, rfl, _⟩ <;> simp only [expl, RepL, RepA, and_true] <;> exact h'

def Ty.noArr : Ty → Bool
  | .pair a b => a.noArr && b.noArr
  | .st a => a.noArr
  | .arr _ _ => false
  | _ => true
/-- Arrays have as many elements as their types say. -/
def Ty.fit : (t : Ty) → t.den → Bool
  | .pair a b, x => a.fit x.1 && b.fit x.2
  | .st a, x => a.fit x
  | .arr n e, (x : List e.den) => Nat.beq x.length n && x.all fun y => e.fit y
  | .int _, _ => true
  | .bool, _ => true
  | .str, _ => true
  | .unit, _ => true
  | .slice _, _ => true
  | .raw _, _ => true
  | .map _ _, _ => true
/-- Cells that are seen xs a datum's hold it. -/
theorem rc_of_expl {m : Mem} {ρ : List Value} : ∀ {t : Ty} {x : t.den} {cs : List Value}, t.fit x = true → RepL m ρ (expl t x) cs → RC m t x cs := by
  have one : ∀ {a : AV} {cs : List Value}, RepL m ρ [a] cs → ∃ v, cs = [v] ∧ RepA m ρ a v := by
    intro a cs h
    cases cs with
    | nil => simp [RepL] at h
    | cons v vs => cases vs with
      | nil => simp only [RepL, and_true] at h; exact ⟨v, rfl, h⟩
      | cons => simp [RepL] at h
  intro t
  induction t with
  | int k => intro x cs _ h; obtain ⟨v, rfl, h'⟩ := one (a := .int k x) h; simp only [RepA] at h'; subst h'; rfl
  | bool => intro x cs _ h; obtain ⟨v, rfl, h'⟩ := one (a := .bool x) h; simp only [RepA] at h'; subst h'; rfl
  | str => intro x cs _ h; obtain ⟨v, rfl, h'⟩ := one (a := .str x) h; simp only [RepA] at h'; subst h'; rfl
  | unit => intro x cs _ h; cases cs with
    | nil => rfl
    | cons => simp [RepL, expl] at h
  | pair a b iha ihb =>
    intro x cs hn h
    simp only [Ty.fit, Bool.and_eq_true] at hn
    obtain ⟨us, ws, rfl, h1, h2⟩ := RepL.split h
    exact ⟨us, ws, rfl, iha hn.1 h1, ihb hn.2 h2⟩
  | st a ih => intro x cs hn h; exact ih (x := x) hn h
  | slice e ih => intro x cs _ h; obtain ⟨v, rfl, h'⟩ := one (a := .sl e x) h; simpa only [RepA] using h'
  | arr n e ih =>
    intro x cs hn h
    simp only [Ty.fit, Bool.and_eq_true, List.all_eq_true] at hn
    obtain ⟨hl, hn⟩ := hn
    have hl := Nat.eq_of_beq_eq_true hl
    have key : ∀ (k : Nat) {vs : List Value}, k ≤ n → RepL m ρ ((List.range k).flatMap fun i => expl e (x.getD i e.dflt)) vs → ∃ us : List (List Value), us.length = k ∧ vs = us.flatten ∧ ∀ (i : Nat) (y : e.den) (u : List Value), i < k → x[i]? = some y → us[i]? = some u → RC m e y u := by
      intro k
      induction k with
      | zero =>
        intro vs _ h
        cases vs with
        | nil => exact ⟨[], rfl, rfl, fun i y u hi => absurd hi (by omega)⟩
        | cons => simp [RepL] at h
      | succ k ihk =>
        intro vs hk h
        rw [List.range_succ, List.flatMap_append] at h
        obtain ⟨us, ws, rfl, h1, h2⟩ := RepL.split h
        obtain ⟨vs, q1, q2, q3⟩ := ihk (by omega) h1
        have h2 : RepL m ρ (expl e (x.getD k e.dflt)) ws := by simpa using h2
        have hx : x[k]? = some (x.getD k e.dflt) := by rw [List.getD_eq_getElem?_getD, List.getElem?_eq_getElem (show k < x.length by omega)]; rfl
        have hmem : x.getD k e.dflt ∈ x := by rw [List.getD_eq_getElem?_getD, List.getElem?_eq_getElem (show k < x.length by omega)]; simp
        refine ⟨vs ++ [ws], by simp [q1], by simp [q2], fun i y u hi hy hu => ?_⟩
        rw [List.getElem?_append] at hu
        split at hu
        · exact q3 i y u (by omega) hy hu
        · have e1 : i = k := by omega
          subst e1
          rw [q1, Nat.sub_self] at hu
          cases hu
          rw [hx] at hy
          cases hy
          exact ih (x := x.getD i e.dflt) (hn _ hmem) h2
    obtain ⟨us, q1, q2, q3⟩ := key n (Nat.le_refl _) h
    exact ⟨hl, us, q1, q2, fun i y u hy hu => q3 i y u (by have := (List.getElem?_eq_some_iff.1 hy).1; omega) hy hu⟩
  | raw z => intro x cs _ h; obtain ⟨v, rfl, h'⟩ := one (a := .val x.1) h; simp only [RepA] at h'; subst h'; rfl
  | map k v ihk ihv => intro x cs _ h; obtain ⟨u, rfl, h'⟩ := one (a := .dm k v x) h; simpa only [RepA] using h'

/-! constants -/
def ofV1 : Value → AV
  | .int k n => .int k n
  | .bool b => .bool b
  | .string s => .str s.data.toList
  | .slice none 0 0 => .nils
  | .pointer none => .nilp
  | .nilFunc => .nilf
  | .nilIface => .nili
  | .map none => .nilm
  | v => .val v
def ofV : Value → AV
  | .agg cs => if cs.toList.all (·.oneCell') then .agg (cs.toList.map ofV1) else .val (.agg cs)
  | v => ofV1 v
theorem rep_ofV1 (m : Mem) (ρ : List Value) (v : Value) : RepA m ρ (ofV1 v) v := by
  unfold ofV1
  split <;> simp only [RepA]
  exact (congrArg Value.string (bstr_data _)).symm
theorem rep_ofV (m : Mem) (ρ : List Value) (v : Value) : RepA m ρ (ofV v) v := by
  unfold ofV
  split
  · rename_i cs
    split
    · rename_i h
      simp only [RepA]
      refine ⟨cs.toList, by simp, ?_, by simpa only [List.all_eq_true] using h⟩
      clear h
      induction cs.toList with
      | nil => simp [RepL]
      | cons u us ih => simp only [List.map_cons, RepL]; exact ⟨rep_ofV1 m ρ u, ih⟩
    · simp only [RepA]
  · exact rep_ofV1 m ρ v

/-! trees of what the call owns -/
inductive OT where
  | dat (t : Ty)
  | sl (E : TypeId) (e : OT)
  | mp (k : Ty) (v : OT)
  | pt (T : TypeId) (e : OT)
  | pair (a b : OT)
@[reducible] def OT.den : OT → Type
  | .dat t => t.den
  | .sl _ e => List e.den
  | .mp k v => List (k.den × v.den)
  | .pt _ e => e.den
  | .pair a b => a.den × b.den
def OT.cells : OT → Nat
  | .dat t => t.cells
  | .pair a b => a.cells + b.cells
  | _ => 1
def OT.aggB : OT → Bool
  | .dat t => t.agg
  | .pair _ _ => true
  | _ => false
def OT.node : OT → Bool
  | .sl _ _ => true
  | .mp _ _ => true
  | .pt _ _ => true
  | _ => false

/-! what the call owns -/
inductive AO where
  | dead
  | var (T : TypeId) (cs : List AV)
  | sl (T : TypeId) (t : Ty) (x : List t.den)
  | map (tk tv : Ty) (x : List (tk.den × tv.den))
  | slo (T T' : TypeId) (t : Ty) (x : List (List t.den))
  | guest (p : Mem → List (Nat × Obj) → Prop)
  | mpt (k : Ty) (v : OT) (x : List (k.den × v.den)) (hs : List (k.den × Nat))
  | mapr (tk tv : Ty) (x left : List (tk.den × tv.den)) (cur : Option (tk.den × tv.den)) (j : Nat)
  | mit (tk tv : Ty) (left : List (tk.den × tv.den)) (cur : Option (tk.den × tv.den))
  | bld (T E : TypeId) (s : Str)
  | sloh (T T' : TypeId) (t : Ty) (x : List (List t.den)) (z j : Nat)

abbrev Frag := List (Nat × Obj)

/-- The elements' cells, one behind the other. -/
def RowsC (m : Mem) (t : Ty) (x : List t.den) (vs : List Value) : Prop := ∃ us : List (List Value), us.length = x.length ∧ vs = us.flatten ∧ ∀ (i : Nat) (y : t.den) (u : List Value), x[i]? = some y → us[i]? = some u → RC m t y u

/-- A slice of the call's own: its handle, where it lies. -/
def SlRep (m : Mem) (T : TypeId) (t : Ty) (x : List t.den) (h : Value) (f : Frag) : Prop :=
  x.length ≤ cap47 ∧ ((x = [] ∧ h = .slice none 0 0 ∧ f = []) ∨ ∃ b c cs vs, h = .slice (some ⟨b, 0, none⟩) x.length c ∧ f = [(b, .cells cs T (0, 0))] ∧ x.length ≤ c ∧ c ≤ maxLen ∧ cs.size = c * t.cells ∧
      RowsC m t x vs ∧ cs.toList.take (x.length * t.cells) = vs)
theorem RowsC.mono {m m' : Mem} (hm : m.le m') {t : Ty} {x : List t.den} {vs : List Value} (h : RowsC m t x vs) : RowsC m' t x vs :=
  let ⟨us, h6, h7, h8⟩ := h; ⟨us, h6, h7, fun i y u hy hu => (h8 i y u hy hu).mono hm⟩
theorem SlRep.mono {m m' : Mem} (hm : m.le m') {T : TypeId} {t : Ty} {x : List t.den} {h : Value} {f : Frag} (H : SlRep m T t x h f) : SlRep m' T t x h f := by
  obtain ⟨h0, H | ⟨b, c, cs, vs, h1, h2, h3, h4, h5, h6, h9⟩⟩ := H
  · exact ⟨h0, .inl H⟩
  · exact ⟨h0, .inr ⟨b, c, cs, vs, h1, h2, h3, h4, h5, h6.mono hm, h9⟩⟩
/-- Rows of the call's own. -/
def RowsO (m : Mem) (T : TypeId) (t : Ty) : List (List t.den) → List Value → List Frag → Prop
  | [], [], [] => True
  | x :: xs, r :: rs, f :: fs => SlRep m T t x r f ∧ RowsO m T t xs rs fs
  | _, _, _ => False
theorem RowsO.mono {m m' : Mem} (hm : m.le m') {T : TypeId} {t : Ty} : ∀ {x : List (List t.den)} {rs : List Value} {fs : List Frag}, RowsO m T t x rs fs → RowsO m' T t x rs fs := by
  intro x
  induction x with
  | nil => intro rs fs h; cases rs with
    | nil => cases fs with
      | nil => trivial
      | cons => exact h.elim
    | cons => exact h.elim
  | cons y x ih => intro rs fs h; cases rs with
    | nil => exact h.elim
    | cons r rs => cases fs with
      | nil => exact h.elim
      | cons f fs => exact ⟨h.1.mono hm, ih h.2⟩

/-- What a tree's part is: its cells, where it lies. -/
def OR (m : Mem) : (o : OT) → o.den → List Value → Frag → Prop
  | .dat t, x, cs, f => RC m t x cs ∧ f = []
  | .pair a b, x, cs, f => ∃ c d g h, cs = c ++ d ∧ f = g ++ h ∧ OR m a x.1 c g ∧ OR m b x.2 d h
  | .pt T e, x, cs, f => ∃ b us g, cs = [.pointer (some ⟨b, 0, none⟩)] ∧ f = (b, .cells us.toArray T (0, 0)) :: g ∧ (∀ u ∈ us, u.oneCell' = true) ∧ OR m e x us g
  | .sl E e, (x : List e.den), cs, f => x.length ≤ cap47 ∧ ((x = [] ∧ cs = [.slice none 0 0] ∧ f = []) ∨
      ∃ (b c : Nat) (arr : Array Value) (us : List (List Value)) (fs : List Frag), cs = [.slice (some ⟨b, 0, none⟩) x.length c] ∧ f = (b, .cells arr E (0, 0)) :: fs.flatten ∧ x.length ≤ c ∧ c ≤ maxLen ∧ arr.size = c * e.cells ∧ us.length = x.length ∧ fs.length = x.length ∧
        arr.toList.take (x.length * e.cells) = us.flatten ∧ ∀ (i : Nat) (y : e.den) (u : List Value) (g : Frag), x[i]? = some y → us[i]? = some u → fs[i]? = some g → OR m e y u g)
  | .mp k v, (x : List (k.den × v.den)), cs, f => ∃ (b : Nat) (es : Array MapEntry) (clock : Nat) (fs : List Frag), cs = [.map (some b)] ∧ f = (b, .map es clock) :: fs.flatten ∧
      es.toList.length = x.length ∧ fs.length = x.length ∧ ((x.map (·.1)).Nodup ∧ Births es clock) ∧
      ∀ (i : Nat) (p : k.den × v.den) (e : MapEntry) (g : Frag), x[i]? = some p → es.toList[i]? = some e → fs[i]? = some g → RV m k p.1 e.key ∧ ∃ us : List Value, (if v.aggB then e.val = .agg us.toArray else us = [e.val]) ∧ OR m v p.2 us g
theorem RV.mono {m m' : Mem} (hm : m.le m') {t : Ty} {x : t.den} {v : Value} (h : RV m t x v) : RV m' t x v := by
  unfold RV at h ⊢
  split
  · rename_i ha; rw [if_pos ha] at h; obtain ⟨cs, h1, h2⟩ := h; exact ⟨cs, h1, h2.mono hm⟩
  · rename_i ha; rw [if_neg ha] at h; exact h.mono hm
theorem OR.mono {m m' : Mem} (hm : m.le m') : ∀ {o : OT} {x : o.den} {cs : List Value} {f : Frag}, OR m o x cs f → OR m' o x cs f := by
  intro o
  induction o with
  | dat t => intro x cs f h; exact ⟨h.1.mono hm, h.2⟩
  | pair a b iha ihb => intro x cs f h; obtain ⟨c, d, g, k, h1, h2, h3, h4⟩ := h; exact ⟨c, d, g, k, h1, h2, iha h3, ihb h4⟩
  | pt T e ih => intro x cs f h; obtain ⟨b, us, g, h1, h2, h3, h4⟩ := h; exact ⟨b, us, g, h1, h2, h3, ih h4⟩
  | sl E e ih =>
    intro x cs f h
    obtain ⟨h0, h | ⟨b, c, arr, us, fs, h1, h2, h3, h4, h5, h6, h7, h8, h9⟩⟩ := h
    · exact ⟨h0, .inl h⟩
    · exact ⟨h0, .inr ⟨b, c, arr, us, fs, h1, h2, h3, h4, h5, h6, h7, h8, fun i y u g a1 a2 a3 => ih (h9 i y u g a1 a2 a3)⟩⟩
  | mp k v ih =>
    intro x cs f h
    obtain ⟨b, es, clock, fs, h1, h2, h3, h4, h5, h6⟩ := h
    refine ⟨b, es, clock, fs, h1, h2, h3, h4, h5, fun i p e g a1 a2 a3 => ?_⟩
    obtain ⟨b1, us, b2, b3⟩ := h6 i p e g a1 a2 a3
    exact ⟨b1.mono hm, us, b2, ih b3⟩
/-- What is taken out of a map has a handle; where there is no entry it is nil. -/
def HoleOk {κ : Type} (ρ : List Value) (ks : List κ) (q : κ × Nat) : Prop := (∃ u, ρ[q.2]? = some u) ∧ (q.1 ∉ ks → ρ[q.2]? = some (.slice none 0 0))
theorem HoleOk.tr {κ : Type} {ρ ρ' : List Value} {ks : List κ} {z : κ} {n n' : Nat} (h : HoleOk ρ ks (z, n)) (hr : ∀ u, ρ[n]? = some u → ρ'[n']? = some u) : HoleOk ρ' ks (z, n') :=
  ⟨let ⟨u, hu⟩ := h.1; ⟨u, hr u hu⟩, fun hz => hr _ (h.2 hz)⟩
/-- An entry of a map of what the call owns: what it leads to may be taken out. -/
def EntT (m : Mem) (ρ : List Value) (k : Ty) (v : OT) (hs : List (k.den × Nat)) (p : k.den × v.den) (e : MapEntry) (g : Frag) : Prop :=
  (RV m k p.1 e.key ∧ e.val.oneCell' = true) ∧ (∀ n, (p.1, n) ∈ hs → g = [] ∧ ρ[n]? = some e.val) ∧ ((∀ n, (p.1, n) ∉ hs) → OR m v p.2 [e.val] g)
theorem EntT.mono {m m' : Mem} {ρ ρ' : List Value} (hm : m.le m') (hρ : ∀ (i : Nat) (h : Value), ρ[i]? = some h → ρ'[i]? = some h) {k : Ty} {v : OT} {hs : List (k.den × Nat)} {p : k.den × v.den} {e : MapEntry} {g : Frag} (h : EntT m ρ k v hs p e g) : EntT m' ρ' k v hs p e g :=
  ⟨⟨h.1.1.mono hm, h.1.2⟩, fun n hn => ⟨(h.2.1 n hn).1, hρ _ _ (h.2.1 n hn).2⟩, fun hn => (h.2.2 hn).mono hm⟩

/-- A map's entries hold the pairs. -/
def EntM (m : Mem) (tk tv : Ty) (x : List (tk.den × tv.den)) (es : Array MapEntry) (clock : Nat) : Prop := es.toList.length = x.length ∧ (x.map (·.1)).Nodup ∧ Births es clock ∧ ∀ (i : Nat) (p : tk.den × tv.den) (e : MapEntry), x[i]? = some p → es.toList[i]? = some e → RV m tk p.1 e.key ∧ RV m tv p.2 e.val
theorem EntM.mono {m m' : Mem} (hm : m.le m') {tk tv : Ty} {x : List (tk.den × tv.den)} {es : Array MapEntry} {clock : Nat} (h : EntM m tk tv x es clock) : EntM m' tk tv x es clock :=
  ⟨h.1, h.2.1, h.2.2.1, fun i p e a b => ⟨(h.2.2.2 i p e a b).1.mono hm, (h.2.2.2 i p e a b).2.mono hm⟩⟩
/-- The pairs that an iterator has not told yet. -/
def ItOk {α : Type} (x : List α) (es : Array MapEntry) (seen : Array Nat) (left : List α) (cur : Option α) (now : Prop) : Prop := left = ((x.zip es.toList).filter fun q => !seen.contains q.2.born).map (·.1) ∧ ∀ p, cur = some p → ∃ (i : Nat) (e : MapEntry), x[i]? = some p ∧ es.toList[i]? = some e ∧ seen.back? = some e.born ∧ now
/-- An object's handle and where it lies. -/
def ORep (m : Mem) (ρ : List Value) : AO → Value → Frag → Prop
  | .dead, _, f => f = []
  | .var T cs, h, f => ∃ b us, h = .pointer (some ⟨b, 0, none⟩) ∧ f = [(b, .cells us.toArray T (0, 0))] ∧ RepL m ρ cs us ∧ (∀ u ∈ us, u.oneCell' = true)
  | .sl T t x, h, f => x.length ≤ cap47 ∧ ((x = [] ∧ h = .slice none 0 0 ∧ f = []) ∨ ∃ b c cs vs, h = .slice (some ⟨b, 0, none⟩) x.length c ∧ f = [(b, .cells cs T (0, 0))] ∧ x.length ≤ c ∧ c ≤ maxLen ∧ cs.size = c * t.cells ∧
      RowsC m t x vs ∧ cs.toList.take (x.length * t.cells) = vs)
  | .slo T T' t x, h, f => ∃ rs fs f0 b c cs, h = .tuple (.slice (some ⟨b, 0, none⟩) x.length c :: rs).toArray ∧ f = f0 ++ fs.flatten ∧ f0 = [(b, .cells cs T (0, 0))] ∧ x.length ≤ cap47 ∧ x.length ≤ c ∧ c ≤ maxLen ∧ cs.size = c ∧ cs.toList.take x.length = rs ∧ RowsO m T' t x rs fs
  | .sloh T T' t x z j, h, f => ∃ rs fs f0 b c cs r, h = .tuple (.slice (some ⟨b, 0, none⟩) x.length c :: rs).toArray ∧ f = f0 ++ fs.flatten ∧ f0 = [(b, .cells cs T (0, 0))] ∧ x.length ≤ cap47 ∧ x.length ≤ c ∧ c ≤ maxLen ∧ cs.size = c ∧ cs.toList.take x.length = rs ∧ RowsO m T' t (x.set z []) (rs.set z (.slice none 0 0)) fs ∧ z < x.length ∧ rs[z]? = some r ∧ r.oneCell' = true ∧ ρ[j]? = some r
  | .guest p, h, f => ∃ m0, m0.le m ∧ p m0 f
  | .bld T E s, h, f => s.length ≤ cap47 ∧ ∃ b, h = .pointer (some ⟨b, 0, none⟩) ∧ ((s = [] ∧ ∃ p, (p = .pointer none ∨ p = .pointer (some ⟨b, 0, none⟩)) ∧ f = [(b, .cells #[p, .slice none 0 0] T (0, 0))]) ∨
      ∃ b2 c cs, f = [(b, .cells #[.pointer (some ⟨b, 0, none⟩), .slice (some ⟨b2, 0, none⟩) s.length c] T (0, 0)), (b2, .cells cs E (0, 0))] ∧ s.length ≤ c ∧ c ≤ maxLen ∧ cs.size = c ∧ cs.toList.take s.length = s.map fun x => Value.int .u8 x.toNat)
  | .mpt k v x hs, h, f => v.node = true ∧ (∀ q ∈ hs, HoleOk ρ (x.map (·.1)) q) ∧ ∃ (b : Nat) (es : Array MapEntry) (clock : Nat) (fs : List Frag), h = .map (some b) ∧ f = (b, .map es clock) :: fs.flatten ∧ es.toList.length = x.length ∧ fs.length = x.length ∧ ((x.map (·.1)).Nodup ∧ Births es clock) ∧
      ∀ (i : Nat) (p : k.den × v.den) (e : MapEntry) (g : Frag), x[i]? = some p → es.toList[i]? = some e → fs[i]? = some g → EntT m ρ k v hs p e g
  | .map tk tv x, h, f => ∃ b es clock, h = .map (some b) ∧ f = [(b, .map es clock)] ∧ es.toList.length = x.length ∧ (x.map (·.1)).Nodup ∧ Births es clock ∧ ∀ (i : Nat) (p : tk.den × tv.den) (e : MapEntry), x[i]? = some p → es.toList[i]? = some e → RV m tk p.1 e.key ∧ RV m tv p.2 e.val
  | .mapr tk tv x left cur j, h, f => ∃ b es clock r since c0 seen, h = .map (some b) ∧ f = [(b, .map es clock), (r, .mapIter (some b) since seen c0)] ∧ ρ[j]? = some (.pointer (some ⟨r, 0, none⟩)) ∧ EntM m tk tv x es clock ∧ ItOk x es seen left cur (c0 = clock) ∧ (∀ e ∈ es.toList, e.born < since) ∧ since ≤ c0 ∧ since ≤ clock
  | .mit tk tv left cur, h, f => (∃ r since c0 seen, h = .pointer (some ⟨r, 0, none⟩) ∧ left = [] ∧ cur = none ∧ f = [(r, .mapIter none since seen c0)]) ∨ ∃ b es clock r since c0 seen x, h = .pointer (some ⟨r, 0, none⟩) ∧ m b = some (.map es clock) ∧ f = [(r, .mapIter (some b) since seen c0)] ∧ EntM m tk tv x es clock ∧ ItOk x es seen left cur (c0 = clock) ∧ (∀ e ∈ es.toList, e.born < since) ∧ since ≤ c0 ∧ since ≤ clock

theorem ORep.mono {m m' : Mem} {ρ ρ' : List Value} (hm : m.le m') (hρ : ∀ (i : Nat) (h : Value), ρ[i]? = some h → ρ'[i]? = some h) {o : AO} {h : Value} {f : Frag} (H : ORep m ρ o h f) : ORep m' ρ' o h f := by
  cases o with
  | dead => exact H
  | var T cs => obtain ⟨b, us, h1, h2, h3, h4⟩ := H; exact ⟨b, us, h1, h2, RepL.mono hm hρ cs h3, h4⟩
  | sl T t x =>
    obtain ⟨h0, H | ⟨b, c, cs, vs, h1, h2, h3, h4, h5, ⟨us, h6, h7, h8⟩, h9⟩⟩ := H
    · exact ⟨h0, .inl H⟩
    · exact ⟨h0, .inr ⟨b, c, cs, vs, h1, h2, h3, h4, h5, ⟨us, h6, h7, fun i y u hy hu => (h8 i y u hy hu).mono hm⟩, h9⟩⟩
  | slo T T' t x =>
    obtain ⟨rs, fs, f0, b, c, cs, h1, h2, h3, h4, h5, h6, h7, h8, h9⟩ := H
    exact ⟨rs, fs, f0, b, c, cs, h1, h2, h3, h4, h5, h6, h7, h8, h9.mono hm⟩
  | sloh T T' t x z j =>
    obtain ⟨rs, fs, f0, b, c, cs, r, h1, h2, h3, h4, h5, h6, h7, h8, h9, h10, h11, h12, h13⟩ := H
    exact ⟨rs, fs, f0, b, c, cs, r, h1, h2, h3, h4, h5, h6, h7, h8, h9.mono hm, h10, h11, h12, hρ _ _ h13⟩
  | guest p => obtain ⟨m0, h1, h2⟩ := H; exact ⟨m0, h1.trans hm, h2⟩
  | bld T E s => exact H
  | mpt k v x hs => obtain ⟨h0, h00, b, es, cl, fs, h1, h2, h3, h4, h5, h6⟩ := H; exact ⟨h0, fun q hq => (h00 q hq).tr (fun u hu => hρ _ _ hu), b, es, cl, fs, h1, h2, h3, h4, h5, fun i p e g a1 a2 a3 => (h6 i p e g a1 a2 a3).mono hm hρ⟩
  | map tk tv x =>
    obtain ⟨b, es, cl, h1, h2, h3⟩ := H
    exact ⟨b, es, cl, h1, h2, EntM.mono hm (x := x) h3⟩
  | mapr tk tv x left cur j =>
    obtain ⟨b, es, cl, r, since, c0, seen, h1, h2, h3, h4, h5⟩ := H
    exact ⟨b, es, cl, r, since, c0, seen, h1, h2, hρ _ _ h3, h4.mono hm, h5⟩
  | mit tk tv left cur =>
    rcases H with H | ⟨b, es, cl, r, since, c0, seen, x, h1, h2, h3, h4, h5⟩
    · exact .inl H
    · exact .inr ⟨b, es, cl, r, since, c0, seen, x, h1, hm _ _ h2, h3, h4.mono hm, h5⟩

/-! the world: what is read alone, what is owned -/
structure SH (e w : World) (m : Mem) (f : Frag) : Prop where
  os : w.os = e.os
  tape : w.tape = e.tape
  output : w.output = e.output
  fz : ∀ b o, m b = some o → w.heap[b]? = some o
  own : ∀ p ∈ f, w.heap[p.1]? = some p.2
  nd : (f.map (·.1)).Nodup
  dis : ∀ p ∈ f, m p.1 = none
  noctl : ∀ p ∈ f, ctl p.2 = false
  mctl : ∀ b o, m b = some o → ctl o = false

theorem SH.perm {e w : World} {m : Mem} {f g : Frag} (h : SH e w m f) (hp : f.Perm g) : SH e w m g :=
  ⟨h.os, h.tape, h.output, h.fz, fun p hm => h.own p (hp.mem_iff.2 hm), (hp.map _).nodup_iff.1 h.nd, fun p hm => h.dis p (hp.mem_iff.2 hm), fun p hm => h.noctl p (hp.mem_iff.2 hm), h.mctl⟩

theorem SH.lt {e w : World} {m : Mem} {f : Frag} (h : SH e w m f) {p : Nat × Obj} (hp : p ∈ f) : p.1 < w.heap.size := (Array.getElem?_eq_some_iff.1 (h.own p hp)).1

/-- A new block. -/
theorem SH.alloc {e w w' : World} {m : Mem} {f : Frag} {b : Nat} {o : Obj} (h : SH e w m f) (hN : New w w' b o) (ho : ctl o = false) : SH e w' m ((b, o) :: f) := by
  have hlt : ∀ x o', w.heap[x]? = some o' → x < w.heap.size := fun x o' hx => (Array.getElem?_eq_some_iff.1 hx).1
  refine ⟨hN.ext.os.trans h.os, hN.ext.tape.trans h.tape, hN.ext.output.trans h.output, fun x o' hx => (hN.ext.block x (hlt _ _ (h.fz _ _ hx))).trans (h.fz _ _ hx), ?_, ?_, ?_, ?_, h.mctl⟩
  · intro p hp
    rcases List.mem_cons.1 hp with rfl | hp
    · exact hN.blk
    · exact (hN.ext.block _ (h.lt hp)).trans (h.own p hp)
  · rw [List.map_cons, List.nodup_cons]
    refine ⟨fun hm => ?_, h.nd⟩
    obtain ⟨p, hp, he⟩ := List.mem_map.1 hm
    have := h.lt hp
    have h3 : b = w.heap.size := hN.eq
    simp only at he
    omega
  · intro p hp
    rcases List.mem_cons.1 hp with rfl | hp
    · show m b = none
      cases hb : m b with
      | none => rfl
      | some o' => have := hlt _ _ (h.fz _ _ hb); rw [hN.eq] at this; omega
    · exact h.dis p hp
  · intro p hp
    rcases List.mem_cons.1 hp with rfl | hp
    · exact ho
    · exact h.noctl p hp

/-- What is owned is written. -/
theorem SH.put {e w w' : World} {m : Mem} {f : Frag} {b : Nat} {o o' : Obj} (h : SH e w m ((b, o) :: f)) (hP : Put w w' b) (hb : w'.heap[b]? = some o') (ho : ctl o' = false) : SH e w' m ((b, o') :: f) := by
  have hnd := h.nd
  rw [List.map_cons, List.nodup_cons] at hnd
  refine ⟨hP.os.trans h.os, hP.tape.trans h.tape, hP.output.trans h.output, fun x o' hx => (hP.other x ?_).trans (h.fz _ _ hx), ?_, ?_, ?_, ?_, h.mctl⟩
  · rintro rfl
    have := h.dis (x, o) (by simp)
    simp only at this
    rw [this] at hx; cases hx
  · intro p hp
    rcases List.mem_cons.1 hp with rfl | hp
    · exact hb
    · refine (hP.other _ ?_).trans (h.own p (by simp [hp]))
      intro he
      exact hnd.1 (List.mem_map.2 ⟨p, hp, he⟩)
  · rw [List.map_cons, List.nodup_cons]; exact hnd
  · intro p hp
    rcases List.mem_cons.1 hp with rfl | hp
    · exact h.dis (b, o) (by simp)
    · exact h.dis p (by simp [hp])
  · intro p hp
    rcases List.mem_cons.1 hp with rfl | hp
    · exact ho
    · exact h.noctl p (by simp [hp])

/-- Nothing that was there turns. -/
theorem SH.ext {e w w' : World} {m : Mem} {f : Frag} (h : SH e w m f) (hB : Below w.heap.size w w') : SH e w' m f := by
  have hlt : ∀ x o', w.heap[x]? = some o' → x < w.heap.size := fun x o' hx => (Array.getElem?_eq_some_iff.1 hx).1
  exact ⟨hB.os.trans h.os, hB.tape.trans h.tape, hB.output.trans h.output, fun x o hx => (hB.block x (hlt _ _ (h.fz _ _ hx))).trans (h.fz _ _ hx), fun p hp => (hB.block _ (h.lt hp)).trans (h.own p hp), h.nd, h.dis, h.noctl, h.mctl⟩

/-- What was owned is read alone from now on. -/
def Mem.add (m : Mem) (g : Frag) : Mem := fun b => match m b with
  | some o => some o
  | none => (g.find? fun p => Nat.beq p.1 b).map (·.2)
theorem Mem.le_add (m : Mem) (g : Frag) : m.le (m.add g) := fun b o h => by simp [Mem.add, h]
theorem SH.frz {e w : World} {m : Mem} {g f : Frag} (h : SH e w m (g ++ f)) : SH e w (m.add g) f := by
  have hnd := h.nd
  rw [List.map_append, List.nodup_append] at hnd
  refine ⟨h.os, h.tape, h.output, ?_, fun p hp => h.own p (by simp [hp]), hnd.2.1, ?_, fun p hp => h.noctl p (by simp [hp]), ?_⟩
  · intro b o hb
    unfold Mem.add at hb
    split at hb
    · rename_i o' ho; cases hb; exact h.fz _ _ ho
    · rw [Option.map_eq_some_iff] at hb
      obtain ⟨p, hp, rfl⟩ := hb
      have h1 := List.mem_of_find?_eq_some hp
      have h2 := List.find?_some hp
      have h3 : p.1 = b := Nat.eq_of_beq_eq_true h2
      subst h3
      exact h.own p (by simp [h1])
  · intro p hp
    unfold Mem.add
    rw [h.dis p (by simp [hp])]
    simp only [Option.map_eq_none_iff, List.find?_eq_none]
    intro q hq he
    have h3 : q.1 = p.1 := Nat.eq_of_beq_eq_true he
    exact hnd.2.2 q.1 (List.mem_map.2 ⟨q, hq, rfl⟩) p.1 (List.mem_map.2 ⟨p, hp, rfl⟩) h3
  · intro b o hb
    unfold Mem.add at hb
    split at hb
    · rename_i o' ho; cases hb; exact h.mctl _ _ ho
    · rw [Option.map_eq_some_iff] at hb
      obtain ⟨p, hp, rfl⟩ := hb
      exact h.noctl p (by simp [List.mem_of_find?_eq_some hp])
theorem add_get {m : Mem} {g : Frag} {b : Nat} {o : Obj} (hnd : (g.map (·.1)).Nodup) (hg : (b, o) ∈ g) (hm : m b = none) : m.add g b = some o := by
  unfold Mem.add
  rw [hm]
  simp only [Option.map_eq_some_iff]
  refine ⟨(b, o), ?_, rfl⟩
  induction g with
  | nil => cases hg
  | cons p g ih =>
    rw [List.map_cons, List.nodup_cons] at hnd
    rcases List.mem_cons.1 hg with rfl | hg
    · simp
    · have : p.1 ≠ b := fun e => hnd.1 (List.mem_map.2 ⟨(b, o), hg, e.symm⟩)
      have h2 : Nat.beq p.1 b = false := by
        rw [Bool.eq_false_iff]; intro hc; exact this (Nat.eq_of_beq_eq_true hc)
      rw [List.find?_cons_of_neg (by simp [h2])]
      exact ih hnd.2 hg
end Go.Ab


set_option linter.unusedVariables false
set_option linter.unusedSimpArgs false
namespace Go.Ab
open Go.RowKit Go.Shelf Go.Proofs Go.Eng

/-! what the walk knows -/
abbrev AFr := List (Nat × AV)
def AFr.look : AFr → Nat → Option AV
  | [], _ => none
  | (d, v) :: l, t => bif Nat.beq d t then some v else AFr.look l t
abbrev AH := List (Nat × AO)
def AH.get : AH → Nat → AO
  | [], _ => .dead
  | (d, v) :: l, t => bif Nat.beq d t then v else AH.get l t
structure AS where
  l : AFr
  H : AH
  n : Nat
def AS.put (st : AS) (d : Nat) (a : AV) : AS := ⟨(d, a) :: st.l, st.H, st.n⟩

def aev (l : AFr) : Operand → Option AV
  | .tmp t => l.look t
  | .const v => some (ofV v)
  | .func f => some (.fn f [] [])
  | .global _ => none

/-- What the call came with: streams, what was read alone, the first handles, what is not its own. -/
structure Cx where
  e : World
  m : Mem
  ρ : List Value
  F : Frag

structure Conc (X : Cx) (st : AS) (fr : Fr) (w : World) (m : Mem) (ρ : List Value) (φ : List Frag) : Prop where
  mle : X.m.le m
  pre : ∀ (i : Nat) (h : Value), X.ρ[i]? = some h → ρ[i]? = some h
  nρ : ρ.length = st.n
  nφ : φ.length = st.n
  slots : ∀ t a, st.l.look t = some a → ∃ v, fr.look t = some v ∧ RepA m ρ a v
  objs : ∀ (i : Nat) (h : Value) (f : Frag), ρ[i]? = some h → φ[i]? = some f → ORep m ρ (st.H.get i) h f
  sh : SH X.e w m (φ.flatten ++ X.F)

abbrev APost := Exit → AS → Prop
def upQ (X : Cx) (Q : APost) : Post := fun e fr w => ∃ st m ρ φ, Conc X st fr w m ρ φ ∧ Q e st
def upK (X : Cx) (K : AS → Prop) : Fr → World → Prop := fun fr w => ∃ st m ρ φ, Conc X st fr w m ρ φ ∧ K st
def athen (K : AS → Prop) (Q : APost) : APost
  | .normal, st => K st
  | e, st => Q e st
def ablock (id : Nat) (Q : APost) : APost
  | .exit id', st => bif Nat.beq id' id then Q .normal st else Q (.exit id') st
  | e, st => Q e st

def AWC (P : Program) (N : Ev) (X : Cx) (c : Code) (Q : APost) (st : AS) : Prop := ∀ fr w m ρ φ, Conc X st fr w m ρ φ → WC P N c (upQ X Q) fr w
def AWL (P : Program) (N : Ev) (X : Cx) (ops : Array Oper) (Q : APost) (rest : List Oper) (st : AS) : Prop := ∀ fr w m ρ φ, Conc X st fr w m ρ φ → WL P N ops (upQ X Q) rest fr w
/-- One operation. -/
def AOp (P : Program) (N : Ev) (X : Cx) (o : Oper) (K : AS → Prop) (st : AS) : Prop := ∀ (Q : Post) fr w m ρ φ, Conc X st fr w m ρ φ → OpW P N o (upK X K) Q fr w
/-- One operation that gives a value and turns nothing that was there. -/
def AOpV (P : Program) (N : Ev) (X : Cx) (o : Oper) (a : AV) (st : AS) : Prop := ∀ (Q : Post) fr w m ρ φ, Conc X st fr w m ρ φ →
  OpW P N o (fun fr' w' => ∃ d v, o.dst = some d ∧ fr' = (d, v) :: fr ∧ Below w.heap.size w w' ∧ ∃ m', m.le m' ∧ SH X.e w' m' (φ.flatten ++ X.F) ∧ RepA m' ρ a v) Q fr w

section
variable {P : Program} {N : Ev} {X : Cx} {Q : APost} {st : AS}

theorem AFr.look_cons (d : Nat) (v : AV) (l : AFr) (t : Nat) : AFr.look ((d, v) :: l) t = if d = t then some v else AFr.look l t := by
  simp only [AFr.look]
  by_cases h : d = t
  · subst h; simp
  · have : Nat.beq d t = false := by
      rw [Bool.eq_false_iff]; intro hc; exact h (Nat.eq_of_beq_eq_true hc)
    simp [this, h]
theorem AH.get_cons (d : Nat) (v : AO) (l : AH) (t : Nat) : AH.get ((d, v) :: l) t = if d = t then v else AH.get l t := by
  simp only [AH.get]
  by_cases h : d = t
  · subst h; simp
  · have : Nat.beq d t = false := by
      rw [Bool.eq_false_iff]; intro hc; exact h (Nat.eq_of_beq_eq_true hc)
    simp [this, h]

theorem Conc.put {fr : Fr} {w : World} {m : Mem} {ρ : List Value} {φ : List Frag} (h : Conc X st fr w m ρ φ) {d : Nat} {a : AV} {v : Value} (ha : RepA m ρ a v) : Conc X (st.put d a) ((d, v) :: fr) w m ρ φ := by
  refine ⟨h.mle, h.pre, h.nρ, h.nφ, ?_, h.objs, h.sh⟩
  intro t b hb
  simp only [AS.put, AFr.look_cons] at hb
  rw [Fr.look_cons]
  split
  · rename_i e; rw [if_pos e] at hb; cases hb; exact ⟨v, rfl, ha⟩
  · rename_i e; rw [if_neg e] at hb; exact h.slots t b hb

theorem Conc.grow {fr : Fr} {w w' : World} {m m' : Mem} {ρ : List Value} {φ : List Frag} (h : Conc X st fr w m ρ φ) (hm : m.le m') (hs : SH X.e w' m' (φ.flatten ++ X.F)) : Conc X st fr w' m' ρ φ :=
  ⟨h.mle.trans hm, h.pre, h.nρ, h.nφ, fun t a ha => let ⟨v, h1, h2⟩ := h.slots t a ha; ⟨v, h1, RepA.mono hm (fun _ _ h => h) a h2⟩, fun i hd f h1 h2 => (h.objs i hd f h1 h2).mono hm (fun _ _ h => h), hs⟩

theorem Conc.ev {fr : Fr} {w : World} {m : Mem} {ρ : List Value} {φ : List Frag} (h : Conc X st fr w m ρ φ) {x : Operand} {a : AV} (hx : aev st.l x = some a) : ∃ v, evo fr x = some v ∧ RepA m ρ a v := by
  cases x with
  | tmp t => exact h.slots t a hx
  | const v => simp only [aev, Option.some.injEq] at hx; subst hx; exact ⟨v, rfl, rep_ofV m ρ v⟩
  | func f => simp only [aev, Option.some.injEq] at hx; subst hx; exact ⟨_, rfl, by simp only [RepA]; exact ⟨[], [], rfl, by simp [RepL], by simp [RepL]⟩⟩
  | global g => simp [aev] at hx

theorem awc_mono {c : Code} {Q' : APost} (hq : ∀ e st, Q e st → Q' e st) (h : AWC P N X c Q st) : AWC P N X c Q' st :=
  fun fr w m ρ φ hc => WC.mono (fun e l w ⟨st, m, ρ, φ, h1, h2⟩ => ⟨st, m, ρ, φ, h1, hq _ _ h2⟩) (h fr w m ρ φ hc)

theorem awc_seq {c d : Code} (h : AWC P N X c (athen (AWC P N X d Q) Q) st) : AWC P N X (.seq c d) Q st := by
  intro fr w m ρ φ hc
  refine wc_seq (WC.mono ?_ (h fr w m ρ φ hc))
  rintro e l w ⟨st, m, ρ, φ, h1, h2⟩
  cases e with
  | normal => exact h2 _ _ _ _ _ h1
  | _ => exact ⟨st, m, ρ, φ, h1, h2⟩
theorem awc_skip (h : Q .normal st) : AWC P N X .skip Q st := fun fr w m ρ φ hc => wc_skip ⟨st, m, ρ, φ, hc, h⟩
theorem awc_exit {id : Nat} (h : Q (.exit id) st) : AWC P N X (.exit id) Q st := fun fr w m ρ φ hc => wc_exit ⟨st, m, ρ, φ, hc, h⟩
theorem awc_ret (h : Q .ret st) : AWC P N X .ret Q st := fun fr w m ρ φ hc => wc_ret ⟨st, m, ρ, φ, hc, h⟩
theorem awc_block {id : Nat} {c : Code} (h : AWC P N X c (ablock id Q) st) : AWC P N X (.block id c) Q st := by
  intro fr w m ρ φ hc
  refine wc_block (WC.mono ?_ (h fr w m ρ φ hc))
  rintro e l w ⟨st, m, ρ, φ, h1, h2⟩
  cases e with
  | exit id' =>
    simp only [blockQ, ablock] at h2 ⊢
    cases hb : Nat.beq id' id
    · rw [hb] at h2; exact ⟨st, m, ρ, φ, h1, h2⟩
    · rw [hb] at h2; exact ⟨st, m, ρ, φ, h1, h2⟩
  | _ => exact ⟨st, m, ρ, φ, h1, h2⟩
theorem awc_cond {c : Operand} {x y : Code} {b : Bool} (hc : aev st.l c = some (.bool b)) (ht : b = true → AWC P N X x Q st) (hf : b = false → AWC P N X y Q st) : AWC P N X (.cond c x y) Q st := by
  intro fr w m ρ φ h
  obtain ⟨v, h1, h2⟩ := h.ev hc
  simp only [RepA] at h2
  subst h2
  exact wc_cond h1 (fun hb => ht hb fr w m ρ φ h) (fun hb => hf hb fr w m ρ φ h)
theorem athen_norm {K : AS → Prop} (h : K st) : athen K Q .normal st := h
theorem athen_exit {K : AS → Prop} {i : Nat} (h : Q (.exit i) st) : athen K Q (.exit i) st := h
theorem athen_ret {K : AS → Prop} (h : Q .ret st) : athen K Q .ret st := h
theorem ablock_norm {id : Nat} (h : Q .normal st) : ablock id Q .normal st := h
theorem ablock_ret {id : Nat} (h : Q .ret st) : ablock id Q .ret st := h
theorem ablock_here {id : Nat} (h : Q .normal st) : ablock id Q (.exit id) st := by simp [ablock]; exact h
/-! regions in the text's order -/
theorem awc_region {id : Nat} {ops : List Oper} (h : AWL P N X ops.toArray Q ops st) : AWC P N X (.region id ops.toArray false) Q st := fun fr w m ρ φ hc => wc_region (h fr w m ρ φ hc)
theorem awl_nil {ops : Array Oper} (h : Q .normal st) : AWL P N X ops Q [] st := fun fr w m ρ φ hc => wl_done ⟨st, m, ρ, φ, hc, h⟩
theorem awl_op {ops : Array Oper} {o : Oper} {rest : List Oper} (h : AOp P N X o (AWL P N X ops Q rest) st) (hg : o.guard = none := by rfl) : AWL P N X ops Q (o :: rest) st := by
  intro fr w m ρ φ hc
  refine wl_op hg ?_
  have := h (upQ X Q) fr w m ρ φ hc
  intro a ha hgd
  refine Oper.wpIn_mono ?_ (this a ha hgd)
  rintro a w ⟨l', hl', g', ⟨st', m', ρ', φ', h1, h2⟩⟩
  exact ⟨l', hl', g', h2 _ _ _ _ _ h1⟩
theorem aop_v {o : Oper} {a : AV} {K : AS → Prop} {d : Nat} (h : AOpV P N X o a st) (k : K (st.put d a)) (hd : o.dst = some d := by rfl) : AOp P N X o K st := by
  intro Q fr w m ρ φ hc a' ha hgd
  refine Oper.wpIn_mono ?_ (h Q fr w m ρ φ hc a' ha hgd)
  rintro a w' ⟨l', hl', g', ⟨d', v, hd', rfl, hb, m', hm, hs, hr⟩⟩
  rw [hd] at hd'; cases hd'
  exact ⟨_, hl', g', ⟨_, m', ρ, φ, (hc.grow hm hs).put hr, k⟩⟩
theorem awl_v {ops : Array Oper} {o : Oper} {rest : List Oper} {a : AV} {d : Nat} (h : AOpV P N X o a st) (k : AWL P N X ops Q rest (st.put d a)) (hd : o.dst = some d := by rfl) (hg : o.guard = none := by rfl) : AWL P N X ops Q (o :: rest) st :=
  awl_op (aop_v h k hd) hg

/-- A value out of the operands alone. -/
theorem av_of {o : Oper} {a : AV} {d : Nat} (hd : o.dst = some d) (h : ∀ (Q : Post) fr w m ρ φ, Conc X st fr w m ρ φ → ∃ v, RepA m ρ a v ∧ ∀ K : Fr → World → Prop, K ((d, v) :: fr) w → OpW P N o K Q fr w) : AOpV P N X o a st := by
  intro Q fr w m ρ φ hc
  obtain ⟨v, h1, h2⟩ := h Q fr w m ρ φ hc
  exact h2 _ ⟨d, v, hd, rfl, Below.refl _ _, m, Mem.le_refl _, hc.sh, h1⟩
end

/-! reading operands -/
section
variable {X : Cx} {st : AS} {fr : Fr} {w : World} {m : Mem} {ρ : List Value} {φ : List Frag}
theorem Conc.int {x : Operand} {k : IntKind} {z : Int} (h : Conc X st fr w m ρ φ) (hx : aev st.l x = some (.int k z)) : evo fr x = some (.int k z) := by
  obtain ⟨v, h1, h2⟩ := h.ev hx; simp only [RepA] at h2; subst h2; exact h1
theorem Conc.bool {x : Operand} {b : Bool} (h : Conc X st fr w m ρ φ) (hx : aev st.l x = some (.bool b)) : evo fr x = some (.bool b) := by
  obtain ⟨v, h1, h2⟩ := h.ev hx; simp only [RepA] at h2; subst h2; exact h1
theorem Conc.str {x : Operand} {s : Str} (h : Conc X st fr w m ρ φ) (hx : aev st.l x = some (.str s)) : evo fr x = some (.string (bstr s)) := by
  obtain ⟨v, h1, h2⟩ := h.ev hx; simp only [RepA] at h2; subst h2; exact h1
theorem Conc.evl {xs : List Operand} {as' : List AV} (h : Conc X st fr w m ρ φ) (hx : (xs.map (aev st.l)) = as'.map some) : ∃ vs, evl fr xs = some vs ∧ RepL m ρ as' vs := by
  induction xs generalizing as' with
  | nil => cases as' with
    | nil => exact ⟨[], rfl, by simp [RepL]⟩
    | cons => simp at hx
  | cons x xs ih => cases as' with
    | nil => simp at hx
    | cons a as' =>
      simp only [List.map_cons, List.cons.injEq] at hx
      obtain ⟨v, h1, h2⟩ := h.ev hx.1
      obtain ⟨vs, h3, h4⟩ := ih hx.2
      exact ⟨v :: vs, by simp [Eng.evl, h1, h3], by simp only [RepL]; exact ⟨h2, h4⟩⟩
end
end Go.Ab


set_option linter.unusedVariables false
set_option linter.unusedSimpArgs false
namespace Go.Ab
open Go.RowKit Go.Shelf Go.Proofs Go.Eng

/-- What a type is: an aggregate or not, how many cells. -/
def TyS (P : Program) (T : Nat) (b : Bool) (n : Nat) : Prop := AggT P T b ∧ Sz P T n

theorem CellsM.cells {e w : World} {m : Mem} {f : Frag} {b o : Nat} {us : List Value} (h : CellsM m b o us) (hs : SH e w m f) : Cells w b o us := by
  intro j v hj
  obtain ⟨cs, T, fr, h1, h2⟩ := h j v hj
  exact cell_blk (hs.fz _ _ h1) h2

/-- An element's cells among all. -/
theorem RowsC.at {m : Mem} {t : Ty} {x : List t.den} {vs : List Value} (h : RowsC m t x vs) {z : Nat} {y : t.den} (hz : x[z]? = some y) : ∃ u, RC m t y u ∧ ∀ j v, u[j]? = some v → vs[z * t.cells + j]? = some v := by
  obtain ⟨us, h1, rfl, h3⟩ := h
  have hzl := (List.getElem?_eq_some_iff.1 hz).1
  obtain ⟨w, hw⟩ : ∃ w, us[z]? = some w := ⟨_, List.getElem?_eq_getElem (by omega)⟩
  refine ⟨w, h3 z y _ hz hw, ?_⟩
  have hall : ∀ u ∈ us, u.length = t.cells := by
    intro u hu
    obtain ⟨i, hi, rfl⟩ := List.getElem_of_mem hu
    exact RC.len (h3 i (x[i]'(by omega)) _ (List.getElem?_eq_getElem (by omega)) (List.getElem?_eq_getElem hi))
  clear h3 h1 hz hzl
  induction us generalizing z with
  | nil => simp at hw
  | cons u us ih =>
    intro j v hj
    have hu : u.length = t.cells := hall u (by simp)
    rw [List.flatten_cons]
    cases z with
    | zero =>
      simp only [List.getElem?_cons_zero, Option.some.injEq] at hw
      subst hw
      have hjl := (List.getElem?_eq_some_iff.1 hj).1
      rw [Nat.zero_mul, Nat.zero_add, List.getElem?_append_left hjl]; exact hj
    | succ z =>
      rw [List.getElem?_append_right (by rw [hu, Nat.add_mul]; omega), hu, show (z + 1) * t.cells + j - t.cells = z * t.cells + j by rw [Nat.add_mul]; omega]
      exact ih (by simpa using hw) (fun u hu => hall u (by simp [hu])) j v hj

def ix {α : Type} (x : List α) (z : Int) : Option α := if 0 ≤ z then x[z.toNat]? else none
theorem ix_some {α : Type} {x : List α} {z : Int} {e : α} (h : ix x z = some e) : 0 ≤ z ∧ z.toNat < x.length ∧ x[z.toNat]? = some e := by
  unfold ix at h
  split at h
  · rename_i h0; exact ⟨h0, (List.getElem?_eq_some_iff.1 h).1, h⟩
  · cases h

section
variable {P : Program} {N : Ev} {X : Cx} {Q : APost} {st : AS}
variable {d : Nat} {T U T' : TypeId} {pos : String} {aft : Array Edge} {g : Option (Nat × Bool)} {x y : Operand} {k ky : IntKind} {a b : Int}

theorem Conc.obj {fr : Fr} {w : World} {m : Mem} {ρ : List Value} {φ : List Frag} (hc : Conc X st fr w m ρ φ) {i : Nat} {h : Value} (hi : ρ[i]? = some h) : ∃ f, φ[i]? = some f ∧ ORep m ρ (st.H.get i) h f ∧ ∀ p ∈ f, w.heap[p.1]? = some p.2 := by
  have hl := (List.getElem?_eq_some_iff.1 hi).1
  have hf : φ[i]? = some (φ[i]'(by rw [hc.nφ, ← hc.nρ]; exact hl)) := List.getElem?_eq_getElem _
  refine ⟨_, hf, hc.objs i h _ hi hf, fun p hp => hc.sh.own p (List.mem_append.2 (.inl (List.mem_flatten.2 ⟨_, List.mem_of_getElem? hf, hp⟩)))⟩

theorem av_move {v : AV} (hx : aev st.l x = some v) (hN : Nat.blt d N.n = true := by rfl) : AOpV P N X ⟨some d, .move x, T, pos, aft, g⟩ v st :=
  av_of rfl fun Q fr w m ρ φ hc => let ⟨u, h1, h2⟩ := hc.ev hx; ⟨u, h2, fun K hk => op_move h1 hN hk⟩
theorem av_assign {v : AV} (hx : aev st.l x = some v) (hN : Nat.blt d N.n = true := by rfl) : AOpV P N X ⟨some d, .assign x, T, pos, aft, g⟩ v st :=
  av_of rfl fun Q fr w m ρ φ hc => let ⟨u, h1, h2⟩ := hc.ev hx; ⟨u, h2, fun K hk => op_assign h1 hN hk⟩

theorem rep_int {m : Mem} {ρ : List Value} {z : Int} : RepA m ρ (.int k z) (.int k z) := by simp only [RepA]
theorem rep_bool {m : Mem} {ρ : List Value} {z : Bool} : RepA m ρ (.bool z) (.bool z) := by simp only [RepA]
theorem rep_str {m : Mem} {ρ : List Value} {z : Str} : RepA m ρ (.str z) (.string (bstr z)) := by simp only [RepA]

theorem av_bin {op : BinOp} {ax ay r : AV} (hx : aev st.l x = some ax) (hy : aev st.l y = some ay) (h : ∀ m ρ vx vy, RepA m ρ ax vx → RepA m ρ ay vy → ∃ v, RepA m ρ r v ∧ (∀ w, (eqGuard op T x y vx vy).run P w = .ok () w) ∧ ∀ w, (binOp op T vx vy).run P w = .ok v w)
    (hN : Nat.blt d N.n = true) : AOpV P N X ⟨some d, .binOp op T x y T', U, pos, aft, g⟩ r st :=
  av_of rfl fun Q fr w m ρ φ hc => by
    obtain ⟨vx, h1, h2⟩ := hc.ev hx
    obtain ⟨vy, h3, h4⟩ := hc.ev hy
    obtain ⟨v, h5, h6, h7⟩ := h m ρ vx vy h2 h4
    exact ⟨v, h5, fun K hk => op_bin h1 h3 h6 h7 hN hk⟩
theorem av_ii {op : BinOp} {r : AV} (hx : aev st.l x = some (.int k a)) (hy : aev st.l y = some (.int ky b)) (h : ∀ m ρ, ∃ v, RepA m ρ r v ∧ ∀ w, (binOp op T (.int k a) (.int ky b)).run P w = .ok v w)
    (hN : Nat.blt d N.n = true) : AOpV P N X ⟨some d, .binOp op T x y T', U, pos, aft, g⟩ r st :=
  av_bin hx hy (fun m ρ vx vy h1 h2 => by
    simp only [RepA] at h1 h2; subst h1 h2
    obtain ⟨v, h3, h4⟩ := h m ρ
    exact ⟨v, h3, fun w => by cases op <;> simp [eqGuard], h4⟩) hN

theorem av_add (hx : aev st.l x = some (.int k a)) (hy : aev st.l y = some (.int k b)) (hN : Nat.blt d N.n = true := by rfl) : AOpV P N X ⟨some d, .binOp .add T x y T', U, pos, aft, g⟩ (.int k (k.wrap (a + b))) st :=
  av_ii hx hy (fun m ρ => ⟨_, rep_int, fun w => by simp [binOp, Op.intArith]⟩) hN
theorem av_sub (hx : aev st.l x = some (.int k a)) (hy : aev st.l y = some (.int k b)) (hN : Nat.blt d N.n = true := by rfl) : AOpV P N X ⟨some d, .binOp .sub T x y T', U, pos, aft, g⟩ (.int k (k.wrap (a - b))) st :=
  av_ii hx hy (fun m ρ => ⟨_, rep_int, fun w => by simp [binOp, Op.intArith]⟩) hN
theorem av_lss (hx : aev st.l x = some (.int k a)) (hy : aev st.l y = some (.int k b)) (hN : Nat.blt d N.n = true := by rfl) : AOpV P N X ⟨some d, .binOp .lss T x y T', U, pos, aft, g⟩ (.bool (decide (a < b))) st :=
  av_ii hx hy (fun m ρ => ⟨_, rep_bool, fun w => by simp [binOp, Op.intCmp]⟩) hN
theorem av_leq (hx : aev st.l x = some (.int k a)) (hy : aev st.l y = some (.int k b)) (hN : Nat.blt d N.n = true := by rfl) : AOpV P N X ⟨some d, .binOp .leq T x y T', U, pos, aft, g⟩ (.bool (decide (a ≤ b))) st :=
  av_ii hx hy (fun m ρ => ⟨_, rep_bool, fun w => by simp [binOp, Op.intCmp]⟩) hN
theorem av_gtr (hx : aev st.l x = some (.int k a)) (hy : aev st.l y = some (.int k b)) (hN : Nat.blt d N.n = true := by rfl) : AOpV P N X ⟨some d, .binOp .gtr T x y T', U, pos, aft, g⟩ (.bool (decide (b < a))) st :=
  av_ii hx hy (fun m ρ => ⟨_, rep_bool, fun w => by simp [binOp, Op.intCmp]⟩) hN
theorem av_geq (hx : aev st.l x = some (.int k a)) (hy : aev st.l y = some (.int k b)) (hN : Nat.blt d N.n = true := by rfl) : AOpV P N X ⟨some d, .binOp .geq T x y T', U, pos, aft, g⟩ (.bool (decide (b ≤ a))) st :=
  av_ii hx hy (fun m ρ => ⟨_, rep_bool, fun w => by simp [binOp, Op.intCmp]⟩) hN
theorem av_eql (hx : aev st.l x = some (.int k a)) (hy : aev st.l y = some (.int k b)) (hN : Nat.blt d N.n = true := by rfl) : AOpV P N X ⟨some d, .binOp .eql T x y T', U, pos, aft, g⟩ (.bool (decide (a = b))) st :=
  av_ii hx hy (fun m ρ => ⟨_, rep_bool, fun w => by simp [binOp, Op.intCmp]; rfl⟩) hN
theorem av_neq (hx : aev st.l x = some (.int k a)) (hy : aev st.l y = some (.int k b)) (hN : Nat.blt d N.n = true := by rfl) : AOpV P N X ⟨some d, .binOp .neq T x y T', U, pos, aft, g⟩ (.bool (!decide (a = b))) st :=
  av_ii hx hy (fun m ρ => ⟨_, rep_bool, fun w => by simp [binOp, Op.intCmp]; rfl⟩) hN
/-! strings -/
theorem av_ss {op : BinOp} {r : AV} {s t : Str} (hx : aev st.l x = some (.str s)) (hy : aev st.l y = some (.str t)) (h : ∀ m ρ, ∃ v, RepA m ρ r v ∧ ∀ w, (Op.stringOp op (bstr s) (bstr t)).run P w = .ok v w)
    (hop : op ≠ .shl ∧ op ≠ .shr := by decide) (hN : Nat.blt d N.n = true) : AOpV P N X ⟨some d, .binOp op T x y T', U, pos, aft, g⟩ r st :=
  av_bin hx hy (fun m ρ vx vy h1 h2 => by
    simp only [RepA] at h1 h2; subst h1 h2
    obtain ⟨v, h3, h4⟩ := h m ρ
    exact ⟨v, h3, fun w => by cases op <;> simp [eqGuard], fun w => by rw [← h4 w]; cases op <;> rfl⟩) hN
theorem bstr_app (s t : Str) : bstr s ++ bstr t = bstr (s ++ t) := by
  have : (bstr s ++ bstr t).data = (bstr (s ++ t)).data := by simp [bstr, ByteArray.data_append]
  cases h : bstr s ++ bstr t; rw [h] at this; simp only at this; subst this; rfl
/-- A text that a machine may bear. -/
def strOk (n : Nat) : Bool := Nat.ble n cap47
theorem av_adds {s t : Str} (hx : aev st.l x = some (.str s)) (hy : aev st.l y = some (.str t)) (hb : strOk (s.length + t.length) = true) (hN : Nat.blt d N.n = true := by rfl) : AOpV P N X ⟨some d, .binOp .add T x y T', U, pos, aft, g⟩ (.str (s ++ t)) st :=
  av_ss hx hy (fun m ρ => ⟨_, rep_str, fun w => by
    have hb := Nat.le_of_ble_eq_true hb
    have hc : cap47 = 140737488355328 := rfl
    simp only [Op.stringOp, bstr_size]
    rw [if_neg (by simp only [IntKind.max, IntKind.bits, IntKind.signed]; simp; omega), bstr_app]; rfl⟩) (by decide) hN

/-! bools -/
theorem av_not {c : Bool} (hx : aev st.l x = some (.bool c)) (hN : Nat.blt d N.n = true := by rfl) : AOpV P N X ⟨some d, .unOp .not T x, U, pos, aft, g⟩ (.bool (!c)) st :=
  av_of rfl fun Q fr w m ρ φ hc => ⟨_, rep_bool, fun K hk => op_not (hc.bool hx) hN hk⟩
/-! structs held against one another, fields that are whole numbers, texts, truth values -/
def flatB : AV → Bool
  | .int _ _ => true
  | .bool _ => true
  | .str _ => true
  | _ => false
def flatV : AV → Value
  | .int k z => .int k z
  | .bool b => .bool b
  | .str s => .string (bstr s)
  | _ => undef
theorem flat_rep {m : Mem} {ρ : List Value} {a : AV} {v : Value} (hf : flatB a = true) (h : RepA m ρ a v) : v = flatV a := by
  cases a <;> simp [flatB] at hf <;> simpa only [RepA, flatV] using h
theorem flat_repL {m : Mem} {ρ : List Value} : ∀ {as' : List AV} {vs : List Value}, (as'.all flatB) = true → RepL m ρ as' vs → vs = as'.map flatV := by
  intro as'
  induction as' with
  | nil => intro vs _ h; cases vs with
    | nil => rfl
    | cons => simp [RepL] at h
  | cons a as' ih => intro vs hf h; cases vs with
    | nil => simp [RepL] at h
    | cons v vs =>
      simp only [RepL] at h
      simp only [List.all_cons, Bool.and_eq_true] at hf
      rw [flat_rep hf.1 h.1, ih hf.2 h.2, List.map_cons]
/-! lengths -/
theorem av_len_sl {t : Ty} {xs : List t.den} {e : Nat} {ts : Array TypeId} {cl : Array Operand} (hc : cl = #[x]) (ht : ts = #[T]) (hU : Und P T (.slice e)) (hx : aev st.l x = some (.sl t xs)) (hN : Nat.blt d N.n = true := by rfl) :
    AOpV P N X ⟨some d, .call ⟨.builtin .len, cl, ts⟩, U, pos, aft, g⟩ (.int .i64 (xs.length : Int)) st :=
  av_of rfl fun Q fr w m ρ φ hcc => by
    obtain ⟨v, h1, h2⟩ := hcc.ev hx
    simp only [RepA, RC] at h2
    obtain ⟨A, n, c, h3, h4, _⟩ := h2
    cases h3
    rw [h4]
    exact ⟨_, rep_int, fun K hk => op_len_slice hc ht hU h1 hN hk⟩
theorem av_len_osl {i : Nat} {t : Ty} {xs : List t.den} {e E : Nat} {ts : Array TypeId} {cl : Array Operand} (hc : cl = #[x]) (ht : ts = #[T]) (hU : Und P T (.slice e)) (hx : aev st.l x = some (.osl i)) (hH : st.H.get i = .sl E t xs) (hN : Nat.blt d N.n = true := by rfl) :
    AOpV P N X ⟨some d, .call ⟨.builtin .len, cl, ts⟩, U, pos, aft, g⟩ (.int .i64 (xs.length : Int)) st :=
  av_of rfl fun Q fr w m ρ φ hcc => by
    obtain ⟨v, h1, h2⟩ := hcc.ev hx
    simp only [RepA] at h2
    obtain ⟨f, _, ho, _⟩ := hcc.obj h2.1
    rw [hH] at ho
    obtain ⟨_, ⟨rfl, rfl, _⟩ | ⟨b, c, cs, vs, rfl, _⟩⟩ := ho
    · exact ⟨_, rep_int, fun K hk => op_len_slice hc ht hU h1 hN hk⟩
    · exact ⟨_, rep_int, fun K hk => op_len_slice hc ht hU h1 hN hk⟩
theorem av_len_str {s : Str} {ts : Array TypeId} {cl : Array Operand} (hc : cl = #[x]) (ht : ts = #[T]) (hU : Und P T .string) (hx : aev st.l x = some (.str s)) (hN : Nat.blt d N.n = true := by rfl) :
    AOpV P N X ⟨some d, .call ⟨.builtin .len, cl, ts⟩, U, pos, aft, g⟩ (.int .i64 (s.length : Int)) st :=
  av_of rfl fun Q fr w m ρ φ hcc => ⟨_, rep_int, fun K hk => op_len_str hc ht hU (hcc.str hx) hN (by rw [bstr_size]; exact hk)⟩
theorem av_max {ts : Array TypeId} {cl : Array Operand} (hc : cl = #[x, y]) (hx : aev st.l x = some (.int k a)) (hy : aev st.l y = some (.int k b)) (hN : Nat.blt d N.n = true := by rfl) :
    AOpV P N X ⟨some d, .call ⟨.builtin .max, cl, ts⟩, U, pos, aft, g⟩ (.int k (max a b)) st :=
  av_of rfl fun Q fr w m ρ φ hcc => ⟨_, rep_int, fun K hk => op_max hc (hcc.int hx) (hcc.int hy) hN (by rw [show (if b > a then b else a) = max a b by split <;> omega]; exact hk)⟩

/-! memory that is read -/
theorem RepL.one1 {m : Mem} {ρ : List Value} {a : AV} {r : List AV} {us : List Value} (h : RepL m ρ (a :: r) us) : ∃ u us', us = u :: us' ∧ RepA m ρ a u ∧ RepL m ρ r us' := by
  cases us with
  | nil => simp [RepL] at h
  | cons u us => simp only [RepL] at h; exact ⟨u, us, rfl, h.1, h.2⟩

theorem av_load_rp {v : AV} {r : List AV} (hT : TyS P T false 1) (hx : aev st.l x = some (.rp (v :: r))) (hN : Nat.blt d N.n = true := by rfl) : AOpV P N X ⟨some d, .load T x, U, pos, aft, g⟩ v st :=
  av_of rfl fun Q fr w m ρ φ hc => by
    obtain ⟨p, h1, h2⟩ := hc.ev hx
    simp only [RepA] at h2
    obtain ⟨b, o, us, rfl, h3, h4, h5⟩ := h2
    obtain ⟨u, us', rfl, h6, _⟩ := h3.one1
    exact ⟨u, h6, fun K hk => op_load1 h1 hT.1 ((h4.cells hc.sh).head) hN hk⟩
theorem av_load_rpN {n : Nat} {cs ds : List AV} (hT : TyS P T true n) (hx : aev st.l x = some (.rp cs)) (hd : cs.take n = ds) (hl : Nat.beq ds.length n = true) (hN : Nat.blt d N.n = true := by rfl) : AOpV P N X ⟨some d, .load T x, U, pos, aft, g⟩ (.agg ds) st :=
  av_of rfl fun Q fr w m ρ φ hc => by
    obtain ⟨p, h1, h2⟩ := hc.ev hx
    simp only [RepA] at h2
    obtain ⟨b, o, us, rfl, h3, h4, h5⟩ := h2
    have hl' := Nat.eq_of_beq_eq_true hl
    subst hd
    have h6 := h3.take n
    refine ⟨.agg (us.take n).toArray, ?_, fun K hk => op_loadN h1 hT.1 hT.2 ?_ ?_ hN hk⟩
    · simp only [RepA]; exact ⟨_, rfl, h6, fun u hu => h5 u (List.mem_of_mem_take hu)⟩
    · rw [h6.len]; exact hl'
    · exact cells_sub (h4.cells hc.sh) 0 _ (by simp)
theorem own_cells {m : Mem} {ρ : List Value} {φ : List Frag} {fr : Fr} {w : World} (hc : Conc X st fr w m ρ φ) {i o : Nat} {T' : TypeId} {cs : List AV} {v : Value} (hv : RepA m ρ (.ptr i o) v) (hH : st.H.get i = .var T' cs) : ∃ b us, v = .pointer (some ⟨b, o, none⟩) ∧ w.heap[b]? = some (.cells us.toArray T' (0, 0)) ∧ RepL m ρ cs us ∧ (∀ u ∈ us, u.oneCell' = true) := by
  simp only [RepA] at hv
  obtain ⟨b, h1, rfl⟩ := hv
  obtain ⟨f, _, ho, hw⟩ := hc.obj h1
  rw [hH] at ho
  obtain ⟨b', us, h2, rfl, h3, h4⟩ := ho
  cases h2
  exact ⟨b, us, rfl, hw (b, _) (List.mem_singleton.2 rfl), h3, h4⟩
theorem av_load_ptr {i o : Nat} {cs : List AV} {v : AV} {r : List AV} (hT : TyS P T false 1) (hx : aev st.l x = some (.ptr i o)) (hH : st.H.get i = .var T' cs) (hd : cs.drop o = v :: r) (hN : Nat.blt d N.n = true := by rfl) : AOpV P N X ⟨some d, .load T x, U, pos, aft, g⟩ v st :=
  av_of rfl fun Q fr w m ρ φ hc => by
    obtain ⟨p, h1, h2⟩ := hc.ev hx
    obtain ⟨b, us, rfl, h3, h4, _⟩ := own_cells hc h2 hH
    have h5 := h4.drop o
    rw [hd] at h5
    obtain ⟨u, us', h6, h7, _⟩ := h5.one1
    refine ⟨u, h7, fun K hk => op_load1 h1 hT.1 (cell_blk h3 ?_) hN hk⟩
    have : (us.drop o)[0]? = some u := by rw [h6]; rfl
    rw [List.getElem?_drop] at this
    simpa using this
theorem av_load_ptrN {n i o : Nat} {cs ds : List AV} (hT : TyS P T true n) (hx : aev st.l x = some (.ptr i o)) (hH : st.H.get i = .var T' cs) (hd : (cs.drop o).take n = ds) (hl : Nat.beq ds.length n = true) (hN : Nat.blt d N.n = true := by rfl) : AOpV P N X ⟨some d, .load T x, U, pos, aft, g⟩ (.agg ds) st :=
  av_of rfl fun Q fr w m ρ φ hc => by
    obtain ⟨p, h1, h2⟩ := hc.ev hx
    obtain ⟨b, us, rfl, h3, h4, h5⟩ := own_cells hc h2 hH
    have hl' := Nat.eq_of_beq_eq_true hl
    subst hd
    have h6 := (h4.drop o).take n
    refine ⟨.agg ((us.drop o).take n).toArray, ?_, fun K hk => op_loadN h1 hT.1 hT.2 ?_ ?_ hN hk⟩
    · simp only [RepA]; exact ⟨_, rfl, h6, fun u hu => h5 u (List.mem_of_mem_drop (List.mem_of_mem_take hu))⟩
    · rw [h6.len]; exact hl'
    · intro j v hj
      refine cell_blk h3 ?_
      rw [List.getElem?_take] at hj
      split at hj
      · rw [List.getElem?_drop] at hj; simpa using hj
      · cases hj
/-- An element of what is owned. -/
theorem own_elem {m : Mem} {ρ : List Value} {φ : List Frag} {fr : Fr} {w : World} (hc : Conc X st fr w m ρ φ) {i z o : Nat} {E : TypeId} {t : Ty} {xs : List t.den} {e : t.den} {v : Value} (hv : RepA m ρ (.ep i t.cells z o) v) (hH : st.H.get i = .sl E t xs) (he : xs[z]? = some e) :
    ∃ b us, v = .pointer (some ⟨b, z * t.cells + o, none⟩) ∧ RC m t e us ∧ Cells w b (z * t.cells) us := by
  simp only [RepA] at hv
  obtain ⟨b, n, c, h1, rfl⟩ := hv
  obtain ⟨f, _, ho, hw⟩ := hc.obj h1
  rw [hH] at ho
  obtain ⟨_, ⟨_, h2, _⟩ | ⟨b', c', cs, vs, h2, rfl, h3, h4, h5, h6, h7⟩⟩ := ho
  · cases h2
  · cases h2
    obtain ⟨u, h8, h9⟩ := h6.at he
    refine ⟨b, u, rfl, h8, fun j v hj => cell_blk (hw (b, _) (List.mem_singleton.2 rfl)) ?_⟩
    have := h9 j v hj
    rw [← h7, List.getElem?_take] at this
    split at this
    · simpa using this
    · cases this
theorem av_load_ep {i z o sz : Nat} {E : TypeId} {t : Ty} {xs : List t.den} {e : t.den} {v : AV} {r : List AV} (hT : TyS P T false 1) (hx : aev st.l x = some (.ep i sz z o)) (hH : st.H.get i = .sl E t xs) (hsz : sz = t.cells) (he : xs[z]? = some e) (hd : (expl t e).drop o = v :: r) (hN : Nat.blt d N.n = true := by rfl) : AOpV P N X ⟨some d, .load T x, U, pos, aft, g⟩ v st :=
  av_of rfl fun Q fr w m ρ φ hc => by
    subst hsz
    obtain ⟨p, h1, h2⟩ := hc.ev hx
    obtain ⟨b, us, rfl, h3, h4⟩ := own_elem hc h2 hH he
    have h5 := (rc_expl (ρ := ρ) h3).drop o
    rw [hd] at h5
    obtain ⟨u, us', h6, h7, _⟩ := h5.one1
    refine ⟨u, h7, fun K hk => op_load1 h1 hT.1 (h4 o u ?_) hN hk⟩
    have : (us.drop o)[0]? = some u := by rw [h6]; rfl
    rw [List.getElem?_drop] at this
    simpa using this
theorem av_load_epN {n i z o sz : Nat} {E : TypeId} {t : Ty} {xs : List t.den} {e : t.den} {ds : List AV} (hT : TyS P T true n) (hx : aev st.l x = some (.ep i sz z o)) (hH : st.H.get i = .sl E t xs) (hsz : sz = t.cells) (he : xs[z]? = some e) (hd : ((expl t e).drop o).take n = ds) (hl : Nat.beq ds.length n = true) (hN : Nat.blt d N.n = true := by rfl) : AOpV P N X ⟨some d, .load T x, U, pos, aft, g⟩ (.agg ds) st :=
  av_of rfl fun Q fr w m ρ φ hc => by
    subst hsz
    obtain ⟨p, h1, h2⟩ := hc.ev hx
    obtain ⟨b, us, rfl, h3, h4⟩ := own_elem hc h2 hH he
    have hl' := Nat.eq_of_beq_eq_true hl
    subst hd
    have h6 := ((rc_expl (ρ := ρ) h3).drop o).take n
    refine ⟨.agg ((us.drop o).take n).toArray, ?_, fun K hk => op_loadN h1 hT.1 hT.2 ?_ ?_ hN hk⟩
    · simp only [RepA]; exact ⟨_, rfl, h6, fun u hu => h3.one u (List.mem_of_mem_drop (List.mem_of_mem_take hu))⟩
    · rw [h6.len]; exact hl'
    · intro j v hj
      rw [List.getElem?_take] at hj
      split at hj
      · rw [List.getElem?_drop] at hj
        have := h4 (o + j) v hj
        rw [Nat.add_assoc]; exact this
      · cases hj

theorem av_fa_rp {f off : Nat} {cs ds : List AV} (hf : FieldAt P T f off) (hx : aev st.l x = some (.rp cs)) (hd : cs.drop off = ds) (hN : Nat.blt d N.n = true := by rfl) : AOpV P N X ⟨some d, .fieldAddr T x f, U, pos, aft, g⟩ (.rp ds) st :=
  av_of rfl fun Q fr w m ρ φ hc => by
    obtain ⟨p, h1, h2⟩ := hc.ev hx
    simp only [RepA] at h2
    obtain ⟨b, o, us, rfl, h3, h4, h5⟩ := h2
    subst hd
    refine ⟨_, ?_, fun K hk => op_fieldAddr h1 hf hN hk⟩
    simp only [RepA]
    refine ⟨b, o + off, us.drop off, rfl, h3.drop off, ?_, fun u hu => h5 u (List.mem_of_mem_drop hu)⟩
    intro j v hj
    rw [List.getElem?_drop] at hj
    have := h4 (off + j) v hj
    rw [Nat.add_assoc]; exact this
theorem av_fa_ptr {f off i o o' : Nat} (hf : FieldAt P T f off) (hx : aev st.l x = some (.ptr i o)) (ho : o + off = o') (hN : Nat.blt d N.n = true := by rfl) : AOpV P N X ⟨some d, .fieldAddr T x f, U, pos, aft, g⟩ (.ptr i o') st :=
  av_of rfl fun Q fr w m ρ φ hc => by
    obtain ⟨p, h1, h2⟩ := hc.ev hx
    simp only [RepA] at h2
    obtain ⟨b, h3, rfl⟩ := h2
    subst ho
    exact ⟨_, by simp only [RepA]; exact ⟨b, h3, rfl⟩, fun K hk => op_fieldAddr h1 hf hN hk⟩
theorem av_ia_sl {t : Ty} {xs : List t.den} {e : t.den} {E : Nat} (hU : Und P T (.slice E)) (hS : Sz P E t.cells) (hx : aev st.l x = some (.sl t xs)) (hy : aev st.l y = some (.int k a)) (he : ix xs a = some e) (hN : Nat.blt d N.n = true := by rfl) : AOpV P N X ⟨some d, .indexAddr T x y, U, pos, aft, g⟩ (.rp (expl t e)) st :=
  av_of rfl fun Q fr w m ρ φ hc => by
    obtain ⟨p, h1, h2⟩ := hc.ev hx
    simp only [RepA, RC] at h2
    obtain ⟨A, n, c, h3, h4, h5, h6, b, o, h7, h8⟩ := h2
    cases h3
    obtain ⟨g1, g2, g3⟩ := ix_some he
    obtain ⟨us, h9, h10⟩ := h8 _ _ g3
    refine ⟨_, ?_, fun K hk => op_indexAddr (j := a.toNat) h1 (hc.int hy) hU hS (h7 (by omega)) (by omega) (by omega) hN hk⟩
    simp only [RepA]
    exact ⟨b, _, us, rfl, rc_expl h9, h10, h9.one⟩
theorem av_ia_osl {i : Nat} {t : Ty} {xs : List t.den} {E E' : Nat} {e : t.den} (hU : Und P T (.slice E)) (hS : Sz P E t.cells) (hx : aev st.l x = some (.osl i)) (hy : aev st.l y = some (.int k a)) (hH : st.H.get i = .sl E' t xs) (he : ix xs a = some e) (hN : Nat.blt d N.n = true := by rfl) : AOpV P N X ⟨some d, .indexAddr T x y, U, pos, aft, g⟩ (.ep i t.cells a.toNat 0) st :=
  av_of rfl fun Q fr w m ρ φ hc => by
    obtain ⟨g1, g2, g3⟩ := ix_some he
    obtain ⟨p, h1, h2⟩ := hc.ev hx
    simp only [RepA] at h2
    obtain ⟨f, _, ho, hw⟩ := hc.obj h2.1
    rw [hH] at ho
    obtain ⟨_, ⟨rfl, rfl, _⟩ | ⟨b', c', cs, vs, rfl, rfl, h3, h4, h5, h6, h7⟩⟩ := ho
    · simp at g2
    · refine ⟨_, ?_, fun K hk => op_indexAddr (b := b') (o := 0) (j := a.toNat) h1 (hc.int hy) hU hS rfl (by omega) (by omega) hN hk⟩
      simp only [RepA]
      exact ⟨b', _, c', h2.1, by simp⟩
theorem ix_at {α : Type} {xs : List α} {z : Int} {e : α} (h : ix xs z = some e) : xs[z.toNat]? = some e := (ix_some h).2.2
theorem av_nilCheck_ptr {i o : Nat} (hx : aev st.l x = some (.ptr i o)) (hN : Nat.blt d N.n = true := by rfl) : AOpV P N X ⟨some d, .nilCheck x, U, pos, aft, g⟩ (.ptr i o) st :=
  av_of rfl fun Q fr w m ρ φ hc => by
    obtain ⟨p, h1, h2⟩ := hc.ev hx
    have h2' := h2
    simp only [RepA] at h2
    obtain ⟨b, _, rfl⟩ := h2
    exact ⟨_, h2', fun K hk => op_nilCheck_p h1 hN hk⟩
end
end Go.Ab


set_option linter.unusedVariables false
set_option linter.unusedSimpArgs false
namespace Go.Ab
open Go.RowKit Go.Shelf Go.Proofs Go.Eng

/-! other handles for the same values -/
mutual
def renA (σ : List Nat) : AV → AV
  | .rp cs => .rp (renL σ cs)
  | .agg cs => .agg (renL σ cs)
  | .tup cs => .tup (renL σ cs)
  | .ptr i o => match σ[i]? with
    | some j => .ptr j o
    | none => .bad
  | .osl i => match σ[i]? with
    | some j => .osl j
    | none => .bad
  | .ep i sz z o => match σ[i]? with
    | some j => .ep j sz z o
    | none => .bad
  | .map i => match σ[i]? with
    | some j => .map j
    | none => .bad
  | .fn f first caps => .fn f (renL σ first) (renL σ caps)
  | .int k z => .int k z
  | .bool b => .bool b
  | .str s => .str s
  | .sl t x => .sl t x
  | .nils => .nils
  | .nilp => .nilp
  | .nilf => .nilf
  | .nili => .nili
  | .nilm => .nilm
  | .yld l => .yld l
  | .val v => .val v
  | .clo a => .clo a
  | .sog i => match σ[i]? with
    | some j => .sog j
    | none => .bad
  | .epg i k => match σ[i]? with
    | some j => .epg j k
    | none => .bad
  | .row i k => match σ[i]? with
    | some j => .row j k
    | none => .bad
  | .epr i k sz z o => match σ[i]? with
    | some j => .epr j k sz z o
    | none => .bad
  | .dm tk tv x => .dm tk tv x
  | .any => .any
  | .bad => .bad
def renL (σ : List Nat) : List AV → List AV
  | [] => []
  | a :: r => renA σ a :: renL σ r
end
def AO.ren (σ : List Nat) : AO → AO
  | .dead => .dead
  | .var T cs => .var T (renL σ cs)
  | .sl T t x => .sl T t x
  | .map tk tv x => .map tk tv x
  | .slo T T' t x => .slo T T' t x
  | .guest p => .guest p
  | .mpt k v x hs => if hs.all (fun q => (σ[q.2]?).isSome) then .mpt k v x (hs.map fun q => (q.1, (σ[q.2]?).getD 0)) else .guest fun _ _ => False
  | .mapr tk tv x left cur j => match σ[j]? with
    | some j' => .mapr tk tv x left cur j'
    | none => .guest fun _ _ => False
  | .mit tk tv left cur => .mit tk tv left cur
  | .bld T E s => .bld T E s
  | .sloh T T' t x z j => match σ[j]? with
    | some j' => .sloh T T' t x z j'
    | none => .guest fun _ _ => False

section
variable {m : Mem} {ρ ρ1 : List Value} {σ : List Nat}
mutual
theorem ren_fwd (h : ∀ (i j : Nat) (u : Value), σ[i]? = some j → ρ[j]? = some u → ρ1[i]? = some u) : ∀ (a : AV) {v : Value}, RepA m ρ (renA σ a) v → RepA m ρ1 a v
  | .rp cs, v, H => by simp only [renA, RepA] at H ⊢; obtain ⟨b, o, us, h1, h2, h3⟩ := H; exact ⟨b, o, us, h1, renL_fwd h cs h2, h3⟩
  | .agg cs, v, H => by simp only [renA, RepA] at H ⊢; obtain ⟨us, h1, h2, h3⟩ := H; exact ⟨us, h1, renL_fwd h cs h2, h3⟩
  | .tup cs, v, H => by simp only [renA, RepA] at H ⊢; obtain ⟨us, h1, h2⟩ := H; exact ⟨us, h1, renL_fwd h cs h2⟩
  | .ptr i o, v, H => by
    simp only [renA] at H
    split at H
    · rename_i j hj; simp only [RepA] at H ⊢; obtain ⟨b, h1, h2⟩ := H; exact ⟨b, h _ _ _ hj h1, h2⟩
    · simp only [RepA] at H
  | .osl i, v, H => by
    simp only [renA] at H
    split at H
    · rename_i j hj; simp only [RepA] at H ⊢; exact ⟨h _ _ _ hj H.1, H.2⟩
    · simp only [RepA] at H
  | .ep i sz z o, v, H => by
    simp only [renA] at H
    split at H
    · rename_i j hj; simp only [RepA] at H ⊢; obtain ⟨b, n, c, h1, h2⟩ := H; exact ⟨b, n, c, h _ _ _ hj h1, h2⟩
    · simp only [RepA] at H
  | .map i, v, H => by
    simp only [renA] at H
    split at H
    · rename_i j hj; simp only [RepA] at H ⊢; exact ⟨h _ _ _ hj H.1, H.2⟩
    · simp only [RepA] at H
  | .fn f first caps, v, H => by simp only [renA, RepA] at H ⊢; obtain ⟨us, ws, h1, h2, h3⟩ := H; exact ⟨us, ws, h1, renL_fwd h first h2, renL_fwd h caps h3⟩
  | .int .., v, H => by simpa only [renA, RepA] using H
  | .bool .., v, H => by simpa only [renA, RepA] using H
  | .str .., v, H => by simpa only [renA, RepA] using H
  | .sl .., v, H => by simpa only [renA, RepA] using H
  | .dm .., v, H => by simpa only [renA, RepA] using H
  | .nils, v, H => by simpa only [renA, RepA] using H
  | .nilp, v, H => by simpa only [renA, RepA] using H
  | .nilf, v, H => by simpa only [renA, RepA] using H
  | .nili, v, H => by simpa only [renA, RepA] using H
  | .nilm, v, H => by simpa only [renA, RepA] using H
  | .yld _, v, H => by simpa only [renA, RepA] using H
  | .val _, v, H => by simpa only [renA, RepA] using H
  | .clo _, v, H => by simpa only [renA, RepA] using H
  | .sog i, v, H => by
    simp only [renA] at H
    split at H
    · rename_i j hj; simp only [RepA] at H ⊢; obtain ⟨rs, h1, h2⟩ := H; exact ⟨rs, h _ _ _ hj h1, h2⟩
    · simp only [RepA] at H
  | .epg i k, v, H => by
    simp only [renA] at H
    split at H
    · rename_i j hj; simp only [RepA] at H ⊢; obtain ⟨b, n, c, rs, h1, h2⟩ := H; exact ⟨b, n, c, rs, h _ _ _ hj h1, h2⟩
    · simp only [RepA] at H
  | .row i k, v, H => by
    simp only [renA] at H
    split at H
    · rename_i j hj; simp only [RepA] at H ⊢; obtain ⟨hd, rs, h1, h2⟩ := H; exact ⟨hd, rs, h _ _ _ hj h1, h2⟩
    · simp only [RepA] at H
  | .epr i k sz z o, v, H => by
    simp only [renA] at H
    split at H
    · rename_i j hj; simp only [RepA] at H ⊢; obtain ⟨hd, rs, b, n, c, h1, h2⟩ := H; exact ⟨hd, rs, b, n, c, h _ _ _ hj h1, h2⟩
    · simp only [RepA] at H
  | .any, v, H => by simp only [RepA]
  | .bad, v, H => by simp only [renA, RepA] at H
theorem renL_fwd (h : ∀ (i j : Nat) (u : Value), σ[i]? = some j → ρ[j]? = some u → ρ1[i]? = some u) : ∀ (as' : List AV) {vs : List Value}, RepL m ρ (renL σ as') vs → RepL m ρ1 as' vs
  | [], [], H => by simp only [RepL]
  | [], _ :: _, H => by simp only [renL, RepL] at H
  | _ :: _, [], H => by simp only [renL, RepL] at H
  | a :: r, v :: vs, H => by simp only [renL, RepL] at H ⊢; exact ⟨ren_fwd h a H.1, renL_fwd h r H.2⟩
end
mutual
theorem ren_bwd (h : ∀ (i : Nat) (u : Value), ρ1[i]? = some u → ∃ j, σ[i]? = some j ∧ ρ[j]? = some u) : ∀ (a : AV) {v : Value}, RepA m ρ1 a v → RepA m ρ (renA σ a) v
  | .rp cs, v, H => by simp only [renA, RepA] at H ⊢; obtain ⟨b, o, us, h1, h2, h3⟩ := H; exact ⟨b, o, us, h1, renL_bwd h cs h2, h3⟩
  | .agg cs, v, H => by simp only [renA, RepA] at H ⊢; obtain ⟨us, h1, h2, h3⟩ := H; exact ⟨us, h1, renL_bwd h cs h2, h3⟩
  | .tup cs, v, H => by simp only [renA, RepA] at H ⊢; obtain ⟨us, h1, h2⟩ := H; exact ⟨us, h1, renL_bwd h cs h2⟩
  | .ptr i o, v, H => by
    simp only [RepA] at H
    obtain ⟨b, h1, h2⟩ := H
    obtain ⟨j, h3, h4⟩ := h _ _ h1
    simp only [renA, h3, RepA]; exact ⟨b, h4, h2⟩
  | .osl i, v, H => by
    simp only [RepA] at H
    obtain ⟨j, h3, h4⟩ := h _ _ H.1
    simp only [renA, h3, RepA]; exact ⟨h4, H.2⟩
  | .ep i sz z o, v, H => by
    simp only [RepA] at H
    obtain ⟨b, n, c, h1, h2⟩ := H
    obtain ⟨j, h3, h4⟩ := h _ _ h1
    simp only [renA, h3, RepA]; exact ⟨b, n, c, h4, h2⟩
  | .map i, v, H => by
    simp only [RepA] at H
    obtain ⟨j, h3, h4⟩ := h _ _ H.1
    simp only [renA, h3, RepA]; exact ⟨h4, H.2⟩
  | .fn f first caps, v, H => by simp only [renA, RepA] at H ⊢; obtain ⟨us, ws, h1, h2, h3⟩ := H; exact ⟨us, ws, h1, renL_bwd h first h2, renL_bwd h caps h3⟩
  | .int .., v, H => by simpa only [renA, RepA] using H
  | .bool .., v, H => by simpa only [renA, RepA] using H
  | .str .., v, H => by simpa only [renA, RepA] using H
  | .sl .., v, H => by simpa only [renA, RepA] using H
  | .dm .., v, H => by simpa only [renA, RepA] using H
  | .nils, v, H => by simpa only [renA, RepA] using H
  | .nilp, v, H => by simpa only [renA, RepA] using H
  | .nilf, v, H => by simpa only [renA, RepA] using H
  | .nili, v, H => by simpa only [renA, RepA] using H
  | .nilm, v, H => by simpa only [renA, RepA] using H
  | .yld _, v, H => by simpa only [renA, RepA] using H
  | .val _, v, H => by simpa only [renA, RepA] using H
  | .clo _, v, H => by simpa only [renA, RepA] using H
  | .sog i, v, H => by
    simp only [RepA] at H
    obtain ⟨rs, h1, h2⟩ := H
    obtain ⟨j, h3, h4⟩ := h _ _ h1
    simp only [renA, h3, RepA]; exact ⟨rs, h4, h2⟩
  | .epg i k, v, H => by
    simp only [RepA] at H
    obtain ⟨b, n, c, rs, h1, h2⟩ := H
    obtain ⟨j, h3, h4⟩ := h _ _ h1
    simp only [renA, h3, RepA]; exact ⟨b, n, c, rs, h4, h2⟩
  | .row i k, v, H => by
    simp only [RepA] at H
    obtain ⟨hd, rs, h1, h2⟩ := H
    obtain ⟨j, h3, h4⟩ := h _ _ h1
    simp only [renA, h3, RepA]; exact ⟨hd, rs, h4, h2⟩
  | .epr i k sz z o, v, H => by
    simp only [RepA] at H
    obtain ⟨hd, rs, b, n, c, h1, h2⟩ := H
    obtain ⟨j, h3, h4⟩ := h _ _ h1
    simp only [renA, h3, RepA]; exact ⟨hd, rs, b, n, c, h4, h2⟩
  | .any, v, H => by simp only [renA, RepA]
  | .bad, v, H => by simp only [RepA] at H
theorem renL_bwd (h : ∀ (i : Nat) (u : Value), ρ1[i]? = some u → ∃ j, σ[i]? = some j ∧ ρ[j]? = some u) : ∀ (as' : List AV) {vs : List Value}, RepL m ρ1 as' vs → RepL m ρ (renL σ as') vs
  | [], [], H => by simp only [renL, RepL]
  | [], _ :: _, H => by simp only [RepL] at H
  | _ :: _, [], H => by simp only [RepL] at H
  | a :: r, v :: vs, H => by simp only [renL, RepL] at H ⊢; exact ⟨ren_bwd h a H.1, renL_bwd h r H.2⟩
end
theorem ORep.fwd (h : ∀ (i j : Nat) (u : Value), σ[i]? = some j → ρ[j]? = some u → ρ1[i]? = some u) {o : AO} {u : Value} {f : Frag} (H : ORep m ρ (o.ren σ) u f) : ORep m ρ1 o u f := by
  cases o with
  | dead => exact H
  | var T cs => obtain ⟨b, us, h1, h2, h3, h4⟩ := H; exact ⟨b, us, h1, h2, renL_fwd h cs h3, h4⟩
  | sl T t x => exact H
  | map tk tv x => exact H
  | slo => exact H
  | guest => exact H
  | mit => exact H
  | bld => exact H
  | sloh T T' t x z j =>
    simp only [AO.ren] at H
    split at H
    · rename_i j' hj
      obtain ⟨rs, fs, f0, b, c, cs, r, h1, h2, h3, h4, h5, h6, h7, h8, h9, h10, h11, h12, h13⟩ := H
      exact ⟨rs, fs, f0, b, c, cs, r, h1, h2, h3, h4, h5, h6, h7, h8, h9, h10, h11, h12, h _ _ _ hj h13⟩
    · obtain ⟨_, _, hF⟩ := H; exact hF.elim
  | mapr tk tv x left cur j =>
    simp only [AO.ren] at H
    split at H
    · rename_i j' hj
      obtain ⟨b, es, cl, r, since, c0, seen, h1, h2, h3, h4⟩ := H
      exact ⟨b, es, cl, r, since, c0, seen, h1, h2, h _ _ _ hj h3, h4⟩
    · obtain ⟨_, _, hF⟩ := H; exact hF.elim
  | mpt k v x hs =>
    simp only [AO.ren] at H
    split at H
    · rename_i hall
      rw [List.all_eq_true] at hall
      obtain ⟨h0, h00, b, es, cl, fs, h1, h2, h3, h4, h5, h6⟩ := H
      have key : ∀ (z : k.den) (n : Nat), (z, n) ∈ hs → ∃ j, σ[n]? = some j ∧ (z, j) ∈ hs.map fun q => (q.1, (σ[q.2]?).getD 0) := by
        intro z n hz
        have := hall _ hz
        obtain ⟨j, hj⟩ := Option.isSome_iff_exists.1 this
        exact ⟨j, hj, List.mem_map.2 ⟨(z, n), hz, by simp only [hj, Option.getD_some]⟩⟩
      refine ⟨h0, fun q hq => ?_, b, es, cl, fs, h1, h2, h3, h4, h5, fun i p e g a1 a2 a3 => ?_⟩
      · obtain ⟨j, hj, hm⟩ := key q.1 q.2 hq
        exact (h00 _ hm).tr (fun u hu => h _ _ _ hj hu)
      · obtain ⟨b1, b2, b3⟩ := h6 i p e g a1 a2 a3
        refine ⟨b1, fun n hn => ?_, fun hn => b3 fun n hm => ?_⟩
        · obtain ⟨j, hj, hm⟩ := key _ _ hn
          exact ⟨(b2 j hm).1, h _ _ _ hj (b2 j hm).2⟩
        · obtain ⟨q, hq, he⟩ := List.mem_map.1 hm
          exact hn q.2 (by rw [Prod.mk.injEq] at he; rw [← he.1]; exact hq)
    · obtain ⟨_, _, hF⟩ := H; exact hF.elim
theorem ORep.bwd (h : ∀ (i : Nat) (u : Value), ρ1[i]? = some u → ∃ j, σ[i]? = some j ∧ ρ[j]? = some u) {o : AO} {u : Value} {f : Frag} (H : ORep m ρ1 o u f) : ORep m ρ (o.ren σ) u f := by
  cases o with
  | dead => exact H
  | var T cs => obtain ⟨b, us, h1, h2, h3, h4⟩ := H; exact ⟨b, us, h1, h2, renL_bwd h cs h3, h4⟩
  | sl T t x => exact H
  | map tk tv x => exact H
  | slo => exact H
  | guest => exact H
  | mit => exact H
  | bld => exact H
  | sloh T T' t x z j =>
    obtain ⟨rs, fs, f0, b, c, cs, r, h1, h2, h3, h4, h5, h6, h7, h8, h9, h10, h11, h12, h13⟩ := H
    obtain ⟨j', hj, hr⟩ := h _ _ h13
    simp only [AO.ren, hj]
    exact ⟨rs, fs, f0, b, c, cs, r, h1, h2, h3, h4, h5, h6, h7, h8, h9, h10, h11, h12, hr⟩
  | mapr tk tv x left cur j =>
    obtain ⟨b, es, cl, r, since, c0, seen, h1, h2, h3, h4⟩ := H
    obtain ⟨j', hj, hr⟩ := h _ _ h3
    simp only [AO.ren, hj]
    exact ⟨b, es, cl, r, since, c0, seen, h1, h2, hr, h4⟩
  | mpt k v x hs =>
    obtain ⟨h0, h00, b, es, cl, fs, h1, h2, h3, h4, h5, h6⟩ := H
    have hall : hs.all (fun q => (σ[q.2]?).isSome) = true := by
      rw [List.all_eq_true]
      intro q hq
      obtain ⟨u, hu⟩ := (h00 q hq).1
      obtain ⟨j, hj, _⟩ := h _ _ hu
      rw [hj]; rfl
    have key : ∀ (z : k.den) (j : Nat), (z, j) ∈ hs.map (fun q => (q.1, (σ[q.2]?).getD 0)) → ∃ n, (z, n) ∈ hs ∧ ∀ u, ρ1[n]? = some u → ρ[j]? = some u := by
      intro z j hz
      obtain ⟨q, hq, he⟩ := List.mem_map.1 hz
      rw [Prod.mk.injEq] at he
      refine ⟨q.2, by rw [← he.1]; exact hq, fun u hu => ?_⟩
      obtain ⟨j', hj, hr⟩ := h _ _ hu
      have := he.2
      rw [hj, Option.getD_some] at this
      rw [← this]; exact hr
    simp only [AO.ren, hall, if_true]
    refine ⟨h0, fun q hq => ?_, b, es, cl, fs, h1, h2, h3, h4, h5, fun i p e g a1 a2 a3 => ?_⟩
    · obtain ⟨n, hn, hr⟩ := key q.1 q.2 hq
      exact (h00 _ hn).tr hr
    · obtain ⟨b1, b2, b3⟩ := h6 i p e g a1 a2 a3
      refine ⟨b1, fun j hj => ?_, fun hn => b3 fun n hm => ?_⟩
      · obtain ⟨n, hn, hr⟩ := key _ _ hj
        exact ⟨(b2 n hn).1, hr _ (b2 n hn).2⟩
      · exact hn _ (List.mem_map.2 ⟨(p.1, n), hm, rfl⟩)
end

/-! contracts -/
structure OsRep (m : Mem) (ρ : List Value) (H : List AO) (φ : List Frag) : Prop where
  nρ : ρ.length = H.length
  nφ : φ.length = H.length
  at_ : ∀ (i : Nat) (o : AO) (h : Value) (f : Frag), H[i]? = some o → ρ[i]? = some h → φ[i]? = some f → ORep m ρ o h f

/-- What a call does. -/
def Runs (P : Program) (f : FuncId) (args : List AV) (H : List AO) (R : List AV → List AO → Prop) : Prop :=
  ∀ (e w : World) (m : Mem) (ρ : List Value) (φ : List Frag) (F : Frag) (vs : List Value), RepL m ρ args vs → OsRep m ρ H φ → SH e w m (φ.flatten ++ F) →
    Ret P f vs.toArray w fun v w' => ∃ rs H' m' ρ' φ', R rs H' ∧ m.le m' ∧ (∀ (i : Nat) (h : Value), ρ[i]? = some h → ρ'[i]? = some h) ∧ H.length ≤ H'.length ∧ OsRep m' ρ' H' φ' ∧ SH e w' m' (φ'.flatten ++ F) ∧ ∃ us, RepL m' ρ' rs us ∧ v = tupleOf us

/-- The same where all that lies in m0 is known. -/
def RunsM (m0 : Mem) (P : Program) (f : FuncId) (args : List AV) (H : List AO) (R : List AV → List AO → Prop) : Prop :=
  ∀ (e w : World) (m : Mem) (ρ : List Value) (φ : List Frag) (F : Frag) (vs : List Value), m0.le m → RepL m ρ args vs → OsRep m ρ H φ → SH e w m (φ.flatten ++ F) →
    Ret P f vs.toArray w fun v w' => ∃ rs H' m' ρ' φ', R rs H' ∧ m.le m' ∧ (∀ (i : Nat) (h : Value), ρ[i]? = some h → ρ'[i]? = some h) ∧ H.length ≤ H'.length ∧ OsRep m' ρ' H' φ' ∧ SH e w' m' (φ'.flatten ++ F) ∧ ∃ us, RepL m' ρ' rs us ∧ v = tupleOf us
theorem Runs.x {m0 : Mem} {P : Program} {f : FuncId} {args : List AV} {H : List AO} {R : List AV → List AO → Prop} (h : Runs P f args H R) : RunsM m0 P f args H R := fun e w m ρ φ F vs _ => h e w m ρ φ F vs
/-- The same where the memory that is read alone has something: tables. -/
def RunsT (T : Mem → Prop) (P : Program) (f : FuncId) (args : List AV) (H : List AO) (R : List AV → List AO → Prop) : Prop := ∀ m0, T m0 → RunsM m0 P f args H R
theorem RunsT.t {T : Mem → Prop} {m0 : Mem} {P : Program} {f : FuncId} {args : List AV} {H : List AO} {R : List AV → List AO → Prop} (h : RunsT T P f args H R) (hT : T m0) : RunsM m0 P f args H R := h m0 hT
/-- A call that owns nothing, and gives 'rs'. -/
abbrev RunsP (P : Program) (f : FuncId) (args rs : List AV) : Prop := Runs P f args [] fun r H' => r = rs ∧ H' = []

def tupA : List AV → AV
  | [a] => a
  | l => .tup l
theorem rep_tup {m : Mem} {ρ : List Value} : ∀ {rs : List AV} {us : List Value}, RepL m ρ rs us → RepA m ρ (tupA rs) (tupleOf us) := by
  intro rs us h
  match rs, us with
  | [], [] => simp only [tupA, tupleOf, RepA]; exact ⟨[], rfl, h⟩
  | [], _ :: _ => simp [RepL] at h
  | _ :: _, [] => simp [RepL] at h
  | [a], [u] => simp only [RepL, and_true] at h; exact h
  | [a], _ :: _ :: _ => simp [RepL] at h
  | a :: b :: r, [u] => simp [RepL] at h
  | a :: b :: r, u :: v :: us => simp only [tupA, tupleOf, RepA]; exact ⟨_, rfl, h⟩

theorem flatten_range (φ : List Frag) : φ.flatten = (List.range φ.length).flatMap fun i => φ.getD i [] := by
  induction φ with
  | nil => rfl
  | cons f φ ih =>
    rw [List.flatten_cons, List.length_cons, List.range_succ_eq_map, List.flatMap_cons, List.flatMap_map, ih]
    simp

theorem range_split {n : Nat} {σ : List Nat} (hn : σ.Nodup) (hl : ∀ i ∈ σ, i < n) : (List.range n).Perm (σ ++ (List.range n).filter fun i => !σ.contains i) := by
  rw [List.perm_ext_iff_of_nodup List.nodup_range]
  · intro a
    simp only [List.mem_range, List.mem_append, List.mem_filter, Bool.not_eq_true', List.contains_eq_mem, decide_eq_false_iff_not]
    constructor
    · intro h
      by_cases e : a ∈ σ
      · exact .inl e
      · exact .inr ⟨h, e⟩
    · rintro (h | h)
      · exact hl a h
      · exact h.1
  · rw [List.nodup_append]
    refine ⟨hn, List.Pairwise.filter _ List.nodup_range, ?_⟩
    intro a ha b hb e
    subst e
    simp only [List.mem_filter, Bool.not_eq_true', List.contains_eq_mem, decide_eq_false_iff_not] at hb
    exact hb.2 ha

/-- All that is there and not owned is read alone. -/
def allM (w : World) (f : Frag) : Mem := fun b => if (f.map (·.1)).contains b then none else (w.heap[b]?).filter fun o => !ctl o
theorem sh_all {e w : World} {m : Mem} {f : Frag} (h : SH e w m f) : SH e w (allM w f) f ∧ m.le (allM w f) := by
  refine ⟨⟨h.os, h.tape, h.output, ?_, h.own, h.nd, ?_, h.noctl, ?_⟩, ?_⟩
  · intro b o hb
    unfold allM at hb
    split at hb
    · cases hb
    · exact (Option.filter_eq_some_iff.1 hb).1
  · intro p hp
    unfold allM
    rw [if_pos]
    simp only [List.contains_eq_mem, decide_eq_true_eq]
    exact List.mem_map.2 ⟨p, hp, rfl⟩
  · intro b o hb
    unfold allM at hb
    split at hb
    · cases hb
    · simpa using (Option.filter_eq_some_iff.1 hb).2
  · intro b o hb
    unfold allM
    rw [if_neg]
    · exact Option.filter_eq_some_iff.2 ⟨h.fz b o hb, by simp [h.mctl b o hb]⟩
    · simp only [List.contains_eq_mem, decide_eq_true_eq]
      intro hm
      obtain ⟨p, hp, he⟩ := List.mem_map.1 hm
      have := h.dis p hp
      rw [he, hb] at this; cases this
theorem below_all {e w w' : World} {m' : Mem} {f : Frag} (h : SH e w (allM w f) f) (h' : SH e w' m' f) (hm : (allM w f).le m') (hs : w.heap.size ≤ w'.heap.size) (hd : DK none w w') : Below w.heap.size w w' := by
  refine ⟨h'.os.trans h.os.symm, h'.tape.trans h.tape.symm, h'.output.trans h.output.symm, hs, fun k hk => ?_⟩
  have hk' : w.heap[k]? = some (w.heap[k]'hk) := Array.getElem?_eq_getElem hk
  by_cases hf : (f.map (·.1)).contains k
  · simp only [List.contains_eq_mem, decide_eq_true_eq] at hf
    obtain ⟨p, hp, rfl⟩ := List.mem_map.1 hf
    rw [h'.own p hp, h.own p hp]
  · cases hc : ctl (w.heap[k]'hk) with
    | true => rw [hk']; exact hd k _ hk' hc (by simp)
    | false =>
      have h1 : allM w f k = some (w.heap[k]'hk) := by unfold allM; rw [if_neg hf, hk']; simp [Option.filter, hc]
      rw [hk', h'.fz _ _ (hm _ _ h1)]

section
variable {P : Program} {N : Ev} {X : Cx} {Q : APost} {st : AS}
variable {d : Nat} {T U T' : TypeId} {pos : String} {aft : Array Edge} {g : Option (Nat × Bool)} {x y : Operand} {k ky : IntKind} {a b : Int}

/-- A call that owns nothing. -/
theorem ret_pure {f : FuncId} {as' rs : List AV} {fr : Fr} {w : World} {m : Mem} {ρ : List Value} {φ : List Frag} {vs : List Value} (hr : RunsM X.m P f as' [] fun r H' => r = rs ∧ H' = []) (hcl : renL [] as' = as') (hc : Conc X st fr w m ρ φ) (hv : RepL m ρ as' vs) :
    Ret P f vs.toArray w fun v w' => Below w.heap.size w w' ∧ ∃ m', m.le m' ∧ SH X.e w' m' (φ.flatten ++ X.F) ∧ RepA m' ρ (tupA rs) v := by
  obtain ⟨h1, h2⟩ := sh_all hc.sh
  have hv' : RepL (allM w (φ.flatten ++ X.F)) [] as' vs := by
    refine RepL.mono h2 (fun _ _ h => h) as' ?_
    refine renL_fwd (σ := []) (ρ := ρ) (fun i j u hi _ => by simp at hi) as' ?_
    rw [hcl]; exact hv
  have := hr X.e w _ [] [] (φ.flatten ++ X.F) vs (hc.mle.trans h2) hv' ⟨rfl, rfl, fun i o h f hi => by simp at hi⟩ (by simpa using h1)
  refine Calls.mono this ?_
  rintro e w' ⟨v, he, hd, rs', H', m', ρ', φ', ⟨rfl, rfl⟩, hm, _, _, ho, hs, us, hu, rfl⟩
  have hρ : ρ' = [] := List.eq_nil_of_length_eq_zero ho.nρ
  have hφ : φ' = [] := List.eq_nil_of_length_eq_zero ho.nφ
  subst hρ hφ
  have hs' : SH X.e w' m' (φ.flatten ++ X.F) := by simpa using hs
  exact ⟨_, he, hd, below_all h1 hs' hm hd.2 hd.1, m', h2.trans hm, hs', RepA.mono (Mem.le_refl _) (fun i h hi => by simp at hi) _ (rep_tup hu)⟩

theorem av_call {f : FuncId} {xs : List Operand} {as' rs : List AV} {ts : Array TypeId} {r : AV} (hr : RunsM X.m P f as' [] fun r H' => r = rs ∧ H' = []) (hf : Enters P f) (hx : xs.map (aev st.l) = as'.map some) (hrs : tupA rs = r) (hcl : renL [] as' = as' := by rfl) (hN : Nat.blt d N.n = true := by rfl) :
    AOpV P N X ⟨some d, .call ⟨.value (.func f), xs.toArray, ts⟩, U, pos, aft, g⟩ r st := by
  intro Q fr w m ρ φ hc
  obtain ⟨vs, h1, h2⟩ := hc.evl hx
  subst hrs
  refine op_call hf h1 (ret_pure hr hcl hc h2) hN ?_
  rintro v w' ⟨hb, m', h3, h4, h5⟩
  exact ⟨d, v, rfl, rfl, hb, m', h3, h4, h5⟩
theorem av_extract {i : Nat} {vs : List AV} {v : AV} (hx : aev st.l x = some (.tup vs)) (hv : vs[i]? = some v) (hN : Nat.blt d N.n = true := by rfl) : AOpV P N X ⟨some d, .extract x i, U, pos, aft, g⟩ v st :=
  av_of rfl fun Q fr w m ρ φ hc => by
    obtain ⟨p, h1, h2⟩ := hc.ev hx
    simp only [RepA] at h2
    obtain ⟨us, rfl, h3⟩ := h2
    obtain ⟨u, h4, h5⟩ := h3.get hv
    exact ⟨u, h5, fun K hk => op_extract h1 (by simpa using h4) hN hk⟩
theorem av_makeFunc {f : FuncId} {fs cs : List Operand} {us vs : List AV} (h1 : fs.map (aev st.l) = us.map some) (h2 : cs.map (aev st.l) = vs.map some) (hN : Nat.blt d N.n = true := by rfl) : AOpV P N X ⟨some d, .makeFunc (.func f) fs.toArray cs.toArray, U, pos, aft, g⟩ (.fn f us vs) st :=
  av_of rfl fun Q fr w m ρ φ hc => by
    obtain ⟨p, h3, h4⟩ := hc.evl h1
    obtain ⟨q, h5, h6⟩ := hc.evl h2
    refine ⟨_, ?_, fun K hk => op_makeFunc h3 h5 hN hk⟩
    simp only [RepA]
    exact ⟨p, q, rfl, h4, h6⟩

theorem RepL.cells {m : Mem} {ρ : List Value} {a : AV} {v : Value} (h : RepA m ρ a v) (h1 : v.oneCell' = true) : v.cells = #[v] := by
  cases v <;> simp [Value.oneCell'] at h1 <;> rfl
end

/-! into a function -/
def argA : Nat → List AV → AFr
  | _, [] => []
  | i, a :: r => (i, a) :: argA (i + 1) r
theorem arg_rep {m : Mem} {ρ : List Value} : ∀ {as' : List AV} {vs : List Value} {i : Nat}, RepL m ρ as' vs → ∀ t a, (argA i as').look t = some a → ∃ v, (argFr i vs).look t = some v ∧ RepA m ρ a v := by
  intro as'
  induction as' with
  | nil => intro vs i h t a ht; simp [argA, AFr.look] at ht
  | cons b as' ih =>
    intro vs i h t a ht
    cases vs with
    | nil => simp [RepL] at h
    | cons v vs =>
      simp only [RepL] at h
      rw [argA, AFr.look_cons] at ht
      rw [argFr, Fr.look_cons]
      split
      · rename_i e; rw [if_pos e] at ht; cases ht; exact ⟨v, rfl, h.1⟩
      · rename_i e; rw [if_neg e] at ht; exact ih h.2 t a ht
def zipH : Nat → List AO → AH
  | _, [] => []
  | i, o :: r => (i, o) :: zipH (i + 1) r
theorem zipH_get : ∀ {H : List AO} {i j : Nat} {o : AO}, H[j]? = some o → AH.get (zipH i H) (i + j) = o := by
  intro H
  induction H with
  | nil => intro i j o h; simp at h
  | cons p H ih =>
    intro i j o h
    rw [zipH, AH.get_cons]
    cases j with
    | zero => simp at h; simp [h]
    | succ j =>
      rw [if_neg (by omega), show i + (j + 1) = (i + 1) + j by omega]
      exact ih (by simpa using h)

/-- What is read from a result's variable. -/
def AOut1 (P : Program) (l : AFr) : ResultVar → AV → Prop
  | .tmp t, a => l.look t = some a
  | .cell x T, a => (∃ r, l.look x = some (.rp (a :: r)) ∧ TyS P T false 1) ∨ ∃ cs n, l.look x = some (.rp cs) ∧ TyS P T true n ∧ a = .agg (cs.take n) ∧ Nat.ble n cs.length = true
def AOuts (P : Program) (l : AFr) : List ResultVar → List AV → Prop
  | [], [] => True
  | r :: rs, a :: as' => AOut1 P l r a ∧ AOuts P l rs as'
  | _, _ => False
def aretQ (P : Program) (rs : List ResultVar) (k : Nat) (R : List AV → List AO → Prop) : APost
  | .normal, st | .ret, st => ∃ as' H', AOuts P st.l rs as' ∧ (List.range st.n).map st.H.get = H' ∧ Nat.ble k st.n = true ∧ R as' H'
  | _, _ => False

theorem aouts {P : Program} {X : Cx} {st : AS} {fr : Fr} {w : World} {m : Mem} {ρ : List Value} {φ : List Frag} (hc : Conc X st fr w m ρ φ) : ∀ {rs : List ResultVar} {as' : List AV}, AOuts P st.l rs as' → ∃ vs, OutsAt P fr w rs vs ∧ RepL m ρ as' vs := by
  intro rs
  induction rs with
  | nil => intro as' h; cases as' with
    | nil => exact ⟨[], trivial, by simp [RepL]⟩
    | cons => exact h.elim
  | cons r rs ih => intro as' h; cases as' with
    | nil => exact h.elim
    | cons a as' =>
      obtain ⟨h1, h2⟩ := h
      obtain ⟨vs, h3, h4⟩ := ih h2
      cases r with
      | tmp t =>
        obtain ⟨v, h5, h6⟩ := hc.slots t a h1
        exact ⟨v :: vs, ⟨h5, h3⟩, by simp only [RepL]; exact ⟨h6, h4⟩⟩
      | cell x T =>
        rcases h1 with ⟨r, h5, hT⟩ | ⟨cs, n, h5, hT, rfl, hn⟩
        · obtain ⟨v, h6, h7⟩ := hc.slots x _ h5
          simp only [RepA] at h7
          obtain ⟨b, o, us, rfl, h8, h9, _⟩ := h7
          obtain ⟨u, us', rfl, h10, _⟩ := h8.one1
          exact ⟨u :: vs, ⟨⟨_, h6, run_loadVar_one hT.1 (h9.cells hc.sh).head⟩, h3⟩, by simp only [RepL]; exact ⟨h10, h4⟩⟩
        · obtain ⟨v, h6, h7⟩ := hc.slots x _ h5
          simp only [RepA] at h7
          obtain ⟨b, o, us, rfl, h8, h9, h10⟩ := h7
          have hn := Nat.le_of_ble_eq_true hn
          have h11 := h8.take n
          have hlen : (us.take n).length = n := by rw [h11.len]; simp; omega
          refine ⟨.agg (us.take n).toArray :: vs, ⟨⟨_, h6, run_loadVar_agg hT.1 hT.2 hlen (cells_sub (h9.cells hc.sh) 0 _ (by simp))⟩, h3⟩, ?_⟩
          simp only [RepL, RepA]
          exact ⟨⟨_, rfl, h11, fun u hu => h10 u (List.mem_of_mem_take hu)⟩, h4⟩

theorem runs_of {P : Program} {f : FuncId} {fn : Func} {c : Code} {n : Nat} {args : List AV} {H : List AO} {R : List AV → List AO → Prop} {rs : List ResultVar} (hf : P.funcs[f]? = some fn) (hN : fn.ntmps = n) (hb : fn.body = some c) (hr : fn.results = rs.toArray) (hle : Nat.ble args.length n = true)
    (h : ∀ (w0 : World) (X : Cx), X.ρ.length = H.length → AWC P ⟨n, none, w0, none, false⟩ X c (aretQ P rs H.length R) ⟨argA 0 args, zipH 0 H, H.length⟩) : Runs P f args H R := by
  intro e w m ρ φ F vs hv ho hs
  have hl := hv.len
  refine ret_of hf hb hN (by rw [hl]; exact hle) hr ?_
  have hc : Conc ⟨e, m, ρ, F⟩ ⟨argA 0 args, zipH 0 H, H.length⟩ (argFr 0 vs) w m ρ φ := by
    refine ⟨Mem.le_refl _, fun _ _ h => h, ho.nρ, ho.nφ, arg_rep hv, ?_, hs⟩
    intro i hd f hi hf
    have hil : i < H.length := by rw [← ho.nρ]; exact (List.getElem?_eq_some_iff.1 hi).1
    have hH : H[i]? = some (H[i]'hil) := List.getElem?_eq_getElem hil
    have := zipH_get (i := 0) hH
    rw [Nat.zero_add] at this
    show ORep m ρ (AH.get (zipH 0 H) i) hd f
    rw [this]
    exact ho.at_ i _ hd f hH hi hf
  refine WC.mono ?_ (h w ⟨e, m, ρ, F⟩ ho.nρ _ _ _ _ _ hc)
  rintro ex l w' ⟨st, m', ρ', φ', hc', hq⟩
  have key : aretQ P rs H.length R .normal st → ∃ vs, OutsAt P l w' rs vs ∧ ∃ rs' H' m'' ρ' φ', R rs' H' ∧ m.le m'' ∧ (∀ (i : Nat) (h : Value), ρ[i]? = some h → ρ'[i]? = some h) ∧ H.length ≤ H'.length ∧ OsRep m'' ρ' H' φ' ∧ SH e w' m'' (φ'.flatten ++ F) ∧ ∃ us, RepL m'' ρ' rs' us ∧ tupleOf vs = tupleOf us := by
    rintro ⟨as', H', h1, rfl, hk, hR⟩
    obtain ⟨us, h2, h3⟩ := aouts hc' h1
    refine ⟨us, h2, as', _, m', ρ', φ', hR, hc'.mle, hc'.pre, ?_, ⟨?_, ?_, ?_⟩, hc'.sh, us, h3, rfl⟩
    · simpa using Nat.le_of_ble_eq_true hk
    · simpa using hc'.nρ
    · simpa using hc'.nφ
    · intro i o hd f hi hh hf
      rw [List.getElem?_map] at hi
      obtain ⟨j, hj, rfl⟩ := Option.map_eq_some_iff.1 hi
      have hil := (List.getElem?_eq_some_iff.1 hj).1
      rw [List.getElem?_range (by simpa using hil)] at hj
      cases hj
      exact hc'.objs i hd f hh hf
  cases ex with
  | normal => exact key hq
  | ret => exact key hq
  | _ => exact hq.elim
end Go.Ab


set_option linter.unusedVariables false
set_option linter.unusedSimpArgs false
namespace Go.Ab
open Go.RowKit Go.Shelf Go.Proofs Go.Eng

/-! cells of a value -/
def cellsA : AV → Option (List AV)
  | .agg cs => some cs
  | .tup _ => none
  | .val _ => none
  | .clo _ => none
  | .any => none
  | .bad => none
  | a => some [a]
theorem rep_cells {m : Mem} {ρ : List Value} {a : AV} {cs : List AV} {v : Value} (h : cellsA a = some cs) (hr : RepA m ρ a v) : RepL m ρ cs v.cells.toList ∧ ∀ u ∈ v.cells.toList, u.oneCell' = true := by
  have one : ∀ {a : AV} {v : Value}, RepA m ρ a v → v.oneCell' = true → RepL m ρ [a] v.cells.toList ∧ ∀ u ∈ v.cells.toList, u.oneCell' = true := by
    intro a v h h1
    have hc : v.cells = #[v] := by cases v <;> simp [Value.oneCell'] at h1 <;> rfl
    rw [hc]
    refine ⟨by simp only [RepL]; exact ⟨h, trivial⟩, fun u hu => ?_⟩
    simp at hu; subst hu; exact h1
  cases a with
  | agg ds =>
    simp only [cellsA, Option.some.injEq] at h
    subst h
    simp only [RepA] at hr
    obtain ⟨us, rfl, h1, h2⟩ := hr
    exact ⟨by simpa [Value.cells] using h1, by simpa [Value.cells] using h2⟩
  | tup => simp [cellsA] at h
  | val => simp [cellsA] at h
  | clo => simp [cellsA] at h
  | sog i => simp only [cellsA, Option.some.injEq] at h; subst h; have h' := hr; simp only [RepA] at hr; obtain ⟨rs, _, h2⟩ := hr; exact one h' h2
  | epg i k => simp only [cellsA, Option.some.injEq] at h; subst h; have h' := hr; simp only [RepA] at hr; obtain ⟨b, n, c, rs, _, rfl⟩ := hr; exact one h' rfl
  | row i k => simp only [cellsA, Option.some.injEq] at h; subst h; have h' := hr; simp only [RepA] at hr; obtain ⟨hd, rs, _, _, h2⟩ := hr; exact one h' h2
  | epr i k sz z o => simp only [cellsA, Option.some.injEq] at h; subst h; have h' := hr; simp only [RepA] at hr; obtain ⟨hd, rs, b, n, c, _, _, rfl⟩ := hr; exact one h' rfl
  | dm tk tv x => simp only [cellsA, Option.some.injEq] at h; subst h; have h' := hr; simp only [RepA] at hr; have h2 := RC.one hr _ (List.mem_singleton.2 rfl); exact one h' h2
  | any => simp [cellsA] at h
  | bad => simp [cellsA] at h
  | int k z => simp only [cellsA, Option.some.injEq] at h; subst h; have h' := hr; simp only [RepA] at hr; subst hr; exact one h' rfl
  | bool b => simp only [cellsA, Option.some.injEq] at h; subst h; have h' := hr; simp only [RepA] at hr; subst hr; exact one h' rfl
  | str s => simp only [cellsA, Option.some.injEq] at h; subst h; have h' := hr; simp only [RepA] at hr; subst hr; exact one h' rfl
  | sl t x => simp only [cellsA, Option.some.injEq] at h; subst h; have h' := hr; simp only [RepA, RC] at hr; obtain ⟨A, n, c, h1, _⟩ := hr; cases h1; exact one h' rfl
  | nils => simp only [cellsA, Option.some.injEq] at h; subst h; have h' := hr; simp only [RepA] at hr; subst hr; exact one h' rfl
  | rp cs => simp only [cellsA, Option.some.injEq] at h; subst h; have h' := hr; simp only [RepA] at hr; obtain ⟨b, o, us, rfl, _⟩ := hr; exact one h' rfl
  | ptr i o => simp only [cellsA, Option.some.injEq] at h; subst h; have h' := hr; simp only [RepA] at hr; obtain ⟨b, _, rfl⟩ := hr; exact one h' rfl
  | osl i => simp only [cellsA, Option.some.injEq] at h; subst h; have h' := hr; simp only [RepA] at hr; exact one h' hr.2
  | ep i sz z o => simp only [cellsA, Option.some.injEq] at h; subst h; have h' := hr; simp only [RepA] at hr; obtain ⟨b, n, c, _, rfl⟩ := hr; exact one h' rfl
  | map i => simp only [cellsA, Option.some.injEq] at h; subst h; have h' := hr; simp only [RepA] at hr; exact one h' hr.2
  | fn f first caps => simp only [cellsA, Option.some.injEq] at h; subst h; have h' := hr; simp only [RepA] at hr; obtain ⟨us, ws, rfl, _⟩ := hr; exact one h' rfl
  | nilp => simp only [cellsA, Option.some.injEq] at h; subst h; have h' := hr; simp only [RepA] at hr; subst hr; exact one h' rfl
  | nilf => simp only [cellsA, Option.some.injEq] at h; subst h; have h' := hr; simp only [RepA] at hr; subst hr; exact one h' rfl
  | nili => simp only [cellsA, Option.some.injEq] at h; subst h; have h' := hr; simp only [RepA] at hr; subst hr; exact one h' rfl
  | nilm => simp only [cellsA, Option.some.injEq] at h; subst h; have h' := hr; simp only [RepA] at hr; subst hr; exact one h' rfl
  | yld l => simp only [cellsA, Option.some.injEq] at h; subst h; have h' := hr; simp only [RepA] at hr; subst hr; exact one h' rfl

/-! a list of cells written over from a place on -/
def over {α : Type} (cs : List α) (o : Nat) : List α → List α
  | [] => cs
  | d :: ds => over (cs.set o d) (o + 1) ds
theorem RepL.set {m : Mem} {ρ : List Value} : ∀ {as' : List AV} {vs : List Value} {i : Nat} {a : AV} {v : Value}, RepL m ρ as' vs → RepA m ρ a v → RepL m ρ (as'.set i a) (vs.set i v) := by
  intro as'
  induction as' with
  | nil => intro vs i a v h _; cases vs with
    | nil => simpa using h
    | cons => simp [RepL] at h
  | cons b as' ih => intro vs i a v h ha; cases vs with
    | nil => simp [RepL] at h
    | cons u vs =>
      simp only [RepL] at h
      cases i with
      | zero => simp only [List.set_cons_zero, RepL]; exact ⟨ha, h.2⟩
      | succ i => simp only [List.set_cons_succ, RepL]; exact ⟨h.1, ih h.2 ha⟩
theorem RepL.over {m : Mem} {ρ : List Value} : ∀ {ds : List AV} {us : List Value} {cs : List AV} {vs : List Value} {o : Nat}, RepL m ρ cs vs → RepL m ρ ds us → RepL m ρ (over cs o ds) (Go.Ab.over vs o us) := by
  intro ds
  induction ds with
  | nil => intro us cs vs o h k; cases us with
    | nil => exact h
    | cons => simp [RepL] at k
  | cons d ds ih => intro us cs vs o h k; cases us with
    | nil => simp [RepL] at k
    | cons u us => simp only [RepL] at k; exact ih (h.set k.1) k.2
theorem splice_over : ∀ (vs : List Value) (cs : Array Value) (o : Nat), (splice cs o vs).toList = over cs.toList o vs := by
  intro vs
  induction vs with
  | nil => intro cs o; rfl
  | cons v vs ih => intro cs o; simp only [splice, over]; rw [ih]; simp
theorem over_one : ∀ {ds cs : List Value} {o : Nat}, (∀ u ∈ cs, u.oneCell' = true) → (∀ u ∈ ds, u.oneCell' = true) → ∀ u ∈ over cs o ds, u.oneCell' = true := by
  intro ds
  induction ds with
  | nil => intro cs o h _; exact h
  | cons d ds ih =>
    intro cs o h k
    refine ih (fun u hu => ?_) (fun u hu => k u (by simp [hu]))
    rcases List.mem_or_eq_of_mem_set hu with h1 | h1
    · exact h u h1
    · subst h1; exact k _ (by simp)
theorem over_len {α : Type} : ∀ (ds cs : List α) (o : Nat), (over cs o ds).length = cs.length := by
  intro ds
  induction ds with
  | nil => intro cs o; rfl
  | cons d ds ih => intro cs o; simp only [over]; rw [ih]; simp
theorem over_get {α : Type} : ∀ (ds cs : List α) (o i : Nat), o + ds.length ≤ cs.length → (over cs o ds)[i]? = if o ≤ i ∧ i < o + ds.length then ds[i - o]? else cs[i]? := by
  intro ds
  induction ds with
  | nil => intro cs o i _; simp only [over, List.length_nil, Nat.add_zero]; rw [if_neg (by omega)]
  | cons d ds ih =>
    intro cs o i h
    simp only [List.length_cons] at h ⊢
    simp only [over]
    rw [ih _ _ _ (by simp; omega), List.getElem?_set]
    by_cases h1 : o = i
    · subst h1
      rw [if_neg (by omega), if_pos rfl, if_pos (by omega), if_pos (by omega)]
      simp
    · rw [if_neg h1]
      by_cases h2 : o + 1 ≤ i ∧ i < o + 1 + ds.length
      · rw [if_pos h2, if_pos (by omega), show i - o = (i - (o + 1)) + 1 by omega, List.getElem?_cons_succ]
      · rw [if_neg h2, if_neg (by omega)]

/-! what is owned: made, written -/
section
variable {P : Program} {N : Ev} {X : Cx} {Q : APost} {st : AS}
variable {d : Nat} {T U T' : TypeId} {pos : String} {aft : Array Edge} {g : Option (Nat × Bool)} {x y : Operand} {k ky : IntKind} {a b : Int}

/-- One object more, seen in a slot. -/
def AS.new (st : AS) (d : Nat) (a : AV) (o : AO) : AS := ⟨(d, a) :: st.l, (st.n, o) :: st.H, st.n + 1⟩
def AS.upd (st : AS) (i : Nat) (o : AO) : AS := ⟨st.l, (i, o) :: st.H, st.n⟩

theorem pre_app {ρ : List Value} {h : Value} : ∀ (i : Nat) (u : Value), ρ[i]? = some u → (ρ ++ [h])[i]? = some u := by
  intro i u hi
  rw [List.getElem?_append_left (List.getElem?_eq_some_iff.1 hi).1]; exact hi

theorem Conc.newObj {fr : Fr} {w w' : World} {m m' : Mem} {ρ : List Value} {φ : List Frag} (hc : Conc X st fr w m ρ φ) {d : Nat} {av : AV} {v h : Value} {o : AO} {f : Frag} (hm : m.le m') (hs : SH X.e w' m' (f ++ (φ.flatten ++ X.F))) (ho : ORep m' (ρ ++ [h]) o h f) (ha : RepA m' (ρ ++ [h]) av v) :
    Conc X (st.new d av o) ((d, v) :: fr) w' m' (ρ ++ [h]) (φ ++ [f]) := by
  refine ⟨hc.mle.trans hm, fun i u hi => pre_app i u (hc.pre i u hi), by simp [AS.new, hc.nρ], by simp [AS.new, hc.nφ], ?_, ?_, ?_⟩
  · intro t b hb
    simp only [AS.new, AFr.look_cons] at hb
    rw [Fr.look_cons]
    split
    · rename_i e; rw [if_pos e] at hb; cases hb; exact ⟨v, rfl, ha⟩
    · rename_i e; rw [if_neg e] at hb
      obtain ⟨u, h1, h2⟩ := hc.slots t b hb
      exact ⟨u, h1, RepA.mono hm pre_app b h2⟩
  · intro i hd f' hi hf
    simp only [AS.new, AH.get_cons]
    by_cases e : st.n = i
    · subst e
      rw [if_pos rfl]
      rw [← hc.nρ, List.getElem?_append_right (Nat.le_refl _)] at hi
      rw [← hc.nφ, List.getElem?_append_right (Nat.le_refl _)] at hf
      simp at hi hf
      subst hi hf; exact ho
    · rw [if_neg e]
      have hil : i < ρ.length := by
        have := (List.getElem?_eq_some_iff.1 hi).1
        simp at this
        rw [hc.nρ] at this ⊢; omega
      rw [List.getElem?_append_left hil] at hi
      rw [List.getElem?_append_left (by rw [hc.nφ, ← hc.nρ]; exact hil)] at hf
      exact (hc.objs i hd f' hi hf).mono hm pre_app
  · refine hs.perm ?_
    rw [List.flatten_append, List.flatten_cons, List.flatten_nil, List.append_nil, List.append_assoc]
    exact List.perm_append_comm_assoc _ _ _

theorem perm_idx {α : Type} : ∀ {l : List α} {i : Nat} {x : α}, l[i]? = some x → l.Perm (x :: l.eraseIdx i) := by
  intro l
  induction l with
  | nil => intro i x h; simp at h
  | cons y l ih =>
    intro i x h
    cases i with
    | zero => simp at h; subst h; exact List.Perm.refl _
    | succ i => exact ((ih (by simpa using h)).cons y).trans (List.Perm.swap x y _)
theorem frag_split {φ : List Frag} {i : Nat} {f : Frag} (h : φ[i]? = some f) (f' : Frag) : (φ.flatten).Perm (f ++ (φ.eraseIdx i).flatten) ∧ ((φ.set i f').flatten).Perm (f' ++ (φ.eraseIdx i).flatten) := by
  have hl := (List.getElem?_eq_some_iff.1 h).1
  constructor
  · simpa using (perm_idx h).flatten
  · have h2 : (φ.set i f')[i]? = some f' := List.getElem?_set_self hl
    have := (perm_idx h2).flatten
    rw [List.eraseIdx_set_eq] at this; simpa using this

/-- An object's turn. -/
theorem Conc.turn {fr : Fr} {w w' : World} {m : Mem} {ρ : List Value} {φ : List Frag} (hc : Conc X st fr w m ρ φ) {i : Nat} {h : Value} {f f' : Frag} {o : AO} (hi : ρ[i]? = some h) (hf : φ[i]? = some f) (hs : SH X.e w' m (f' ++ ((φ.eraseIdx i).flatten ++ X.F))) (ho : ORep m ρ o h f') :
    Conc X (st.upd i o) fr w' m ρ (φ.set i f') := by
  refine ⟨hc.mle, hc.pre, hc.nρ, by rw [List.length_set]; exact hc.nφ, hc.slots, ?_, ?_⟩
  · intro j hd g hj hg
    simp only [AS.upd, AH.get_cons]
    by_cases e : i = j
    · subst e
      rw [if_pos rfl]
      rw [hi] at hj; cases hj
      rw [List.getElem?_set_self (List.getElem?_eq_some_iff.1 hf).1] at hg
      cases hg; exact ho
    · rw [if_neg e]
      rw [List.getElem?_set_ne e] at hg
      exact hc.objs j hd g hj hg
  · refine hs.perm ?_
    rw [← List.append_assoc]
    exact ((frag_split hf f').2.append_right _).symm
theorem Conc.front {fr : Fr} {w : World} {m : Mem} {ρ : List Value} {φ : List Frag} (hc : Conc X st fr w m ρ φ) {i : Nat} {f : Frag} (hf : φ[i]? = some f) : SH X.e w m (f ++ ((φ.eraseIdx i).flatten ++ X.F)) := by
  refine hc.sh.perm ?_
  rw [← List.append_assoc]
  exact (frag_split hf f).1.append_right _

theorem aop_of {o : Oper} {K : AS → Prop} (h : ∀ (Q : Post) fr w m ρ φ, Conc X st fr w m ρ φ → ∀ K' : Fr → World → Prop, (∀ fr' w' st' m' ρ' φ', Conc X st' fr' w' m' ρ' φ' → K st' → K' fr' w') → OpW P N o K' Q fr w) : AOp P N X o K st :=
  fun Q fr w m ρ φ hc => h Q fr w m ρ φ hc _ (fun fr' w' st' m' ρ' φ' h1 h2 => ⟨st', m', ρ', φ', h1, h2⟩)

/-- A variable's block. -/
theorem aop_box {av : AV} {cs : List AV} {K : AS → Prop} (hx : aev st.l x = some av) (hcs : cellsA av = some cs) (k : K (st.new d (.ptr st.n 0) (.var T cs))) (hN : Nat.blt d N.n = true := by rfl) : AOp P N X ⟨some d, .box T x, U, pos, aft, g⟩ K st :=
  aop_of fun Q fr w m ρ φ hc K' hK => by
    obtain ⟨v, h1, h2⟩ := hc.ev hx
    obtain ⟨h3, h4⟩ := rep_cells hcs h2
    refine op_box h1 hN fun w' b hn => ?_
    refine hK _ _ _ _ _ _ (hc.newObj (h := .pointer (some ⟨b, 0, none⟩)) (f := [(b, .cells v.cells T)]) (Mem.le_refl _) (hc.sh.alloc hn rfl) ?_ ?_) k
    · exact ⟨b, v.cells.toList, rfl, by simp, RepL.mono (Mem.le_refl _) pre_app cs h3, h4⟩
    · simp only [RepA]
      exact ⟨b, by rw [← hc.nρ]; simp, rfl⟩
theorem aop_alloc {v : Value} {cs : List AV} {K : AS → Prop} (hZ : Zero P T v) (hcs : cellsA (ofV v) = some cs) (k : K (st.new d (.ptr st.n 0) (.var T cs))) (hN : Nat.blt d N.n = true := by rfl) : AOp P N X ⟨some d, .alloc T, U, pos, aft, g⟩ K st :=
  aop_of fun Q fr w m ρ φ hc K' hK => by
    obtain ⟨h3, h4⟩ := rep_cells hcs (rep_ofV m ρ v)
    refine op_alloc hZ hN fun w' b hn => ?_
    refine hK _ _ _ _ _ _ (hc.newObj (h := .pointer (some ⟨b, 0, none⟩)) (f := [(b, .cells v.cells T)]) (Mem.le_refl _) (hc.sh.alloc hn rfl) ?_ ?_) k
    · exact ⟨b, v.cells.toList, rfl, by simp, RepL.mono (Mem.le_refl _) pre_app cs h3, h4⟩
    · simp only [RepA]
      exact ⟨b, by rw [← hc.nρ]; simp, rfl⟩

/-- A store into a variable. -/
theorem aop_store {i o n : Nat} {cs ds cs' : List AV} {av : AV} {K : AS → Prop} (hT : Sz P T n) (hx : aev st.l x = some (.ptr i o)) (hy : aev st.l y = some av) (hH : st.H.get i = .var T' cs) (hd : cellsA av = some ds) (hn : Nat.beq ds.length n = true) (hle : Nat.ble (o + n) cs.length = true) (hcs : over cs o ds = cs') (k : K (st.upd i (.var T' cs'))) :
    AOp P N X ⟨none, .store T x y, U, pos, aft, g⟩ K st :=
  aop_of fun Q fr w m ρ φ hc K' hK => by
    obtain ⟨p, h1, h2⟩ := hc.ev hx
    obtain ⟨v, h3, h4⟩ := hc.ev hy
    obtain ⟨h5, h6⟩ := rep_cells hd h4
    simp only [RepA] at h2
    obtain ⟨b, h7, rfl⟩ := h2
    obtain ⟨f, hf, ho, hw⟩ := hc.obj h7
    rw [hH] at ho
    obtain ⟨b', us, h8, rfl, h9, h10⟩ := ho
    cases h8
    have hn' := Nat.eq_of_beq_eq_true hn
    have hvl : v.cells.size = n := by rw [← hn']; simpa using h5.len
    have hle' := Nat.le_of_ble_eq_true hle
    have hb := hw (b, _) (List.mem_singleton.2 rfl)
    have hul := h9.len
    refine op_store h1 h3 (by rw [hvl]; exact hT) hb (by simpa only [List.all_eq_true] using h6) ?_ fun w' hP hb' => ?_
    · rw [Nat.ble_eq]; simp only [List.size_toArray]; rw [hvl]; omega
    · have hsp : splice us.toArray o v.cells.toList = (over us o v.cells.toList).toArray := by
        have := splice_over v.cells.toList us.toArray o
        apply Array.toList_inj.1
        rw [this]
      rw [hsp] at hb'
      subst hcs
      have hfr := hc.front hf
      refine hK _ _ _ _ _ _ (hc.turn h7 hf (f' := [(b, .cells (over us o v.cells.toList).toArray T' (0, 0))]) (hfr.put hP hb' rfl) ?_) k
      exact ⟨b, _, rfl, rfl, h9.over h5, over_one h10 h6⟩

theorem RowsC.len {m : Mem} {t : Ty} {x : List t.den} {vs : List Value} (h : RowsC m t x vs) : vs.length = x.length * t.cells := by
  obtain ⟨us, h1, rfl, h3⟩ := h
  refine flatten_len h1 fun u hu => ?_
  obtain ⟨i, hi, rfl⟩ := List.getElem_of_mem hu
  exact RC.len (h3 i (x[i]'(by omega)) _ (List.getElem?_eq_getElem (by omega)) (List.getElem?_eq_getElem hi))
theorem RowsC.app {m : Mem} {t : Ty} {x y : List t.den} {us vs : List Value} (h : RowsC m t x us) (k : RowsC m t y vs) : RowsC m t (x ++ y) (us ++ vs) := by
  obtain ⟨u1, h1, rfl, h3⟩ := h
  obtain ⟨u2, k1, rfl, k3⟩ := k
  refine ⟨u1 ++ u2, by simp [h1, k1], by simp, fun i e u he hu => ?_⟩
  rcases Nat.lt_or_ge i x.length with hi | hi
  · rw [List.getElem?_append_left hi] at he
    rw [List.getElem?_append_left (by omega)] at hu
    exact h3 i e u he hu
  · rw [List.getElem?_append_right hi] at he
    rw [List.getElem?_append_right (by omega), h1] at hu
    exact k3 _ e u he hu
theorem over_at {α : Type} : ∀ {us : List (List α)} {z c : Nat} {u ds : List α} {o : Nat}, (∀ v ∈ us, v.length = c) → us[z]? = some u → o + ds.length ≤ c → (us.set z (over u o ds)).flatten = over us.flatten (z * c + o) ds := by
  intro us z c u ds o hall hz hle
  have hu := hall u (List.mem_of_getElem? hz)
  apply List.ext_getElem?
  intro i
  have hfl : us.flatten.length = us.length * c := by
    clear hz hle hu
    induction us with
    | nil => simp
    | cons v us ih => rw [List.flatten_cons, List.length_append, hall v (by simp), ih (fun w hw => hall w (by simp [hw])), List.length_cons, Nat.add_mul]; omega
  have hzl := (List.getElem?_eq_some_iff.1 hz).1
  have hbd : z * c + c ≤ us.length * c := by
    have := Nat.mul_le_mul_right c (show z + 1 ≤ us.length by omega)
    rw [Nat.add_mul] at this; omega
  rw [over_get ds us.flatten _ i (by rw [hfl]; omega)]
  clear hfl hbd hzl
  induction us generalizing z i with
  | nil => simp at hz
  | cons v us ih =>
    have hv := hall v (by simp)
    cases z with
    | zero =>
      simp at hz; subst hz
      simp only [List.set_cons_zero, List.flatten_cons, Nat.zero_mul, Nat.zero_add]
      rcases Nat.lt_or_ge i c with hi | hi
      · rw [List.getElem?_append_left (by rw [over_len]; omega), over_get _ _ _ _ (by omega), List.getElem?_append_left (by omega)]
      · rw [List.getElem?_append_right (by rw [over_len]; omega), over_len, if_neg (by omega), List.getElem?_append_right (by omega)]
    | succ z =>
      simp only [List.set_cons_succ, List.flatten_cons]
      rcases Nat.lt_or_ge i c with hi | hi
      · rw [List.getElem?_append_left (by omega), if_neg (by rw [Nat.add_mul]; omega), List.getElem?_append_left (by omega)]
      · rw [List.getElem?_append_right (by omega), ih (fun w hw => hall w (by simp [hw])) (by simpa using hz), List.getElem?_append_right (by omega), hv]
        by_cases h1 : z * c + o ≤ i - c ∧ i - c < z * c + o + ds.length
        · rw [if_pos h1, if_pos (by rw [Nat.add_mul]; omega)]
          congr 1
          rw [Nat.add_mul]; omega
        · rw [if_neg h1, if_neg (by rw [Nat.add_mul]; omega)]

/-- A store into an element. -/
theorem aop_store_ep {i sz z o n : Nat} {E : TypeId} {t : Ty} {xs : List t.den} {e e' : t.den} {ds : List AV} {av : AV} {K : AS → Prop} (hT : Sz P T n) (hx : aev st.l x = some (.ep i sz z o)) (hy : aev st.l y = some av) (hH : st.H.get i = .sl E t xs) (hsz : sz = t.cells) (he : xs[z]? = some e) (hd : cellsA av = some ds) (hn : Nat.beq ds.length n = true)
    (hle : Nat.ble (o + n) t.cells = true) (hno : t.fit e' = true) (hcs : over (expl t e) o ds = expl t e') (k : K (st.upd i (.sl E t (xs.set z e')))) :
    AOp P N X ⟨none, .store T x y, U, pos, aft, g⟩ K st :=
  aop_of fun Q fr w m ρ φ hc K' hK => by
    subst hsz
    obtain ⟨p, h1, h2⟩ := hc.ev hx
    obtain ⟨v, h3, h4⟩ := hc.ev hy
    obtain ⟨h5, h6⟩ := rep_cells hd h4
    simp only [RepA] at h2
    obtain ⟨b, n', c', h7, rfl⟩ := h2
    obtain ⟨f, hf, ho, hw⟩ := hc.obj h7
    rw [hH] at ho
    obtain ⟨h0, ⟨_, h8, _⟩ | ⟨b', c, cs, vs, h8, rfl, h9, h10, h11, h12, h13⟩⟩ := ho
    · cases h8
    cases h8
    have hn' := Nat.eq_of_beq_eq_true hn
    have hvl : v.cells.size = n := by rw [← hn']; simpa using h5.len
    have hle' := Nat.le_of_ble_eq_true hle
    have hb := hw (b, _) (List.mem_singleton.2 rfl)
    have hzl := (List.getElem?_eq_some_iff.1 he).1
    have hbd : z * t.cells + t.cells ≤ c' * t.cells := by
      have := Nat.mul_le_mul_right t.cells (show z + 1 ≤ c' by omega)
      rw [Nat.add_mul] at this; omega
    have hbd2 : z * t.cells + t.cells ≤ xs.length * t.cells := by
      have := Nat.mul_le_mul_right t.cells (show z + 1 ≤ xs.length by omega)
      rw [Nat.add_mul] at this; omega
    refine op_store h1 h3 (by rw [hvl]; exact hT) hb (by simpa only [List.all_eq_true] using h6) ?_ fun w' hP hb' => ?_
    · rw [Nat.ble_eq, hvl, h11]; omega
    · have hfr := hc.front hf
      have hvl' : v.cells.toList.length = n := by simpa using hvl
      refine hK _ _ _ _ _ _ (hc.turn h7 hf (f' := [(b, .cells (splice cs (z * t.cells + o) v.cells.toList) E (0, 0))]) (hfr.put hP hb' rfl) ?_) k
      have hrc := h12.len
      obtain ⟨us, g1, rfl, g3⟩ := h12
      have hall : ∀ u ∈ us, u.length = t.cells := by
        intro u hu
        obtain ⟨i, hi, rfl⟩ := List.getElem_of_mem hu
        exact RC.len (g3 i (xs[i]'(by omega)) _ (List.getElem?_eq_getElem (by omega)) (List.getElem?_eq_getElem hi))
      obtain ⟨u, hu⟩ : ∃ u, us[z]? = some u := ⟨_, List.getElem?_eq_getElem (by omega)⟩
      have hue := g3 z e u he hu
      have hnew : RC m t e' (over u o v.cells.toList) := by
        refine rc_of_expl (ρ := ρ) hno ?_
        rw [← hcs]
        exact (rc_expl hue).over h5
      refine ⟨by simpa using h0, .inr ⟨b, c', _, _, by simp, rfl, by simpa using h9, h10, ?_, ⟨us.set z (over u o v.cells.toList), by simpa using g1, rfl, ?_⟩, ?_⟩⟩
      · rw [splice_size]; exact h11
      · intro j q r hq hr
        by_cases hj : z = j
        · subst hj
          rw [List.getElem?_set_self (by omega)] at hq hr
          cases hq; cases hr; exact hnew
        · rw [List.getElem?_set_ne hj] at hq hr
          exact g3 j q r hq hr
      · rw [splice_over, over_at hall hu (by omega), ← h13]
        simp only [List.length_set]
        apply List.ext_getElem?
        intro j
        have hcl : cs.toList.length = c' * t.cells := by simpa using h11
        rw [List.getElem?_take, over_get _ _ _ _ (by omega), over_get _ _ _ _ (by rw [List.length_take]; omega), List.getElem?_take]
        by_cases h1 : z * t.cells + o ≤ j ∧ j < z * t.cells + o + v.cells.toList.length
        · rw [if_pos h1, if_pos h1, if_pos (by omega)]
        · rw [if_neg h1, if_neg h1]
end
end Go.Ab


set_option linter.unusedVariables false
set_option linter.unusedSimpArgs false
namespace Go.Ab
open Go.RowKit Go.Shelf Go.Proofs Go.Eng

theorem flatten_at {α : Type} : ∀ {us : List (List α)} {c j : Nat} {v : α}, (∀ u ∈ us, u.length = c) → us.flatten[j]? = some v → ∃ z r u, j = z * c + r ∧ us[z]? = some u ∧ u[r]? = some v := by
  intro us
  induction us with
  | nil => intro c j v _ h; simp at h
  | cons w us ih =>
    intro c j v hall h
    have hw := hall w (by simp)
    rw [List.flatten_cons] at h
    rcases Nat.lt_or_ge j w.length with hj | hj
    · rw [List.getElem?_append_left hj] at h
      exact ⟨0, j, w, by omega, rfl, h⟩
    · rw [List.getElem?_append_right hj] at h
      obtain ⟨z, r, u, h1, h2, h3⟩ := ih (fun u hu => hall u (by simp [hu])) h
      exact ⟨z + 1, r, u, by rw [Nat.add_mul]; omega, by simpa using h2, h3⟩

theorem choose_rows {m : Mem} {t : Ty} {xs : List t.den} {b o : Nat} (h : ∀ (i : Nat) (y : t.den), xs[i]? = some y → ∃ us, RC m t y us ∧ CellsM m b (o + i * t.cells) us) : ∃ vs, RowsC m t xs vs ∧ CellsM m b o vs := by
  have h' : ∀ i, ∃ u, ∀ y, xs[i]? = some y → RC m t y u ∧ CellsM m b (o + i * t.cells) u := by
    intro i
    cases hi : xs[i]? with
    | none => exact ⟨[], fun y hy => by cases hy⟩
    | some y => obtain ⟨u, h1, h2⟩ := h i y hi; exact ⟨u, fun y' hy => by cases hy; exact ⟨h1, h2⟩⟩
  obtain ⟨U, hU⟩ := Classical.axiomOfChoice h'
  have hat : ∀ (i : Nat) (u : List Value), ((List.range xs.length).map U)[i]? = some u → i < xs.length ∧ u = U i := by
    intro i u hu
    have hl := (List.getElem?_eq_some_iff.1 hu).1
    simp at hl
    rw [List.getElem?_map, List.getElem?_range hl] at hu
    exact ⟨hl, (Option.some.inj hu).symm⟩
  refine ⟨((List.range xs.length).map U).flatten, ⟨_, by simp, rfl, fun i y u hy hu => ?_⟩, ?_⟩
  · obtain ⟨_, rfl⟩ := hat i u hu
    exact (hU i y hy).1
  · intro j v hj
    obtain ⟨z, r, u, rfl, h2, h3⟩ := flatten_at (c := t.cells) (fun u hu => by
      obtain ⟨i, hi, rfl⟩ := List.getElem_of_mem hu
      obtain ⟨hl, e⟩ := hat i _ (List.getElem?_eq_getElem hi)
      rw [e]
      exact (hU i _ (List.getElem?_eq_getElem hl)).1.len) hj
    obtain ⟨hl, rfl⟩ := hat z u h2
    have := (hU z _ (List.getElem?_eq_getElem hl)).2 r v h3
    rw [Nat.add_assoc] at this; exact this

/-- A slice that is read: nothing in it, or where its rows stand. -/
theorem rc_slice {m : Mem} {t : Ty} {xs : List t.den} {v : Value} (h : RC m (.slice t) xs [v]) : ∃ A c, v = .slice A xs.length c ∧ xs.length ≤ c ∧ xs.length ≤ cap47 ∧ ((xs = []) ∨ ∃ b o vs, A = some ⟨b, o, none⟩ ∧ RowsC m t xs vs ∧ CellsM m b o vs) := by
  simp only [RC] at h
  obtain ⟨A, n, c, h1, h2, h3, h4, b, o, h5, h6⟩ := h
  cases h1
  subst h2
  refine ⟨A, c, rfl, h3, h4, ?_⟩
  cases hx : xs with
  | nil => exact .inl rfl
  | cons y ys =>
    rw [← hx]
    obtain ⟨vs, h7, h8⟩ := choose_rows h6
    exact .inr ⟨b, o, vs, h5 (by rw [hx]; simp), h7, h8⟩
theorem rows_slice {m : Mem} {t : Ty} {xs : List t.den} {b c : Nat} {cs : Array Value} {T : TypeId} {fr : Nat × Nat} {vs : List Value} (hb : m b = some (.cells cs T fr)) (h : RowsC m t xs vs) (ht : cs.toList.take (xs.length * t.cells) = vs) (hc : xs.length ≤ c) (hn : xs.length ≤ cap47) : RC m (.slice t) xs [.slice (some ⟨b, 0, none⟩) xs.length c] := by
  simp only [RC]
  refine ⟨_, _, c, rfl, rfl, hc, hn, b, 0, fun _ => rfl, fun i y hy => ?_⟩
  obtain ⟨u, h1, h2⟩ := h.at hy
  refine ⟨u, h1, fun j v hj => ⟨cs, T, fr, hb, ?_⟩⟩
  have := h2 j v hj
  rw [← ht, List.getElem?_take] at this
  split at this
  · simpa using this
  · cases this

/-- What the machine bears of a slice. -/
def apOk (bytes n : Nat) : Bool := Nat.ble (n * bytes) cap47

section
variable {P : Program} {N : Ev} {X : Cx} {Q : APost} {st : AS}
variable {d : Nat} {T U T' : TypeId} {pos : String} {aft : Array Edge} {g : Option (Nat × Bool)} {x y : Operand} {k ky : IntKind} {a b : Int}

/-- Rows of the call's own behind an append. -/
theorem SH.grown {e w w' : World} {m : Mem} {f r : Frag} {E sz n : Nat} {v v' : Value} {vs : List Value} (h : SH e w m (f ++ r)) (hf : (v.ownBlock = none ∧ f = []) ∨ ∃ b o, v.ownBlock = some b ∧ f = [(b, o)]) (hg : w.grownBy w' v.ownBlock) (ho : w'.ownsRow 0 E sz v' n vs) (hb : v'.ownBlock = v.ownBlock ∨ v'.ownBlock = some w.heap.size) :
    ∃ f', SH e w' m (f' ++ r) ∧ ((v' = .slice none 0 0 ∧ n = 0 ∧ f' = []) ∨ ∃ g cap cur, v' = .slice (some ⟨g, 0, none⟩) n cap ∧ f' = [(g, .cells cur E (0, 0))] ∧ n ≤ cap ∧ cap ≤ maxLen ∧ cur.size = cap * sz ∧ cur.toList.take (n * sz) = vs) := by
  have hlt : ∀ x o', w.heap[x]? = some o' → x < w.heap.size := fun x o' hx => (Array.getElem?_eq_some_iff.1 hx).1
  have hkeep : ∀ x o', w.heap[x]? = some o' → some x ≠ v.ownBlock → w'.heap[x]? = some o' := fun x o' hx hn => (hg.block x (hlt _ _ hx) hn).trans hx
  have hmne : ∀ x o', m x = some o' → some x ≠ v.ownBlock := by
    intro x o' hx he
    rcases hf with ⟨h1, _⟩ | ⟨b, o, h1, rfl⟩
    · rw [h1] at he; cases he
    · rw [h1] at he; cases he
      have := h.dis (x, o) (by simp)
      simp only at this
      rw [hx] at this; cases this
  have hnd := h.nd
  rw [List.map_append, List.nodup_append] at hnd
  have hrne : ∀ p ∈ r, some p.1 ≠ v.ownBlock := by
    intro p hp he
    rcases hf with ⟨h1, _⟩ | ⟨b, o, h1, rfl⟩
    · rw [h1] at he; cases he
    · rw [h1] at he; cases he
      exact hnd.2.2 p.1 (by simp) p.1 (List.mem_map.2 ⟨p, hp, rfl⟩) rfl
  have hbase : SH e w' m r := ⟨hg.os.trans h.os, hg.tape.trans h.tape, hg.output.trans h.output, fun x o' hx => hkeep x o' (h.fz _ _ hx) (hmne x o' hx), fun p hp => hkeep _ _ (h.own p (by simp [hp])) (hrne p hp), hnd.2.1, fun p hp => h.dis p (by simp [hp]), fun p hp => h.noctl p (by simp [hp]), h.mctl⟩
  rcases ho.2 with ⟨rfl, rfl⟩ | ⟨q, cap, cur, rfl, _, h2, h3, h4, h5, h6⟩
  · exact ⟨[], by simpa using hbase, .inl ⟨rfl, rfl, rfl⟩⟩
  · refine ⟨[(q, .cells cur E (0, 0))], ?_, .inr ⟨q, cap, cur, rfl, rfl, h3, h4, h5, h6⟩⟩
    have hq : (∃ o, f = [(q, o)]) ∨ q = w.heap.size := by
      rcases hb with hb | hb
      · left
        rcases hf with ⟨h1, _⟩ | ⟨b, o, h1, rfl⟩
        · rw [h1] at hb; cases hb
        · rw [h1] at hb; cases hb; exact ⟨o, rfl⟩
      · right; cases hb; rfl
    have hqr : q ∉ r.map (·.1) := by
      intro hm
      rcases hq with ⟨o, rfl⟩ | rfl
      · exact hnd.2.2 q (by simp) q hm rfl
      · obtain ⟨p, hp, he⟩ := List.mem_map.1 hm
        have := hlt _ _ (h.own p (by simp [hp]))
        omega
    have hqm : m q = none := by
      cases hx : m q with
      | none => rfl
      | some o' =>
        rcases hq with ⟨o, rfl⟩ | rfl
        · have := h.dis (q, o) (by simp)
          simp only at this; rw [this] at hx; cases hx
        · have := hlt _ _ (h.fz _ _ hx); omega
    refine ⟨hbase.os, hbase.tape, hbase.output, hbase.fz, ?_, ?_, ?_, ?_, hbase.mctl⟩
    · intro p hp
      rcases List.mem_append.1 hp with hp | hp
      · rw [List.mem_singleton.1 hp]; exact h2
      · exact hbase.own p hp
    · simp only [List.singleton_append, List.map_cons, List.nodup_cons]; exact ⟨hqr, hbase.nd⟩
    · intro p hp
      rcases List.mem_append.1 hp with hp | hp
      · rw [List.mem_singleton.1 hp]; exact hqm
      · exact hbase.dis p hp
    · intro p hp
      rcases List.mem_append.1 hp with hp | hp
      · rw [List.mem_singleton.1 hp]; rfl
      · exact hbase.noctl p hp

theorem owns_of {m : Mem} {ρ : List Value} {E : TypeId} {t : Ty} {xs : List t.den} {h : Value} {f : Frag} {w : World} (ho : ORep m ρ (.sl E t xs) h f) (hw : ∀ p ∈ f, w.heap[p.1]? = some p.2) :
    ∃ vs, w.ownsRow 0 E t.cells h xs.length vs ∧ RowsC m t xs vs ∧ ((h.ownBlock = none ∧ f = []) ∨ ∃ b o, h.ownBlock = some b ∧ f = [(b, o)]) := by
  obtain ⟨_, ⟨rfl, rfl, rfl⟩ | ⟨b, c, cs, vs, rfl, rfl, h3, h4, h5, h6, h7⟩⟩ := ho
  · exact ⟨[], World.ownsRow_nil w 0 E t.cells, ⟨[], rfl, rfl, fun i y u hy => by simp at hy⟩, .inl ⟨rfl, rfl⟩⟩
  · exact ⟨vs, ⟨h6.len, .inr ⟨b, c, cs, rfl, Nat.zero_le _, hw (b, _) (List.mem_singleton.2 rfl), h3, h4, h5, h7⟩⟩, h6, .inr ⟨b, _, rfl, rfl⟩⟩

theorem RowsC.one {m : Mem} {t : Ty} {xs : List t.den} {vs : List Value} (h : RowsC m t xs vs) : ∀ v ∈ vs, v.oneCell' = true := by
  obtain ⟨us, h1, rfl, h3⟩ := h
  intro v hv
  obtain ⟨u, hu, hvu⟩ := List.mem_flatten.1 hv
  obtain ⟨i, hi, rfl⟩ := List.getElem_of_mem hu
  exact RC.one (h3 i (xs[i]'(by omega)) _ (List.getElem?_eq_getElem (by omega)) (List.getElem?_eq_getElem hi)) v hvu
theorem RowsC.nil {m : Mem} {t : Ty} : RowsC m t [] [] := ⟨[], rfl, rfl, fun i y u hy => by simp at hy⟩

theorem SH.tail {e w : World} {m : Mem} {f r : Frag} (h : SH e w m (f ++ r)) : SH e w m r := by
  have hnd := h.nd
  rw [List.map_append, List.nodup_append] at hnd
  exact ⟨h.os, h.tape, h.output, h.fz, fun p hp => h.own p (by simp [hp]), hnd.2.1, fun p hp => h.dis p (by simp [hp]), fun p hp => h.noctl p (by simp [hp]), h.mctl⟩

def AS.app (st : AS) (d i : Nat) (o : AO) : AS := ⟨(d, .osl st.n) :: st.l, (st.n, o) :: (i, .dead) :: st.H, st.n + 1⟩

/-- One object goes, one comes. -/
theorem Conc.swap {fr : Fr} {w w' : World} {m m' : Mem} {ρ : List Value} {φ : List Frag} (hc : Conc X st fr w m ρ φ) {i : Nat} {d : Nat} {av : AV} {v h0 h : Value} {f f' : Frag} {o : AO} (hi : ρ[i]? = some h0) (hf : φ[i]? = some f) (hm : m.le m') (hs : SH X.e w' m' (f' ++ ((φ.eraseIdx i).flatten ++ X.F))) (ho : ORep m' (ρ ++ [h]) o h f') (ha : RepA m' (ρ ++ [h]) av v) :
    Conc X ⟨(d, av) :: st.l, (st.n, o) :: (i, .dead) :: st.H, st.n + 1⟩ ((d, v) :: fr) w' m' (ρ ++ [h]) (φ.set i [] ++ [f']) := by
  have h2 : SH X.e w' m' ((φ.set i []).flatten ++ X.F) := hs.tail.perm (((frag_split hf []).2.append_right _).symm)
  have h1 : Conc X (st.upd i .dead) fr w' m' ρ (φ.set i []) := by
    refine ⟨hc.mle.trans hm, hc.pre, hc.nρ, by rw [List.length_set]; exact hc.nφ, fun t a ha => let ⟨v, h3, h4⟩ := hc.slots t a ha; ⟨v, h3, RepA.mono hm (fun _ _ h => h) a h4⟩, ?_, h2⟩
    intro j hd g hj hg
    simp only [AS.upd, AH.get_cons]
    by_cases e : i = j
    · subst e
      rw [if_pos rfl]
      rw [List.getElem?_set_self (List.getElem?_eq_some_iff.1 hf).1] at hg
      cases hg; rfl
    · rw [if_neg e]
      rw [List.getElem?_set_ne e] at hg
      exact (hc.objs j hd g hj hg).mono hm (fun _ _ h => h)
  refine h1.newObj (Mem.le_refl _) (hs.perm ?_) ho ha
  refine List.Perm.append_left _ ?_
  exact ((frag_split hf []).2.append_right _).symm

/-- What is appended, as the machine's lemma wants it. -/
theorem run_append {w : World} {m : Mem} {f : Frag} {E bytes n : Nat} {t : Ty} {ys : List t.den} {v u : Value} {vs : List Value} {e : World} {ty : TypeId} (hT : AppT P T E t.cells bytes) (hs : SH e w m f) (hown : w.ownsRow 0 E t.cells v n vs) (hy : RC m (.slice t) ys [u]) (hb : apOk bytes (n + ys.length) = true) (hn : n + ys.length ≤ cap47) :
    ∃ v' w' us, (Builtin.append_ #[T, T] ty #[v, u]).run P w = .ok v' w' ∧ RowsC m t ys us ∧ w'.ownsRow 0 E t.cells v' (n + ys.length) (vs ++ us) ∧ w.grownBy w' v.ownBlock ∧ (v'.ownBlock = v.ownBlock ∨ v'.ownBlock = some w.heap.size) := by
  obtain ⟨hU, hsz, i, z, hi, hz, hsize, hby, hzs⟩ := hT
  obtain ⟨A, c, rfl, h1, h2, h3⟩ := rc_slice hy
  have hb' := Nat.le_of_ble_eq_true hb
  rcases h3 with rfl | ⟨b, o, us, rfl, h4, h5⟩
  · -- nothing is appended
    refine ⟨v, w, [], ?_, RowsC.nil, by simpa using hown, ⟨rfl, rfl, rfl, Nat.le_refl _, fun _ _ _ => rfl⟩, .inl rfl⟩
    rcases hown.2 with ⟨rfl, rfl⟩ | ⟨q, cap, cur, rfl, _, g2, g3, _⟩
    · cases A with
      | none => simp [Builtin.append_, run_underlying hU, sizeOf, typeInfo, hi, Builtin.lenOf, Builtin.firstCells, loadCells, loadCellsFrom]
      | some A => simp [Builtin.append_, run_underlying hU, sizeOf, typeInfo, hi, Builtin.lenOf, Builtin.firstCells, loadCells, loadCellsFrom]
    · cases A with
      | none => simp [Builtin.append_, run_underlying hU, sizeOf, typeInfo, hi, Builtin.lenOf, Builtin.firstCells, loadCells, loadCellsFrom, g3, storeCells]
      | some A => simp [Builtin.append_, run_underlying hU, sizeOf, typeInfo, hi, Builtin.lenOf, Builtin.firstCells, loadCells, loadCellsFrom, g3, storeCells]
  · have hcells := h5.cells hs
    have hmax : n + ys.length ≤ maxLen := by
      have : cap47 = 140737488355328 := rfl
      simp only [maxLen]; omega
    obtain ⟨v', w', hr, g2, g3, g4, g5⟩ := run_append_own_at (P := P) (w := w) 0 T ty E i z t.cells bytes hU hi hz hsize hby hzs hsz v n vs hown ⟨b, o, none⟩ ys.length c us h4.len (fun j u hj => by rw [add_lit]; exact hcells j u hj) h4.one hmax hb' (Nat.zero_le _)
    exact ⟨v', w', us, hr, h4, g2, g3, g5⟩

theorem aop_append {s : Operand} {i E bytes : Nat} {t : Ty} {xs ys : List t.den} {cl : Array Operand} {ts : Array TypeId} {K : AS → Prop} (hcl : cl = #[s, x]) (hts : ts = #[T, T]) (hT : AppT P T E t.cells bytes) (hs : aev st.l s = some (.osl i)) (hx : aev st.l x = some (.sl t ys)) (hH : st.H.get i = .sl E t xs) (hb : apOk bytes (xs.length + ys.length) = true) (hB : Nat.ble 1 bytes = true)
    (k : K (st.app d i (.sl E t (xs ++ ys)))) (hN : Nat.blt d N.n = true := by rfl) :
    AOp P N X ⟨some d, .call ⟨.builtin .append, cl, ts⟩, U, pos, aft, g⟩ K st :=
  aop_of fun Q fr w m ρ φ hc K' hK => by
    subst hcl hts
    obtain ⟨v, h1, h2⟩ := hc.ev hs
    obtain ⟨u, h3, h4⟩ := hc.ev hx
    simp only [RepA] at h2 h4
    obtain ⟨f, hf, ho, hw⟩ := hc.obj h2.1
    rw [hH] at ho
    obtain ⟨vs, hown, hrow, hfs⟩ := owns_of ho hw
    have hlen : xs.length + ys.length ≤ cap47 := by
      have h5 := Nat.le_of_ble_eq_true hb
      have h6 := Nat.le_of_ble_eq_true hB
      exact Nat.le_trans (Nat.le_mul_of_pos_right _ h6) h5
    obtain ⟨v', w', us, hr, g1, g2, g3, g4⟩ := run_append (ty := U) hT hc.sh hown h4 hb hlen
    have hfr := hc.front hf
    obtain ⟨f', g5, g6⟩ := hfr.grown hfs g3 g2 g4
    have hone : v'.oneCell' = true := by
      rcases g6 with ⟨rfl, _⟩ | ⟨_, _, _, rfl, _⟩ <;> rfl
    refine op_val (v := v') (w' := w') rfl hN (fun a ha => ?_) ?_ (dk_grown hown g3)
    · simp [execOp, resolve, invoke, builtin, ha.eval h1, ha.eval h3, hr]
    · refine hK _ _ _ _ _ _ (hc.swap (h := v') (d := d) (av := .osl st.n) (v := v') h2.1 hf (Mem.le_refl _) g5 ?_ ?_) k
      · have hl : (xs ++ ys).length = xs.length + ys.length := by simp
        refine ⟨by rw [hl]; exact hlen, ?_⟩
        rcases g6 with ⟨rfl, h7, rfl⟩ | ⟨q, cap, cur, rfl, rfl, h8, h9, h10, h11⟩
        · left
          have hx0 : xs = [] := List.eq_nil_of_length_eq_zero (by omega)
          have hy0 : ys = [] := List.eq_nil_of_length_eq_zero (by omega)
          subst hx0 hy0
          exact ⟨rfl, rfl, rfl⟩
        · right
          exact ⟨q, cap, cur, vs ++ us, by rw [hl], rfl, by rw [hl]; exact h8, h9, h10, hrow.app g1, by rw [hl]; exact h11⟩
      · simp only [RepA]
        exact ⟨by rw [← hc.nρ]; simp, hone⟩
/-- Onto nil. -/
theorem aop_append_nil {s : Operand} {E bytes : Nat} {t : Ty} {ys : List t.den} {cl : Array Operand} {ts : Array TypeId} {K : AS → Prop} (hcl : cl = #[s, x]) (hts : ts = #[T, T]) (hT : AppT P T E t.cells bytes) (hs : aev st.l s = some .nils) (hx : aev st.l x = some (.sl t ys)) (hb : apOk bytes ys.length = true) (hB : Nat.ble 1 bytes = true)
    (k : K (st.new d (.osl st.n) (.sl E t ys))) (hN : Nat.blt d N.n = true := by rfl) :
    AOp P N X ⟨some d, .call ⟨.builtin .append, cl, ts⟩, U, pos, aft, g⟩ K st :=
  aop_of fun Q fr w m ρ φ hc K' hK => by
    subst hcl hts
    obtain ⟨v, h1, h2⟩ := hc.ev hs
    obtain ⟨u, h3, h4⟩ := hc.ev hx
    simp only [RepA] at h2 h4
    subst h2
    have hlen : 0 + ys.length ≤ cap47 := by
      have h5 := Nat.le_of_ble_eq_true hb
      have h6 := Nat.le_of_ble_eq_true hB
      rw [Nat.zero_add]
      exact Nat.le_trans (Nat.le_mul_of_pos_right _ h6) h5
    obtain ⟨v', w', us, hr, g1, g2, g3, g4⟩ := run_append (ty := U) (n := 0) hT hc.sh (World.ownsRow_nil w 0 E t.cells) h4 (by rw [Nat.zero_add]; exact hb) hlen
    obtain ⟨f', g5, g6⟩ := SH.grown (f := []) (r := φ.flatten ++ X.F) (by simpa using hc.sh) (.inl ⟨rfl, rfl⟩) g3 g2 g4
    have hone : v'.oneCell' = true := by
      rcases g6 with ⟨rfl, _⟩ | ⟨_, _, _, rfl, _⟩ <;> rfl
    simp only [Nat.zero_add, List.nil_append] at g2 g6 hlen
    refine op_val (v := v') (w' := w') rfl hN (fun a ha => ?_) ?_ (dk_grown (World.ownsRow_nil w 0 E t.cells) g3)
    · simp [execOp, resolve, invoke, builtin, ha.eval h1, ha.eval h3, hr]
    · refine hK _ _ _ _ _ _ (hc.newObj (h := v') (d := d) (av := .osl st.n) (v := v') (Mem.le_refl _) g5 ?_ ?_) k
      · refine ⟨hlen, ?_⟩
        rcases g6 with ⟨rfl, h7, rfl⟩ | ⟨q, cap, cur, rfl, rfl, h8, h9, h10, h11⟩
        · left
          have hy0 : ys = [] := List.eq_nil_of_length_eq_zero (by omega)
          subst hy0
          exact ⟨rfl, rfl, rfl⟩
        · exact .inr ⟨q, cap, cur, us, rfl, rfl, h8, h9, h10, g1, h11⟩
      · simp only [RepA]
        exact ⟨by rw [← hc.nρ]; simp, hone⟩

/-! make -/
def zeroV : Ty → List Value
  | .int k => [.int k 0]
  | .bool => [.bool false]
  | .str => [.string (bstr [])]
  | .unit => []
  | .pair a b => zeroV a ++ zeroV b
  | .st a => zeroV a
  | .slice _ => [.slice none 0 0]
  | .arr n e => (List.replicate n (zeroV e)).flatten
  | .raw z => [z.1]
  | .map _ _ => [.map none]
theorem rc_zero (m : Mem) : ∀ (t : Ty), RC m t t.dflt (zeroV t) := by
  intro t
  induction t with
  | int k => rfl
  | bool => rfl
  | str => rfl
  | unit => rfl
  | pair a b iha ihb => exact ⟨_, _, rfl, iha, ihb⟩
  | st a ih => exact ih
  | slice e ih => exact ⟨none, 0, 0, rfl, rfl, Nat.le_refl _, Nat.zero_le _, 0, 0, fun h => absurd h (by omega), fun i y hy => by simp [Ty.dflt] at hy⟩
  | arr n e ih =>
    refine ⟨by simp [Ty.dflt], _, by simp, rfl, fun i y u hy hu => ?_⟩
    have h1 := List.mem_of_getElem? hy
    have h2 := List.mem_of_getElem? hu
    simp only [Ty.dflt] at h1
    rw [List.eq_of_mem_replicate h1, List.eq_of_mem_replicate h2]
    exact ih
  | raw z => rfl
  | map k v ihk ihv => exact .inl ⟨rfl, rfl⟩
/-- A type's zero. -/
def ZeroT (P : Program) (E : Nat) (t : Ty) (bytes : Nat) : Prop := ∃ i z, P.info? E = some i ∧ i.zero = some z ∧ i.size = t.cells ∧ i.bytes = bytes ∧ z.cells.toList = zeroV t
theorem zeroT_of {E : Nat} {t : Ty} {bytes : Nat} {z : Value} (h : (P.info? E).map (fun i => (i.zero, i.size, i.bytes)) = some (some z, t.cells, bytes)) (hz : z.cells.toList = zeroV t) : ZeroT P E t bytes := by
  cases hi : P.info? E with
  | none => rw [hi] at h; cases h
  | some i => rw [hi] at h; simp at h; exact ⟨i, z, hi, h.1, h.2.1, h.2.2, hz⟩
theorem made_rows {z : Array Value} {zs : List Value} (hz : z.toList = zs) (n : Nat) : (madeCells z (n * z.size)).toList = (List.replicate n zs).flatten := by
  subst hz
  apply List.ext_getElem?
  intro j
  rcases Nat.lt_or_ge j (n * z.size) with hj | hj
  · have hpos : 0 < z.size := Nat.pos_of_ne_zero (fun h => by rw [h] at hj; omega)
    have hl : (List.replicate n z.toList).flatten.length = n * z.size := by rw [flatten_len (k := z.size) (by simp : (List.replicate n z.toList).length = n)]; intro u hu; rw [List.eq_of_mem_replicate hu]; simp
    obtain ⟨v, hv⟩ : ∃ v, (List.replicate n z.toList).flatten[j]? = some v := ⟨_, List.getElem?_eq_getElem (by rw [hl]; exact hj)⟩
    rw [hv]
    obtain ⟨q, r, u, h1, h2, h3⟩ := flatten_at (c := z.size) (fun u hu => by rw [List.eq_of_mem_replicate hu]; simp) hv
    have hu := List.eq_of_mem_replicate (List.mem_of_getElem? h2)
    subst hu
    have hr := (List.getElem?_eq_some_iff.1 h3).1
    simp at hr
    have hmod : j % z.size = r := by rw [h1, Nat.add_comm, Nat.add_mul_mod_self_right, Nat.mod_eq_of_lt hr]
    simp only [madeCells, Array.toList_map, Array.toList_range, List.getElem?_map, List.getElem?_range hj, Option.map_some, hmod]
    have h4 : z[r]? = some v := by simpa using h3
    rw [getElem!_def, h4]
  · rw [List.getElem?_eq_none, List.getElem?_eq_none]
    · rw [flatten_len (k := z.size) (by simp : (List.replicate n z.toList).length = n)]
      · exact hj
      · intro u hu; rw [List.eq_of_mem_replicate hu]; simp
    · simp [madeCells]; exact hj
def mkOk (bytes : Nat) (l c : Int) : Bool := decide (0 ≤ l) && decide (l ≤ c) && Nat.ble (c.toNat * bytes) cap47
theorem aop_make {E bytes : Nat} {t : Ty} {l c : Int} {kl kc : IntKind} {K : AS → Prop} (hU : Und P T (.slice E)) (hZ : ZeroT P E t bytes) (hx : aev st.l x = some (.int kl l)) (hy : aev st.l y = some (.int kc c)) (hb : mkOk bytes l c = true) (hB : Nat.ble 1 bytes = true)
    (k : K (st.new d (.osl st.n) (.sl E t (List.replicate l.toNat t.dflt)))) (hN : Nat.blt d N.n = true := by rfl) :
    AOp P N X ⟨some d, .makeSlice T x y, U, pos, aft, g⟩ K st :=
  aop_of fun Q fr w m ρ φ hc K' hK => by
    obtain ⟨i, z, hi, hz, hsize, hby, hzs⟩ := hZ
    simp only [mkOk, Bool.and_eq_true, decide_eq_true_eq] at hb
    obtain ⟨⟨h0, hlc⟩, hbb⟩ := hb
    have hbb := Nat.le_of_ble_eq_true hbb
    have hB := Nat.le_of_ble_eq_true hB
    have hcc : c.toNat ≤ cap47 := Nat.le_trans (Nat.le_mul_of_pos_right _ hB) hbb
    have h47 : cap47 = 140737488355328 := rfl
    have hc0 : ((c.toNat : Nat) : Int) = c := by omega
    have hbi : (i.bytes : Int) * c ≤ 281474976710656 := by
      rw [hby, ← hc0, ← Int.natCast_mul, Nat.mul_comm]; omega
    have hr := run_make (P := P) w T E i z hU hi hz kl kc l c h0 hlc hbi (by omega)
    refine op_val (v := .slice (some ⟨w.heap.size, 0, none⟩) l.toNat c.toNat) rfl hN (fun a ha => ?_) ?_ (dk_new (new_push w (.cells (madeCells z.cells (c.toNat * i.size)) E)))
    · simp [execOp, ha.eval (hc.int hx), ha.eval (hc.int hy)]
      rw [hr]; rfl
    · have hs := hc.sh.alloc (new_push w (.cells (madeCells z.cells (c.toNat * i.size)) E)) rfl
      have hzsz : z.cells.size = t.cells := by have := (rc_zero m t).len; rw [← hzs] at this; simpa using this
      refine hK _ _ _ _ _ _ (hc.newObj (h := .slice (some ⟨w.heap.size, 0, none⟩) l.toNat c.toNat) (f := [(w.heap.size, .cells (madeCells z.cells (c.toNat * i.size)) E)]) (Mem.le_refl _) hs ?_ ?_) k
      · have hll : (List.replicate l.toNat t.dflt).length = l.toNat := by simp
        refine ⟨by rw [hll]; omega, .inr ⟨w.heap.size, c.toNat, _, (List.replicate l.toNat (zeroV t)).flatten, by rw [hll], rfl, by rw [hll]; omega, by simp only [maxLen]; omega, by rw [size_madeCells, hsize], ⟨_, by simp, rfl, fun j q u hq hu => ?_⟩, ?_⟩⟩
        · rw [List.eq_of_mem_replicate (List.mem_of_getElem? hq), List.eq_of_mem_replicate (List.mem_of_getElem? hu)]
          exact rc_zero m t
        · rw [hll, hsize, ← hzsz, made_rows hzs]
          have : c.toNat = l.toNat + (c.toNat - l.toNat) := by omega
          rw [this, ← List.replicate_append_replicate, List.flatten_append]
          refine List.take_left' ?_
          rw [flatten_len (k := z.cells.size) (by simp : (List.replicate l.toNat (zeroV t)).length = l.toNat)]
          intro u hu; rw [List.eq_of_mem_replicate hu, ← hzs]; simp
      · simp only [RepA]
        exact ⟨by rw [← hc.nρ]; simp, rfl⟩
end
end Go.Ab


set_option linter.unusedVariables false
set_option linter.unusedSimpArgs false
namespace Go.Ab
open Go.RowKit Go.Shelf Go.Proofs Go.Eng

/-! filling in -/
theorem over_cons {α : Type} (d : α) : ∀ (ds cs : List α) (o : Nat), over cs o (d :: ds) = over (cs.set o d) (o + 1) ds := fun _ _ _ => rfl
theorem fold_over : ∀ (vs : List Value) (cs : Array Value) (off k : Nat), ((vs.zipIdx k).foldl (fun cs (p : Value × Nat) => cs.setIfInBounds (off + p.2) p.1) cs).toList = over cs.toList (off + k) vs := by
  intro vs
  induction vs with
  | nil => intro cs off k; rfl
  | cons v vs ih => intro cs off k; rw [List.zipIdx_cons, List.foldl_cons, ih, over_cons]; simp [Nat.add_assoc]
theorem zip_arr (a : Array Value) (f : Array Value → Value × Nat → Array Value) (z : Array Value) : a.zipIdx.foldl f z = (a.toList.zipIdx).foldl f z := by
  rw [← Array.foldl_toList, Array.toList_zipIdx]

/-- Parts laid one behind the other. -/
def layA (place : Nat → Option (Nat × Nat)) : List AV → List (Nat × List AV) → Option (List AV)
  | cs, [] => some cs
  | cs, (i, ds) :: r => match place i with
    | none => none
    | some (off, size) => bif Nat.beq ds.length size && Nat.ble (off + ds.length) cs.length then layA place (over cs off ds) r else none

theorem lay_fill {m : Mem} {ρ : List Value} {place : Nat → Option (Nat × Nat)} : ∀ {ps : List (Nat × List AV)} {vs : List (Nat × Value)} {cs cs' : List AV} {us : Array Value},
    layA place cs ps = some cs' → vs.map (·.1) = ps.map (·.1) → (∀ (i : Nat) (p : Nat × List AV) (v : Nat × Value), ps[i]? = some p → vs[i]? = some v → RepL m ρ p.2 v.2.cells.toList ∧ ∀ u ∈ v.2.cells.toList, u.oneCell' = true) → RepL m ρ cs us.toList → (∀ u ∈ us.toList, u.oneCell' = true) →
    ∃ us', Instr.fill place us vs = some us' ∧ RepL m ρ cs' us'.toList ∧ ∀ u ∈ us'.toList, u.oneCell' = true := by
  intro ps
  induction ps with
  | nil =>
    intro vs cs cs' us h hv _ hc h1
    cases vs with
    | nil => simp only [layA, Option.some.injEq] at h; subst h; exact ⟨us, rfl, hc, h1⟩
    | cons => simp at hv
  | cons p ps ih =>
    intro vs cs cs' us h hv hr hc h1
    cases vs with
    | nil => simp at hv
    | cons v vs =>
      obtain ⟨i, ds⟩ := p
      obtain ⟨j, v⟩ := v
      simp only [List.map_cons, List.cons.injEq] at hv
      obtain ⟨rfl, hv⟩ := hv
      simp only [layA] at h
      split at h
      · cases h
      · rename_i off size hp
        cases hb : (Nat.beq ds.length size && Nat.ble (off + ds.length) cs.length)
        · rw [hb] at h; cases h
        · rw [hb] at h
          simp only [cond_true] at h
          simp only [Bool.and_eq_true] at hb
          have hb1 := Nat.eq_of_beq_eq_true hb.1
          have hb2 := Nat.le_of_ble_eq_true hb.2
          obtain ⟨h2, h3⟩ := hr 0 (j, ds) (j, v) rfl rfl
          have hvl : v.cells.size = ds.length := by simpa using h2.len
          have hul := hc.len
          have hus : us.toList.length = us.size := by simp
          simp only [Instr.fill, hp]
          rw [if_neg (by simp; omega)]
          refine ih h hv (fun i p u hp hu => hr (i + 1) p u (by simpa using hp) (by simpa using hu)) ?_ ?_
          · rw [zip_arr, fold_over, Nat.add_zero]; exact hc.over h2
          · rw [zip_arr, fold_over, Nat.add_zero]; exact over_one h1 h3

def evas (l : AFr) (ps : List (Nat × Operand)) : List (Option (Nat × List AV)) := ps.map fun p => (aev l p.2).bind fun a => (cellsA a).map fun cs => (p.1, cs)

section
variable {P : Program} {N : Ev} {X : Cx} {Q : APost} {st : AS}
variable {d : Nat} {T U T' : TypeId} {pos : String} {aft : Array Edge} {g : Option (Nat × Bool)} {x y : Operand} {k ky : IntKind} {a b : Int}

theorem Conc.evs {fr : Fr} {w : World} {m : Mem} {ρ : List Value} {φ : List Frag} (hc : Conc X st fr w m ρ φ) : ∀ {ps : List (Nat × Operand)} {qs : List (Nat × List AV)}, evas st.l ps = qs.map some →
    ∃ vs, evos fr ps = some vs ∧ vs.map (·.1) = qs.map (·.1) ∧ ∀ (i : Nat) (p : Nat × List AV) (v : Nat × Value), qs[i]? = some p → vs[i]? = some v → RepL m ρ p.2 v.2.cells.toList ∧ ∀ u ∈ v.2.cells.toList, u.oneCell' = true := by
  intro ps
  induction ps with
  | nil => intro qs h; cases qs with
    | nil => exact ⟨[], rfl, rfl, fun i p v hp => by simp at hp⟩
    | cons => simp [evas] at h
  | cons p ps ih => intro qs h; cases qs with
    | nil => simp [evas] at h
    | cons q qs =>
      simp only [evas, List.map_cons, List.cons.injEq] at h
      obtain ⟨h1, h2⟩ := h
      obtain ⟨vs, h3, h4, h5⟩ := ih h2
      obtain ⟨a, ha, hb⟩ := Option.bind_eq_some_iff.1 h1
      obtain ⟨cs, hcs, hq⟩ := Option.map_eq_some_iff.1 hb
      subst hq
      obtain ⟨v, h6, h7⟩ := hc.ev ha
      obtain ⟨i, x⟩ := p
      refine ⟨(i, v) :: vs, by simp only [evos]; rw [h6, h3], by simp [h4], fun j p u hp hu => ?_⟩
      cases j with
      | zero => simp at hp hu; subst hp hu; exact rep_cells hcs h7
      | succ j => exact h5 j p u (by simpa using hp) (by simpa using hu)

/-- How a struct or an array is built. -/
def BuildT (P : Program) (T : Nat) (z : Value) (place : Nat → Option (Nat × Nat)) : Prop := ∀ ps w, (Instr.build T ps).run P w = (match Instr.fill place z.cells ps.toList with
  | some cells => Result.ok (.agg cells) w
  | none => (Instr.build T ps).run P w)
theorem av_build {z : Value} {zs : List AV} {place : Nat → Option (Nat × Nat)} {ps : List (Nat × Operand)} {qs : List (Nat × List AV)} {cs : List AV} (hT : BuildT P T z place) (hz : cellsA (ofV z) = some zs) (hx : evas st.l ps = qs.map some) (hl : layA place zs qs = some cs) (hN : Nat.blt d N.n = true := by rfl) :
    AOpV P N X ⟨some d, .build T ps.toArray, U, pos, aft, g⟩ (.agg cs) st :=
  av_of rfl fun Q fr w m ρ φ hc => by
    obtain ⟨vs, h1, h2, h3⟩ := hc.evs hx
    obtain ⟨h4, h5⟩ := rep_cells hz (rep_ofV m ρ z)
    obtain ⟨us, h6, h7, h8⟩ := lay_fill hl h2 h3 h4 h5
    refine ⟨.agg us, ?_, fun K hk => op_build h1 (fun w => ?_) hN hk⟩
    · simp only [RepA]; exact ⟨us.toList, by simp, h7, h8⟩
    · rw [hT]; simp [h6]
theorem buildT_struct {z : Value} {fs : Array Field} {pl : List (Nat × Nat)} (hz : Zero P T z) (hu : P.underlying T = some (.struct fs)) (hp : ∀ w, (fs.mapM (fun f => do pure (f.offset, ← sizeOf f.type) : Field → Sem (Nat × Nat))).run P w = .ok pl.toArray w) : BuildT P T z (fun i => pl[i]?) := by
  intro ps w
  split
  · rename_i cells h
    simp only [Instr.build, Sem.run_bind, hz w, Result.andThen_ok, run_underlying hu, hp w]
    simp [h]
  · rfl
theorem buildT_array {z : Value} {n e sz : Nat} (hz : Zero P T z) (hu : P.underlying T = some (.array n e)) (hs : Sz P e sz) : BuildT P T z (fun i => some (i * sz, sz)) := by
  intro ps w
  split
  · rename_i cells h
    simp only [Instr.build, Sem.run_bind, hz w, Result.andThen_ok, run_underlying hu, hs w]
    simp [h]
  · rfl

/-- A literal slice that is read alone. -/
def BuildS (P : Program) (T E : Nat) (t : Ty) : Prop := P.underlying T = some (.slice E) ∧ ∃ i z, P.info? E = some i ∧ i.zero = some z ∧ i.size = t.cells ∧ z.cells.toList = zeroV t
theorem zeroV_one : ∀ (t : Ty), ∀ u ∈ zeroV t, u.oneCell' = true := fun t u hu => (rc_zero (fun _ => none) t).one u hu

theorem run_buildSlice {w : World} {E : Nat} {t : Ty} {ps : Array (Nat × Value)} {n : Nat} (hT : BuildS P T E t) (hn : Nat.ble (n * t.cells) 16777216 = true) {us : Array Value} :
    ∃ zs : Array Value, zs.toList = (List.replicate n (zeroV t)).flatten ∧ (Instr.fill (fun i => some (i * t.cells, t.cells)) zs ps.toList = some us → (Instr.buildSlice T n ps).run P w = .ok (.slice (some ⟨w.heap.size, 0, none⟩) n n) { w with heap := w.heap.push (.cells us E) }) := by
  obtain ⟨hu, i, z, hi, hz, hs, hzs⟩ := hT
  have hn' := Nat.le_of_ble_eq_true hn
  have hzsz : z.cells.size = t.cells := by have := (rc_zero (fun _ => none) t).len; rw [← hzs] at this; simpa using this
  by_cases h0 : n * t.cells = 0
  · refine ⟨#[], ?_, fun h => ?_⟩
    · have : (List.replicate n (zeroV t)).flatten.length = 0 := by
        rw [flatten_len (k := t.cells) (by simp : (List.replicate n (zeroV t)).length = n), h0]
        intro u hu; rw [List.eq_of_mem_replicate hu]; exact (rc_zero (fun _ => none) t).len
      exact (List.eq_nil_of_length_eq_zero this).symm
    · simp [Instr.buildSlice, run_underlying hu, sizeOf, typeInfo, hi, hs, h0, Array.range_zero', h, newRow]
  · refine ⟨madeCells z.cells (n * t.cells), ?_, fun h => ?_⟩
    · rw [← hzsz]; exact made_rows hzs n
    · have hno : ¬ (16777216 < n * t.cells) := by omega
      have h' : Instr.fill (fun i => some (i * t.cells, t.cells)) ((Array.range (n * t.cells)).map (z.cells[· % z.cells.size]!)) ps.toList = some us := h
      simp [Instr.buildSlice, run_underlying hu, sizeOf, typeInfo, hi, hs, h0, hno, zeroValue, hz, h', newRow]

theorem rows_of_expl {m : Mem} {ρ : List Value} {t : Ty} : ∀ {ys : List t.den} {vs : List Value}, (ys.all fun y => t.fit y) = true → RepL m ρ ((ys.map (expl t)).flatten) vs → RowsC m t ys vs := by
  intro ys
  induction ys with
  | nil => intro vs _ h; cases vs with
    | nil => exact RowsC.nil
    | cons => simp [RepL] at h
  | cons y ys ih =>
    intro vs hno h
    simp only [List.all_cons, Bool.and_eq_true] at hno
    simp only [List.map_cons, List.flatten_cons] at h
    obtain ⟨u1, u2, rfl, g1, g2⟩ := RepL.split h
    refine RowsC.app (x := [y]) ⟨[u1], rfl, by simp, fun i e u he hu => ?_⟩ (ih hno.2 g2)
    cases i with
    | zero => simp at he hu; subst he hu; exact rc_of_expl hno.1 g1
    | succ i => simp at he
theorem av_buildSlice {E n : Nat} {t : Ty} {ps : List (Nat × Operand)} {qs : List (Nat × List AV)} {zs cs : List AV} {ys : List t.den} (hT : BuildS P T E t) (hx : evas st.l ps = qs.map some) (hz : ((List.replicate n (zeroV t)).flatten).map ofV1 = zs) (hl : layA (fun i => some (i * t.cells, t.cells)) zs qs = some cs) (hy : (ys.map (expl t)).flatten = cs) (hn : Nat.beq ys.length n = true) (hc : Nat.ble (n * t.cells) 16777216 = true) (hc1 : Nat.ble n 16777216 = true) (hno : (ys.all fun y => t.fit y) = true) (hN : Nat.blt d N.n = true := by rfl) :
    AOpV P N X ⟨some d, .buildSlice T n ps.toArray, U, pos, aft, g⟩ (.sl t ys) st := by
  intro Q fr w m ρ φ hcc
  obtain ⟨vs, h1, h2, h3⟩ := hcc.evs hx
  have hzl := run_buildSlice (w := w) (ps := vs.toArray) hT hc (us := #[])
  have hz' : ∀ (l : List Value), RepL m ρ (l.map ofV1) l := by
    intro l
    induction l with
    | nil => simp [RepL]
    | cons v l ih => simp only [List.map_cons, RepL]; exact ⟨rep_ofV1 m ρ v, ih⟩
  obtain ⟨zz, hzz, _⟩ := hzl
  obtain ⟨us, h6, h7, h8⟩ := lay_fill (us := zz) hl h2 h3 (by rw [← hz, hzz]; exact hz' _) (by
    rw [hzz]; intro u hu
    obtain ⟨r, hr, hur⟩ := List.mem_flatten.1 hu
    rw [List.eq_of_mem_replicate hr] at hur
    exact zeroV_one t u hur)
  obtain ⟨zz', hzz', hrun⟩ := run_buildSlice (w := w) (ps := vs.toArray) hT hc (us := us)
  have hzeq : zz' = zz := Array.toList_inj.1 (hzz'.trans hzz.symm)
  subst hzeq
  have hr := hrun (by simpa using h6)
  have hn' := Nat.eq_of_beq_eq_true hn
  refine op_val (v := .slice (some ⟨w.heap.size, 0, none⟩) n n) rfl hN (fun s hs => ?_) ?_ (dk_new (new_push w (.cells us E)))
  · have e := evos_eval hs h1
    simp only [execOp, List.map_toArray, Sem.run_bind]
    rw [show (List.map (fun (x : Nat × Operand) => match x with | (i, x) => (i, s.eval x)) ps) = vs from e, hr]
    rfl
  · have hs := hcc.sh.alloc (new_push w (.cells us E)) rfl
    refine ⟨d, _, rfl, rfl, (new_push w _).ext, m.add [(w.heap.size, .cells us E)], Mem.le_add _ _, SH.frz (g := [(w.heap.size, .cells us E)]) (by simpa using hs), ?_⟩
    simp only [RepA]
    have hmem : m.add [(w.heap.size, .cells us E)] w.heap.size = some (.cells us E) := add_get (by simp) (by simp) (by have := hs.dis (w.heap.size, .cells us E) (by simp); exact this)
    have hrows : RowsC m t ys us.toList := by rw [← hy] at h7; exact rows_of_expl hno h7
    have h47 : cap47 = 140737488355328 := rfl
    have hc1' := Nat.le_of_ble_eq_true hc1
    have := rows_slice (c := n) hmem (RowsC.mono (Mem.le_add m [(w.heap.size, .cells us E)]) hrows) (by rw [← hrows.len, List.take_length]) (by omega) (by omega)
    rw [hn'] at this; exact this

/-! parts of structs -/
/-! texts -/
/-- The bounds of a slice expression. -/
def slOk (lo hi : Int) (n : Nat) : Bool := decide (0 ≤ lo) && decide (lo ≤ hi) && decide (hi ≤ n)
def osI (st : AS) (o : Option Operand) (dflt : Int) (z : Int) : Prop := match o with
  | none => z = dflt
  | some x => ∃ k, aev st.l x = some (.int k z)
theorem run_bounds {isS : Bool} {len cap : Nat} {lo hi : Option Value} {l h : Int} (hl : match lo with | none => l = 0 | some v => ∃ k, v = .int k l) (hh : match hi with | none => h = len | some v => ∃ k, v = .int k h) (h0 : 0 ≤ l) (h1 : l ≤ h) (h2 : h ≤ cap) (w : World) :
    (Instr.sliceBounds isS len cap lo hi none).run P w = .ok (l.toNat, h.toNat, cap) w := by
  cases lo with
  | none =>
    simp only at hl; subst hl
    cases hi with
    | none => simp only at hh; subst hh; simp [Instr.sliceBounds]
    | some v => obtain ⟨k, rfl⟩ := hh; simp [Instr.sliceBounds, Instr.sliceBound, asIntOf, h2, show (0 : Int) ≤ h by omega]
  | some u =>
    obtain ⟨k', rfl⟩ := hl
    cases hi with
    | none => simp only at hh; subst hh; simp [Instr.sliceBounds, Instr.sliceBound, asIntOf, h0, h1]
    | some v =>
      obtain ⟨k, rfl⟩ := hh
      have h3 : (0 : Int) ≤ h := by omega
      have h4 : l ≤ ((h.toNat : Nat) : Int) := by omega
      simp [Instr.sliceBounds, Instr.sliceBound, asIntOf, h2, h3, h0, h4]
      intro h5; omega
theorem osI_val {fr : Fr} {w : World} {m : Mem} {ρ : List Value} {φ : List Frag} (hc : Conc X st fr w m ρ φ) {o : Option Operand} {df z : Int} (h : osI st o df z) {s : Act} (hs : Holds N fr s) : match o.map s.eval with | none => z = df | some v => ∃ k, v = .int k z := by
  cases o with
  | none => exact h
  | some x => obtain ⟨k, hk⟩ := h; exact ⟨k, hs.eval (hc.int hk)⟩
theorem RowsC.sub {m : Mem} {t : Ty} {x : List t.den} {b o : Nat} (h : ∀ (i : Nat) (y : t.den), x[i]? = some y → ∃ us, RC m t y us ∧ CellsM m b (o + i * t.cells) us) (l r : Nat) : ∀ (i : Nat) (y : t.den), ((x.take r).drop l)[i]? = some y → ∃ us, RC m t y us ∧ CellsM m b (o + l * t.cells + i * t.cells) us := by
  intro i y hy
  rw [List.getElem?_drop, List.getElem?_take] at hy
  split at hy
  · obtain ⟨us, h1, h2⟩ := h _ y hy
    exact ⟨us, h1, by rw [Nat.add_mul, ← Nat.add_assoc] at h2; exact h2⟩
  · cases hy
/-- A part of a slice that is read. -/
theorem av_slice_sl {t : Ty} {xs : List t.den} {E : Nat} {lo hi : Option Operand} {l h : Int} (hU : Und P T (.slice E)) (hS : Sz P E t.cells) (hx : aev st.l x = some (.sl t xs)) (hl : osI st lo 0 l) (hh : osI st hi (xs.length : Int) h) (hb : slOk l h xs.length = true) (hN : Nat.blt d N.n = true := by rfl) : AOpV P N X ⟨some d, .slice T x lo hi none, U, pos, aft, g⟩ (.sl t ((xs.take h.toNat).drop l.toNat)) st :=
  av_of rfl fun Q fr w m ρ φ hc => by
    simp only [slOk, Bool.and_eq_true, decide_eq_true_eq] at hb
    obtain ⟨⟨h0, h1⟩, h2⟩ := hb
    obtain ⟨v, g1, g2⟩ := hc.ev hx
    simp only [RepA, RC] at g2
    obtain ⟨A, n, c, g3, g4, g5, g6, b, o, g7, g8⟩ := g2
    cases g3
    subst g4
    refine ⟨.slice (if c = l.toNat then A else A.map (·.add (l.toNat * t.cells))) (h.toNat - l.toNat) (c - l.toNat), ?_, fun K hk => op_val rfl hN (fun ac ha => ?_) hk⟩
    · simp only [RepA, RC]
      refine ⟨_, _, _, rfl, by simp; omega, by omega, by omega, b, o + l.toNat * t.cells, fun hp => ?_, RowsC.sub g8 _ _⟩
      rw [if_neg (by omega), g7 (by omega)]
      simp [add_lit]
    · have e1 := osI_val hc hl ha
      have e2 := osI_val hc hh ha
      have hr := run_bounds (P := P) (isS := true) (len := xs.length) (cap := c) (lo := lo.map ac.eval) (hi := hi.map ac.eval) e1 e2 h0 h1 (by omega) w
      simp [execOp, Instr.sliceAt, Instr.slice, ha.eval g1, run_underlying hU, hr, hS w]
/-- The head of a slice of the call's own. -/
theorem aop_slice_osl {i E E' : Nat} {t : Ty} {xs : List t.den} {hi : Option Operand} {h : Int} {K : AS → Prop} (hU : Und P T (.slice E)) (hS : Sz P E t.cells) (hx : aev st.l x = some (.osl i)) (hH : st.H.get i = .sl E' t xs) (hh : osI st hi (xs.length : Int) h) (hb : slOk 0 h xs.length = true) {lo : Option Operand} (hlo : osI st lo 0 0)
    (k : K (st.app d i (.sl E' t (xs.take h.toNat)))) (hN : Nat.blt d N.n = true := by rfl) : AOp P N X ⟨some d, .slice T x lo hi none, U, pos, aft, g⟩ K st :=
  aop_of fun Q fr w m ρ φ hc K' hK => by
    simp only [slOk, Bool.and_eq_true, decide_eq_true_eq] at hb
    obtain ⟨⟨_, h1⟩, h2⟩ := hb
    obtain ⟨v, g1, g2⟩ := hc.ev hx
    simp only [RepA] at g2
    obtain ⟨f, hf, ho, hw⟩ := hc.obj g2.1
    rw [hH] at ho
    have hfr := hc.front hf
    have hlen : (xs.take h.toNat).length = h.toNat := by rw [List.length_take]; omega
    obtain ⟨q0, ⟨rfl, rfl, rfl⟩ | ⟨b, c, cs, vs, rfl, rfl, q1, q2, q3, q4, q5⟩⟩ := ho
    · have hz : h = 0 := by simp at h2; omega
      subst hz
      refine op_val (v := .slice none 0 0) rfl hN (fun ac ha => ?_) (hK _ _ _ _ _ _ (hc.swap (h := .slice none 0 0) (d := d) (av := .osl st.n) (v := .slice none 0 0) (f' := []) g2.1 hf (Mem.le_refl _) hfr ?_ ?_) k)
      · have e1 := osI_val hc hlo ha
        have e2 := osI_val hc hh ha
        have hr := run_bounds (P := P) (isS := true) (len := 0) (cap := 0) (lo := lo.map ac.eval) (hi := hi.map ac.eval) e1 (by simpa using e2) (Int.le_refl _) (Int.le_refl _) (by simp) w
        simp [execOp, Instr.sliceAt, Instr.slice, ha.eval g1, run_underlying hU, hr, hS w]
      · exact ⟨by simp, .inl ⟨by simp, rfl, rfl⟩⟩
      · simp only [RepA]; exact ⟨by rw [← hc.nρ]; simp, rfl⟩
    · refine op_val (v := .slice (some ⟨b, 0, none⟩) h.toNat c) rfl hN (fun ac ha => ?_) (hK _ _ _ _ _ _ (hc.swap (h := .slice (some ⟨b, 0, none⟩) h.toNat c) (d := d) (av := .osl st.n) (v := .slice (some ⟨b, 0, none⟩) h.toNat c) (f' := [(b, .cells cs E' (0, 0))]) g2.1 hf (Mem.le_refl _) hfr ?_ ?_) k)
      · have e1 := osI_val hc hlo ha
        have e2 := osI_val hc hh ha
        have hr := run_bounds (P := P) (isS := true) (len := xs.length) (cap := c) (lo := lo.map ac.eval) (hi := hi.map ac.eval) e1 e2 (Int.le_refl _) h1 (by omega) w
        simp [execOp, Instr.sliceAt, Instr.slice, ha.eval g1, run_underlying hU, hr, hS w, Addr.add]
      · have q4l := q4.len
        obtain ⟨us, r1, r2, r3⟩ := q4
        have hall : ∀ u ∈ us, u.length = t.cells := by
          intro u hu
          obtain ⟨i, hi, rfl⟩ := List.getElem_of_mem hu
          exact RC.len (r3 i (xs[i]'(by omega)) _ (List.getElem?_eq_getElem (by omega)) (List.getElem?_eq_getElem hi))
        refine ⟨by rw [hlen]; omega, .inr ⟨b, c, cs, (us.take h.toNat).flatten, by rw [hlen], rfl, by rw [hlen]; omega, q2, q3, ⟨us.take h.toNat, by rw [hlen, List.length_take]; omega, rfl, fun i y u hy hu => ?_⟩, ?_⟩⟩
        · rw [List.getElem?_take] at hy hu
          split at hy
          · rename_i hi; rw [if_pos hi] at hu; exact r3 i y u hy hu
          · cases hy
        · rw [hlen]
          have h3 : us.flatten = (us.take h.toNat).flatten ++ (us.drop h.toNat).flatten := by rw [← List.flatten_append, List.take_append_drop]
          have h4 : (us.take h.toNat).flatten.length = h.toNat * t.cells := by
            rw [flatten_len (k := t.cells) (rfl : (us.take h.toNat).length = _)]
            · rw [List.length_take]; congr 1; omega
            · intro u hu; exact hall u (List.mem_of_mem_take hu)
          rw [r2, h3] at q5
          have h5 := congrArg (List.take (h.toNat * t.cells)) q5
          rw [List.take_take, List.take_left' h4] at h5
          rw [← h5]
          congr 1
          have := Nat.mul_le_mul_right t.cells (show h.toNat ≤ xs.length by omega)
          omega
      · simp only [RepA]; exact ⟨by rw [← hc.nρ]; simp, rfl⟩

/-! conversions -/
end
end Go.Ab


set_option linter.unusedVariables false
set_option linter.unusedSimpArgs false
namespace Go.Ab
open Go.RowKit Go.Shelf Go.Proofs Go.Eng

/-! knowing less -/
def posN : List Nat → Nat → Option Nat
  | [], _ => none
  | j :: r, i => bif Nat.beq j i then some 0 else (posN r i).map (· + 1)
theorem posN_get : ∀ {σ : List Nat} {i j : Nat}, posN σ i = some j → σ[j]? = some i := by
  intro σ
  induction σ with
  | nil => intro i j h; simp [posN] at h
  | cons a σ ih =>
    intro i j h
    simp only [posN] at h
    cases hb : Nat.beq a i
    · rw [hb] at h
      simp only [cond_false] at h
      obtain ⟨j', h1, rfl⟩ := Option.map_eq_some_iff.1 h
      simpa using ih h1
    · rw [hb] at h
      simp only [cond_true, Option.some.injEq] at h
      subst h
      simp [Nat.eq_of_beq_eq_true hb]
theorem posN_none : ∀ {σ : List Nat} {i : Nat}, posN σ i = none → i ∉ σ := by
  intro σ
  induction σ with
  | nil => intro i _; simp
  | cons a σ ih =>
    intro i h
    simp only [posN] at h
    cases hb : Nat.beq a i
    · rw [hb] at h
      simp only [cond_false, Option.map_eq_none_iff] at h
      simp only [List.mem_cons, not_or]
      refine ⟨fun e => ?_, ih h⟩
      subst e; simp at hb
    · rw [hb] at h; simp at h

/-- What is seen when but the objects σ stay owned. -/
def coeA (H : AH) (σ : List Nat) : Nat → AV → AV
  | _, .osl i => match posN σ i with
    | some j => .osl j
    | none => match H.get i with
      | .sl _ t x => .sl t x
      | _ => .any
  | _, .map i => match posN σ i with
    | some j => .map j
    | none => match H.get i with
      | .map tk tv x => .dm tk tv x
      | _ => .any
  | _, .ep i sz z o => match posN σ i with
    | some j => .ep j sz z o
    | none => .any
  | 0, .ptr i o => match posN σ i with
    | some j => .ptr j o
    | none => .any
  | d + 1, .ptr i o => match posN σ i with
    | some j => .ptr j o
    | none => match H.get i with
      | .var _ cs => .rp ((cs.drop o).map (coeA H σ d))
      | _ => .any
  | 0, .rp _ => .any
  | 0, .agg _ => .any
  | 0, .tup _ => .any
  | 0, .fn _ _ _ => .any
  | d + 1, .rp cs => .rp (cs.map (coeA H σ d))
  | d + 1, .agg cs => .agg (cs.map (coeA H σ d))
  | d + 1, .tup cs => .tup (cs.map (coeA H σ d))
  | d + 1, .fn f a b => .fn f (a.map (coeA H σ d)) (b.map (coeA H σ d))
  | _, .sog i => match posN σ i with
    | some j => .sog j
    | none => match H.get i with
      | .slo _ _ t x => .sl (.slice t) x
      | _ => .any
  | _, .epg i k => match posN σ i with
    | some j => .epg j k
    | none => .any
  | _, .row i k => match posN σ i with
    | some j => .row j k
    | none => .any
  | _, .epr i k sz z o => match posN σ i with
    | some j => .epr j k sz z o
    | none => .any
  | _, a => a

/-- A weaker view. -/
def cv (a' a : AV) : Prop := a' = a ∨ a' = .any ∨ (a = .nils ∧ ∃ t, a' = .sl t []) ∨ (a' = .clo a ∧ renA [] a = a)
theorem cv0 {a : AV} : cv a a := .inl rfl
theorem cv2 {t : Ty} : cv (.sl t []) .nils := .inr (.inr (.inl ⟨rfl, t, rfl⟩))
theorem cv3 {a : AV} (h : renA [] a = a) : cv (.clo a) a := .inr (.inr (.inr ⟨rfl, h⟩))
theorem cv_rep {m : Mem} {ρ : List Value} {a' a : AV} {v : Value} (h : cv a' a) (hr : RepA m ρ a v) : RepA m ρ a' v := by
  rcases h with rfl | rfl | ⟨rfl, t, rfl⟩ | ⟨rfl, h⟩
  rotate_left 3
  · simp only [RepA]
    refine ren_fwd (σ := []) (ρ := ρ) (fun i j u hi _ => by simp at hi) a ?_
    rw [h]; exact hr
  · exact hr
  · simp only [RepA]
  · simp only [RepA] at hr
    subst hr
    simp only [RepA, RC]
    exact ⟨none, 0, 0, rfl, rfl, Nat.le_refl _, Nat.zero_le _, 0, 0, fun h => absurd h (by omega), fun i y hy => by simp at hy⟩
def cvL : List AV → List AV → Prop
  | [], [] => True
  | a' :: r, a :: s => cv a' a ∧ cvL r s
  | _, _ => False
theorem cvL_rep {m : Mem} {ρ : List Value} : ∀ {as' bs : List AV} {vs : List Value}, cvL as' bs → RepL m ρ bs vs → RepL m ρ as' vs := by
  intro as'
  induction as' with
  | nil => intro bs vs h hr; cases bs with
    | nil => exact hr
    | cons => exact h.elim
  | cons a as' ih => intro bs vs h hr; cases bs with
    | nil => exact h.elim
    | cons b bs => cases vs with
      | nil => simp [RepL] at hr
      | cons v vs => simp only [RepL] at hr ⊢; exact ⟨cv_rep h.1 hr.1, ih h.2 hr.2⟩

def coeO (H : AH) (σ : List Nat) (d : Nat) : AO → AO
  | .var T cs => .var T (cs.map (coeA H σ d))
  | .mpt k v x hs => if hs.all (fun q => (posN σ q.2).isSome) then .mpt k v x (hs.map fun q => (q.1, (posN σ q.2).getD 0)) else .guest fun _ _ => True
  | .mapr tk tv x left cur j => match posN σ j with
    | some j' => .mapr tk tv x left cur j'
    | none => .guest fun _ _ => True
  | .sloh .. => .guest fun _ _ => True
  | o => o
def cvO (o' o : AO) : Prop := o' = o ∨ ∃ T cs' cs, o' = .var T cs' ∧ o = .var T cs ∧ cvL cs' cs
theorem cvo0 {o : AO} : cvO o o := .inl rfl
/-- All that is known in 'st'' is known in 'st', with the same machine. -/
def Wk (X : Cx) (st st' : AS) : Prop := ∀ fr w m ρ φ, Conc X st fr w m ρ φ → ∃ m' ρ' φ', Conc X st' fr w m' ρ' φ'
theorem Wk.refl {X : Cx} {st : AS} : Wk X st st := fun fr w m ρ φ h => ⟨m, ρ, φ, h⟩
theorem Wk.trans {X : Cx} {a b c : AS} (h : Wk X a b) (k : Wk X b c) : Wk X a c := fun fr w m ρ φ hc => let ⟨_, _, _, h1⟩ := h fr w m ρ φ hc; k _ _ _ _ _ h1

def wkS (l : AFr) (H : AH) (σ : List Nat) (d : Nat) : AFr → Prop
  | [] => True
  | (t, a') :: r => (∃ a, (l.look t).map (coeA H σ d) = some a ∧ cv a' a) ∧ wkS l H σ d r
def wkO (H : AH) (σ : List Nat) (d : Nat) (H' : AH) : Nat → List Nat → Prop
  | _, [] => True
  | j, i :: r => cvO (H'.get j) (coeO H σ d (H.get i)) ∧ wkO H σ d H' (j + 1) r
/-- Objects are named once, the first ones as before. -/
def wkB (k n : Nat) (σ : List Nat) : Bool := nodupB σ && (σ.all fun i => Nat.blt i n) && Nat.ble k σ.length && ((List.range k).all fun i => match σ[i]? with
  | some j => Nat.beq i j
  | none => false)

theorem wkS_get {l : AFr} {H : AH} {σ : List Nat} {d : Nat} : ∀ {l' : AFr}, wkS l H σ d l' → ∀ t a', l'.look t = some a' → ∃ a, l.look t = some a ∧ cv a' (coeA H σ d a) := by
  intro l'
  induction l' with
  | nil => intro _ t a' h; simp [AFr.look] at h
  | cons p r ih =>
    intro h t a' ht
    obtain ⟨q, b⟩ := p
    simp only [wkS] at h
    rw [AFr.look_cons] at ht
    split at ht
    · rename_i e; subst e; cases ht
      obtain ⟨a, h1, h2⟩ := h.1
      obtain ⟨a0, h3, rfl⟩ := Option.map_eq_some_iff.1 h1
      exact ⟨a0, h3, h2⟩
    · exact ih h.2 t a' ht
theorem wkO_get {H : AH} {σ0 : List Nat} {d : Nat} {H' : AH} : ∀ {σ : List Nat} {j : Nat}, wkO H σ0 d H' j σ → ∀ p i, σ[p]? = some i → cvO (H'.get (j + p)) (coeO H σ0 d (H.get i)) := by
  intro σ
  induction σ with
  | nil => intro j _ p i h; simp at h
  | cons a r ih =>
    intro j h p i hi
    simp only [wkO] at h
    cases p with
    | zero => simp at hi; subst hi; exact h.1
    | succ p => rw [show j + (p + 1) = (j + 1) + p by omega]; exact ih h.2 p i (by simpa using hi)

theorem flatMap_getD (φ : List Frag) (σ : List Nat) : (σ.map fun i => φ.getD i []).flatten = σ.flatMap fun i => φ.getD i [] := by
  rw [List.flatMap_def]

theorem slrep_rc {m m' : Mem} (hm : m.le m') {T : TypeId} {t : Ty} {x : List t.den} {v : Value} {f : Frag} (h : SlRep m T t x v f) (hf : ∀ p ∈ f, m' p.1 = some p.2) : RC m' (.slice t) x [v] := by
  obtain ⟨h0, ⟨rfl, rfl, rfl⟩ | ⟨b, c, cs, vs, rfl, rfl, q1, q2, q3, q4, q5⟩⟩ := h
  · simp only [RC]; exact ⟨none, 0, 0, rfl, rfl, Nat.le_refl _, Nat.zero_le _, 0, 0, fun h => absurd h (by omega), fun i y hy => by simp at hy⟩
  · exact rows_slice (hf (b, _) (List.mem_singleton.2 rfl)) (q4.mono hm) q5 q1 h0
theorem RowsO.at {m : Mem} {T : TypeId} {t : Ty} : ∀ {x : List (List t.den)} {rs : List Value} {fs : List Frag}, RowsO m T t x rs fs → rs.length = x.length ∧ fs.length = x.length ∧ ∀ (i : Nat) (y : List t.den), x[i]? = some y → ∃ r f, rs[i]? = some r ∧ fs[i]? = some f ∧ SlRep m T t y r f := by
  intro x
  induction x with
  | nil => intro rs fs h; cases rs with
    | nil => cases fs with
      | nil => exact ⟨rfl, rfl, fun i y hy => by simp at hy⟩
      | cons => exact h.elim
    | cons => exact h.elim
  | cons z x ih => intro rs fs h; cases rs with
    | nil => exact h.elim
    | cons r rs => cases fs with
      | nil => exact h.elim
      | cons f fs =>
        obtain ⟨h1, h2, h3⟩ := ih h.2
        refine ⟨by simp [h1], by simp [h2], fun i y hy => ?_⟩
        cases i with
        | zero => simp at hy; subst hy; exact ⟨r, f, rfl, rfl, h.1⟩
        | succ i => simpa using h3 i y (by simpa using hy)
theorem slo_rc {m m' : Mem} (hm : m.le m') {ρ : List Value} {T T' : TypeId} {t : Ty} {x : List (List t.den)} {v : Value} {rs : List Value} {f : Frag} (h : ORep m ρ (.slo T T' t x) (.tuple (v :: rs).toArray) f) (hf : ∀ p ∈ f, m' p.1 = some p.2) : RC m' (.slice (.slice t)) x [v] := by
  obtain ⟨rs', fs, f0, b, c, cs, h1, rfl, rfl, h4, h5, h6, h7, h8, h9⟩ := h
  simp only [Value.tuple.injEq, List.toArray_inj, List.cons.injEq] at h1
  obtain ⟨rfl, rfl⟩ := h1
  obtain ⟨l1, l2, l3⟩ := h9.at
  refine ⟨_, _, c, rfl, rfl, h5, h4, b, 0, fun _ => rfl, fun i y hy => ?_⟩
  obtain ⟨r, g, k1, k2, k3⟩ := l3 i y hy
  refine ⟨[r], slrep_rc hm k3 (fun p hp => hf p ?_), ?_⟩
  · rw [List.mem_append]; right
    exact List.mem_flatten.2 ⟨g, List.mem_of_getElem? k2, hp⟩
  · intro j u hj
    cases j with
    | succ j => simp at hj
    | zero =>
      simp at hj; subst hj
      refine ⟨cs, T, (0, 0), hf (b, _) (by simp), ?_⟩
      rw [← h8, List.getElem?_take] at k1
      split at k1
      · simpa [Ty.cells] using k1
      · cases k1

theorem coe_rep {m m' : Mem} {ρ ρ' : List Value} {φ : List Frag} {H : AH} {σ : List Nat} (hm : m.le m') (hσ : ∀ i j h, posN σ i = some j → ρ[i]? = some h → ρ'[j]? = some h) (hfz : ∀ i h, posN σ i = none → ρ[i]? = some h → ∃ f, ORep m ρ (H.get i) h f ∧ ∀ p ∈ f, m' p.1 = some p.2) :
    ∀ (d : Nat) {a : AV} {v : Value}, RepA m ρ a v → RepA m' ρ' (coeA H σ d a) v := by
  intro d
  induction d with
  | zero =>
    intro a v h
    cases a with
    | osl i =>
      simp only [coeA]
      simp only [RepA] at h
      cases hp : posN σ i with
      | some j => simp only [RepA]; exact ⟨hσ i j v hp h.1, h.2⟩
      | none =>
        obtain ⟨f, h1, h2⟩ := hfz i v hp h.1
        cases ho : H.get i with
        | sl T t x =>
          rw [ho] at h1
          simp only [RepA]
          obtain ⟨h0, ⟨rfl, rfl, rfl⟩ | ⟨b, c, cs, vs, rfl, rfl, q1, q2, q3, q4, q5⟩⟩ := h1
          · simp only [RC]; exact ⟨none, 0, 0, rfl, rfl, Nat.le_refl _, Nat.zero_le _, 0, 0, fun h => absurd h (by omega), fun i y hy => by simp at hy⟩
          · exact rows_slice (h2 (b, _) (List.mem_singleton.2 rfl)) (q4.mono hm) q5 q1 h0
        | _ => simp only [RepA]
    | map i =>
      simp only [coeA]
      simp only [RepA] at h
      cases hp : posN σ i with
      | some j => simp only [RepA]; exact ⟨hσ i j v hp h.1, h.2⟩
      | none =>
        obtain ⟨f, h1, h2⟩ := hfz i v hp h.1
        cases ho : H.get i with
        | map tk tv x =>
          rw [ho] at h1
          obtain ⟨b, es, cl, rfl, rfl, h3⟩ := h1
          simp only [RepA]
          exact .inr ⟨b, es, cl, rfl, h2 (b, _) (List.mem_singleton.2 rfl), EntM.mono hm (x := x) h3⟩
        | _ => simp only [RepA]
    | ep i sz z o =>
      simp only [coeA]
      simp only [RepA] at h
      obtain ⟨b, n, c, h1, h2⟩ := h
      cases hp : posN σ i with
      | some j => simp only [RepA]; exact ⟨b, n, c, hσ i j _ hp h1, h2⟩
      | none => simp only [RepA]
    | ptr i o =>
      simp only [coeA]
      simp only [RepA] at h
      obtain ⟨b, h1, h2⟩ := h
      cases hp : posN σ i with
      | some j => simp only [RepA]; exact ⟨b, hσ i j _ hp h1, h2⟩
      | none => simp only [RepA]
    | sog i =>
      simp only [coeA]
      simp only [RepA] at h
      obtain ⟨rs, g1, g2⟩ := h
      cases hp : posN σ i with
      | some j => simp only [RepA]; exact ⟨rs, hσ i j _ hp g1, g2⟩
      | none =>
        obtain ⟨f, h1, h2⟩ := hfz i _ hp g1
        cases ho : H.get i with
        | slo T T' t x =>
          rw [ho] at h1
          simp only [RepA]
          exact slo_rc hm h1 h2
        | _ => simp only [RepA]
    | epg i k =>
      simp only [coeA]
      simp only [RepA] at h
      obtain ⟨b, n, c, rs, h1, h2⟩ := h
      cases hp : posN σ i with
      | some j => simp only [RepA]; exact ⟨b, n, c, rs, hσ i j _ hp h1, h2⟩
      | none => simp only [RepA]
    | row i k =>
      simp only [coeA]
      simp only [RepA] at h
      obtain ⟨hd, rs, h1, h2⟩ := h
      cases hp : posN σ i with
      | some j => simp only [RepA]; exact ⟨hd, rs, hσ i j _ hp h1, h2⟩
      | none => simp only [RepA]
    | epr i k sz z o =>
      simp only [coeA]
      simp only [RepA] at h
      obtain ⟨hd, rs, b, n, c, h1, h2⟩ := h
      cases hp : posN σ i with
      | some j => simp only [RepA]; exact ⟨hd, rs, b, n, c, hσ i j _ hp h1, h2⟩
      | none => simp only [RepA]
    | clo a => simp only [coeA, RepA] at h ⊢; exact RepA.mono hm (fun _ _ h => h) a h
    | rp cs => simp only [coeA, RepA]
    | agg cs => simp only [coeA, RepA]
    | tup cs => simp only [coeA, RepA]
    | fn f a b => simp only [coeA, RepA]
    | sl t x => simp only [coeA, RepA] at h ⊢; exact h.mono hm
    | dm tk tv x => simp only [coeA, RepA] at h ⊢; exact h.mono hm
    | bad => simp only [RepA] at h
    | any => simp only [coeA, RepA]
    | _ => simpa only [coeA, RepA] using h
  | succ d ih =>
    have ihL : ∀ {as' : List AV} {vs : List Value}, RepL m ρ as' vs → RepL m' ρ' (as'.map (coeA H σ d)) vs := by
      intro as'
      induction as' with
      | nil => intro vs h; cases vs with
        | nil => simp [RepL]
        | cons => simp [RepL] at h
      | cons a as' ih2 => intro vs h; cases vs with
        | nil => simp [RepL] at h
        | cons v vs => simp only [List.map_cons, RepL] at h ⊢; exact ⟨ih h.1, ih2 h.2⟩
    intro a v h
    cases a with
    | osl i =>
      simp only [coeA]
      simp only [RepA] at h
      cases hp : posN σ i with
      | some j => simp only [RepA]; exact ⟨hσ i j v hp h.1, h.2⟩
      | none =>
        obtain ⟨f, h1, h2⟩ := hfz i v hp h.1
        cases ho : H.get i with
        | sl T t x =>
          rw [ho] at h1
          simp only [RepA]
          obtain ⟨h0, ⟨rfl, rfl, rfl⟩ | ⟨b, c, cs, vs, rfl, rfl, q1, q2, q3, q4, q5⟩⟩ := h1
          · simp only [RC]; exact ⟨none, 0, 0, rfl, rfl, Nat.le_refl _, Nat.zero_le _, 0, 0, fun h => absurd h (by omega), fun i y hy => by simp at hy⟩
          · exact rows_slice (h2 (b, _) (List.mem_singleton.2 rfl)) (q4.mono hm) q5 q1 h0
        | _ => simp only [RepA]
    | map i =>
      simp only [coeA]
      simp only [RepA] at h
      cases hp : posN σ i with
      | some j => simp only [RepA]; exact ⟨hσ i j v hp h.1, h.2⟩
      | none =>
        obtain ⟨f, h1, h2⟩ := hfz i v hp h.1
        cases ho : H.get i with
        | map tk tv x =>
          rw [ho] at h1
          obtain ⟨b, es, cl, rfl, rfl, h3⟩ := h1
          simp only [RepA]
          exact .inr ⟨b, es, cl, rfl, h2 (b, _) (List.mem_singleton.2 rfl), EntM.mono hm (x := x) h3⟩
        | _ => simp only [RepA]
    | ep i sz z o =>
      simp only [coeA]
      simp only [RepA] at h
      obtain ⟨b, n, c, h1, h2⟩ := h
      cases hp : posN σ i with
      | some j => simp only [RepA]; exact ⟨b, n, c, hσ i j _ hp h1, h2⟩
      | none => simp only [RepA]
    | ptr i o =>
      simp only [coeA]
      simp only [RepA] at h
      obtain ⟨b, h1, rfl⟩ := h
      cases hp : posN σ i with
      | some j => simp only [RepA]; exact ⟨b, hσ i j _ hp h1, rfl⟩
      | none =>
        obtain ⟨f, h3, h4⟩ := hfz i _ hp h1
        cases ho : H.get i with
        | var T cs =>
          rw [ho] at h3
          obtain ⟨b', us, q1, rfl, q3, q4⟩ := h3
          cases q1
          simp only [RepA]
          refine ⟨b, o, us.drop o, rfl, ihL (q3.drop o), ?_, fun u hu => q4 u (List.mem_of_mem_drop hu)⟩
          intro j u hj
          rw [List.getElem?_drop] at hj
          exact ⟨_, _, _, h4 (b, _) (List.mem_singleton.2 rfl), by simpa using hj⟩
        | _ => simp only [RepA]
    | sog i =>
      simp only [coeA]
      simp only [RepA] at h
      obtain ⟨rs, g1, g2⟩ := h
      cases hp : posN σ i with
      | some j => simp only [RepA]; exact ⟨rs, hσ i j _ hp g1, g2⟩
      | none =>
        obtain ⟨f, h1, h2⟩ := hfz i _ hp g1
        cases ho : H.get i with
        | slo T T' t x =>
          rw [ho] at h1
          simp only [RepA]
          exact slo_rc hm h1 h2
        | _ => simp only [RepA]
    | epg i k =>
      simp only [coeA]
      simp only [RepA] at h
      obtain ⟨b, n, c, rs, h1, h2⟩ := h
      cases hp : posN σ i with
      | some j => simp only [RepA]; exact ⟨b, n, c, rs, hσ i j _ hp h1, h2⟩
      | none => simp only [RepA]
    | row i k =>
      simp only [coeA]
      simp only [RepA] at h
      obtain ⟨hd, rs, h1, h2⟩ := h
      cases hp : posN σ i with
      | some j => simp only [RepA]; exact ⟨hd, rs, hσ i j _ hp h1, h2⟩
      | none => simp only [RepA]
    | epr i k sz z o =>
      simp only [coeA]
      simp only [RepA] at h
      obtain ⟨hd, rs, b, n, c, h1, h2⟩ := h
      cases hp : posN σ i with
      | some j => simp only [RepA]; exact ⟨hd, rs, b, n, c, hσ i j _ hp h1, h2⟩
      | none => simp only [RepA]
    | clo a => simp only [coeA, RepA] at h ⊢; exact RepA.mono hm (fun _ _ h => h) a h
    | rp cs =>
      simp only [coeA, RepA] at h ⊢
      obtain ⟨b, o, us, h1, h2, h3, h4⟩ := h
      exact ⟨b, o, us, h1, ihL h2, h3.mono hm, h4⟩
    | agg cs =>
      simp only [coeA, RepA] at h ⊢
      obtain ⟨us, h1, h2, h3⟩ := h
      exact ⟨us, h1, ihL h2, h3⟩
    | tup cs =>
      simp only [coeA, RepA] at h ⊢
      obtain ⟨us, h1, h2⟩ := h
      exact ⟨us, h1, ihL h2⟩
    | fn f a b =>
      simp only [coeA, RepA] at h ⊢
      obtain ⟨us, ws, h1, h2, h3⟩ := h
      exact ⟨us, ws, h1, ihL h2, ihL h3⟩
    | sl t x => simp only [coeA, RepA] at h ⊢; exact h.mono hm
    | dm tk tv x => simp only [coeA, RepA] at h ⊢; exact h.mono hm
    | bad => simp only [RepA] at h
    | any => simp only [coeA, RepA]
    | _ => simpa only [coeA, RepA] using h

theorem wk_of {X : Cx} {k : Nat} (hX : X.ρ.length = k) {st st' : AS} (σ : List Nat) (d : Nat) (hn : Nat.beq st'.n σ.length = true) (hB : wkB k st.n σ = true) (hs : wkS st.l st.H σ d st'.l) (ho : wkO st.H σ d st'.H 0 σ) : Wk X st st' := by
  intro fr w m ρ φ hc
  have hn := Nat.eq_of_beq_eq_true hn
  simp only [wkB, Bool.and_eq_true] at hB
  obtain ⟨⟨⟨hB1, hB2⟩, hB3⟩, hB4⟩ := hB
  have hnd := nodup_of hB1
  have hlt : ∀ i ∈ σ, i < st.n := by
    intro i hi
    rw [List.all_eq_true] at hB2
    simpa using hB2 i hi
  have hk := Nat.le_of_ble_eq_true hB3
  have hpre : ∀ i, i < k → σ[i]? = some i := by
    intro i hi
    rw [List.all_eq_true] at hB4
    have := hB4 i (List.mem_range.2 hi)
    split at this
    · rename_i j hj; rw [hj, Nat.eq_of_beq_eq_true this]
    · cases this
  -- what goes
  let G : Frag := ((List.range st.n).filter fun i => !σ.contains i).flatMap fun i => φ.getD i []
  let φ' : List Frag := σ.map fun i => φ.getD i []
  let ρ' : List Value := σ.map fun i => ρ.getD i undef
  have hperm : (φ.flatten ++ X.F).Perm (G ++ (φ'.flatten ++ X.F)) := by
    rw [← List.append_assoc]
    refine List.Perm.append_right _ ?_
    rw [flatten_range, hc.nφ]
    refine ((range_split hnd hlt).flatMap_right _).trans ?_
    rw [List.flatMap_append]
    refine List.perm_append_comm.trans ?_
    show (G ++ _).Perm (G ++ φ'.flatten)
    rw [show φ'.flatten = σ.flatMap fun i => φ.getD i [] from flatMap_getD φ σ]
  have hsh := hc.sh.perm hperm
  have hnodG := hsh.nd
  have hmem : ∀ p ∈ G, (m.add G) p.1 = some p.2 := by
    intro p hp
    rw [List.map_append, List.nodup_append] at hnodG
    exact add_get hnodG.1 hp (hsh.dis p (by simp [hp]))
  have hle := Mem.le_add m G
  have hgetρ : ∀ i h, ρ[i]? = some h → ρ.getD i undef = h := fun i h hi => by rw [List.getD_eq_getElem?_getD, hi]; rfl
  have hgetφ : ∀ i f, φ[i]? = some f → φ.getD i [] = f := fun i f hi => by rw [List.getD_eq_getElem?_getD, hi]; rfl
  have hσ : ∀ i j h, posN σ i = some j → ρ[i]? = some h → ρ'[j]? = some h := by
    intro i j h hp hi
    have := posN_get hp
    simp only [ρ', List.getElem?_map, this, Option.map_some, hgetρ i h hi]
  have hfz : ∀ i h, posN σ i = none → ρ[i]? = some h → ∃ f, ORep m ρ (st.H.get i) h f ∧ ∀ p ∈ f, (m.add G) p.1 = some p.2 := by
    intro i h hp hi
    obtain ⟨f, hf, h1, _⟩ := hc.obj hi
    refine ⟨f, h1, fun p hpf => hmem p ?_⟩
    simp only [G, List.mem_flatMap, List.mem_filter, List.mem_range, Bool.not_eq_true', List.contains_eq_mem, decide_eq_false_iff_not]
    exact ⟨i, ⟨by rw [← hc.nρ]; exact (List.getElem?_eq_some_iff.1 hi).1, posN_none hp⟩, by rw [hgetφ i f hf]; exact hpf⟩
  have hcoe : ∀ {a : AV} {v : Value}, RepA m ρ a v → RepA (m.add G) ρ' (coeA st.H σ d a) v := fun h => coe_rep (φ := φ) hle hσ hfz d h
  have hcoeL : ∀ {as' : List AV} {vs : List Value}, RepL m ρ as' vs → RepL (m.add G) ρ' (as'.map (coeA st.H σ d)) vs := by
    intro as'
    induction as' with
    | nil => intro vs h; cases vs with
      | nil => simp [RepL]
      | cons => simp [RepL] at h
    | cons a as' ih2 => intro vs h; cases vs with
      | nil => simp [RepL] at h
      | cons v vs => simp only [List.map_cons, RepL] at h ⊢; exact ⟨hcoe h.1, ih2 h.2⟩
  refine ⟨m.add G, ρ', φ', hc.mle.trans hle, ?_, by simp [ρ', hn], by simp [φ', hn], ?_, ?_, hsh.frz⟩
  · intro i h hi
    have h1 := (List.getElem?_eq_some_iff.1 hi).1
    have h2 := hpre i (by omega)
    simp only [ρ', List.getElem?_map, h2, Option.map_some, hgetρ i h (hc.pre i h hi)]
  · intro t a' ht
    obtain ⟨a, h1, h2⟩ := wkS_get hs t a' ht
    obtain ⟨v, h3, h4⟩ := hc.slots t a h1
    exact ⟨v, h3, cv_rep h2 (hcoe h4)⟩
  · intro j h f hj hf
    simp only [ρ', List.getElem?_map, Option.map_eq_some_iff] at hj
    simp only [φ', List.getElem?_map, Option.map_eq_some_iff] at hf
    obtain ⟨i, hi, rfl⟩ := hj
    obtain ⟨i', hi', rfl⟩ := hf
    rw [hi] at hi'; cases hi'
    have hin := hlt i (List.mem_of_getElem? hi)
    obtain ⟨u, hu⟩ : ∃ u, ρ[i]? = some u := ⟨_, List.getElem?_eq_getElem (by rw [hc.nρ]; exact hin)⟩
    obtain ⟨f, hf, h1, _⟩ := hc.obj hu
    rw [hgetρ i u hu, hgetφ i f hf]
    have h2 := wkO_get ho j i hi
    rw [Nat.zero_add] at h2
    have h3 : ORep (m.add G) ρ' (coeO st.H σ d (st.H.get i)) u f := by
      cases hoi : st.H.get i with
      | var T cs =>
        rw [hoi] at h1
        obtain ⟨b, us, q1, q2, q3, q4⟩ := h1
        exact ⟨b, us, q1, q2, hcoeL q3, q4⟩
      | dead => rw [hoi] at h1; exact h1
      | sl T t x =>
        rw [hoi] at h1
        obtain ⟨h0, q | ⟨b, c, cs, vs, q1, q2, q3, q4, q5, q6, q7⟩⟩ := h1
        · exact ⟨h0, .inl q⟩
        · exact ⟨h0, .inr ⟨b, c, cs, vs, q1, q2, q3, q4, q5, q6.mono hle, q7⟩⟩
      | map tk tv x =>
        rw [hoi] at h1
        have h5 : ORep (m.add G) ρ (.map tk tv x) u f := ORep.mono hle (fun _ _ h => h) h1
        exact h5
      | slo T T' t x =>
        rw [hoi] at h1
        have h5 : ORep (m.add G) ρ (.slo T T' t x) u f := ORep.mono hle (fun _ _ h => h) h1
        exact h5
      | guest p =>
        rw [hoi] at h1
        have h5 : ORep (m.add G) ρ (.guest p) u f := ORep.mono hle (fun _ _ h => h) h1
        exact h5
      | bld T E s => rw [hoi] at h1; exact h1
      | sloh => exact ⟨_, hle, trivial⟩
      | mit tk tv left cur =>
        rw [hoi] at h1
        have h5 : ORep (m.add G) ρ (.mit tk tv left cur) u f := ORep.mono hle (fun _ _ h => h) h1
        exact h5
      | mapr tk tv x left cur j =>
        rw [hoi] at h1
        have h5 : ORep (m.add G) ρ (.mapr tk tv x left cur j) u f := ORep.mono hle (fun _ _ h => h) h1
        simp only [coeO]
        split
        · rename_i j' hj'
          obtain ⟨b, es, cl, r, since, c0, seen, q1, q2, q3, q4⟩ := h5
          exact ⟨b, es, cl, r, since, c0, seen, q1, q2, hσ _ _ _ hj' q3, q4⟩
        · exact ⟨_, hle, trivial⟩
      | mpt k v x hs =>
        rw [hoi] at h1
        have h5 : ORep (m.add G) ρ (.mpt k v x hs) u f := ORep.mono hle (fun _ _ h => h) h1
        simp only [coeO]
        split
        · rename_i hall
          rw [List.all_eq_true] at hall
          obtain ⟨h0, h00, b, es, cl, fs, q1, q2, q3, q4, q5, q6⟩ := h5
          have key : ∀ (z : k.den) (j : Nat), (z, j) ∈ hs.map (fun q => (q.1, (posN σ q.2).getD 0)) → ∃ n, (z, n) ∈ hs ∧ ∀ u, ρ[n]? = some u → ρ'[j]? = some u := by
            intro z j hz
            obtain ⟨q, hq, he⟩ := List.mem_map.1 hz
            rw [Prod.mk.injEq] at he
            refine ⟨q.2, by rw [← he.1]; exact hq, fun u hu => ?_⟩
            obtain ⟨j', hj⟩ := Option.isSome_iff_exists.1 (hall _ hq)
            have := he.2
            rw [hj, Option.getD_some] at this
            rw [← this]; exact hσ _ _ _ hj hu
          refine ⟨h0, fun q hq => ?_, b, es, cl, fs, q1, q2, q3, q4, q5, fun i p e g a1 a2 a3 => ?_⟩
          · obtain ⟨n, hn, hr⟩ := key q.1 q.2 hq
            exact (h00 _ hn).tr hr
          · obtain ⟨b1, b2, b3⟩ := q6 i p e g a1 a2 a3
            refine ⟨b1, fun j hj => ?_, fun hn => b3 fun n hm => ?_⟩
            · obtain ⟨n, hn, hr⟩ := key _ _ hj
              exact ⟨(b2 n hn).1, hr _ (b2 n hn).2⟩
            · exact hn _ (List.mem_map.2 ⟨(p.1, n), hm, rfl⟩)
        · exact ⟨_, hle, trivial⟩
    rcases h2 with h2 | ⟨T, cs', cs, h4, h5, h6⟩
    · rw [h2]; exact h3
    · rw [h4]
      rw [h5] at h3
      obtain ⟨b, us, q1, q2, q3, q4⟩ := h3
      exact ⟨b, us, q1, q2, cvL_rep h6 q3, q4⟩

section
variable {P : Program} {N : Ev} {X : Cx} {Q : APost} {st : AS}
theorem awc_wk {c : Code} {st' : AS} (h : Wk X st st') (k : AWC P N X c Q st') : AWC P N X c Q st := fun fr w m ρ φ hc => let ⟨_, _, _, h1⟩ := h fr w m ρ φ hc; k _ _ _ _ _ h1
theorem awl_wk {ops : Array Oper} {rest : List Oper} {st' : AS} (h : Wk X st st') (k : AWL P N X ops Q rest st') : AWL P N X ops Q rest st := fun fr w m ρ φ hc => let ⟨_, _, _, h1⟩ := h fr w m ρ φ hc; k _ _ _ _ _ h1

/-- A nil slice that the call will own. -/
theorem wk_own {t : Nat} (E : TypeId) (ty : Ty) (hx : st.l.look t = some .nils) : Wk X st (st.new t (.osl st.n) (.sl E ty [])) := by
  intro fr w m ρ φ hc
  obtain ⟨v, h1, h2⟩ := hc.slots t _ hx
  simp only [RepA] at h2
  subst h2
  have h3 := hc.newObj (d := t) (av := .osl st.n) (v := .slice none 0 0) (h := .slice none 0 0) (o := .sl E ty []) (f := []) (Mem.le_refl _) (by simpa using hc.sh) ⟨by simp, .inl ⟨rfl, rfl, rfl⟩⟩ (by simp only [RepA]; exact ⟨by rw [← hc.nρ]; simp, rfl⟩)
  refine ⟨m, _, _, h3.mle, h3.pre, h3.nρ, h3.nφ, ?_, h3.objs, h3.sh⟩
  intro q a hq
  obtain ⟨v, h4, h5⟩ := h3.slots q a hq
  rw [Fr.look_cons] at h4
  split at h4
  · rename_i e; subst e; cases h4; exact ⟨_, h1, h5⟩
  · exact ⟨v, h4, h5⟩

/-! loops -/
/-- Rounds until it is left, at most so many. -/
def lrun {S R : Type} (b : S → Option (S ⊕ R)) : Nat → S → Option R
  | 0, _ => none
  | k + 1, s => (b s).bind fun o => match o with
    | .inl s' => lrun b k s'
    | .inr r => some r
def loopQ {S R : Type} (X : Cx) (Inv : S → AS) (Qx : R → APost) : S ⊕ R → APost
  | .inl s', .normal, st => Wk X st (Inv s')
  | .inl _, _, _ => False
  | .inr _, .normal, _ => False
  | .inr r, e, st => Qx r e st
theorem awc_loop {S R : Type} {c : Code} (Inv : S → AS) (b : S → Option (S ⊕ R)) (Qx : R → APost) {k : Nat} {s : S} {r : R} (hr : lrun b k s = some r) (hi : Wk X st (Inv s)) (hQ : ∀ e st, Qx r e st → Q e st)
    (body : ∀ s o, b s = some o → AWC P N X c (loopQ X Inv Qx o) (Inv s)) : AWC P N X (.loop c) Q st := by
  intro fr w m ρ φ hc
  obtain ⟨m1, ρ1, φ1, h1⟩ := hi fr w m ρ φ hc
  intro a ha hg
  refine wpIn_loopG (fun (x : S × Nat) a w => ∃ fr, lrun b x.2 x.1 = some r ∧ (∃ m ρ φ, Conc X (Inv x.1) fr w m ρ φ) ∧ Holds N fr a ∧ Eng.Good N a w) (fun x => x.2) (s, k) ⟨fr, hr, ⟨_, _, _, h1⟩, ha, hg⟩ ?_
  rintro ⟨s, k⟩ a w ⟨fr, hr, ⟨m, ρ, φ, hc⟩, ha, hg⟩
  cases k with
  | zero => simp [lrun] at hr
  | succ k =>
    simp only [lrun] at hr
    obtain ⟨o, ho, hr⟩ := Option.bind_eq_some_iff.1 hr
    refine wpIn_mono (body s o ho fr w m ρ φ hc a ha hg) ?_
    rintro e a' w' ⟨l', hl', g', st', m', ρ', φ', h2, h3⟩
    cases o with
    | inl s' =>
      cases e with
      | normal =>
        obtain ⟨m2, ρ2, φ2, h4⟩ := h3 _ _ _ _ _ h2
        exact ⟨(s', k), ⟨l', hr, ⟨m2, ρ2, φ2, h4⟩, hl', g'⟩, Nat.lt_succ_self k⟩
      | _ => exact h3.elim
    | inr r' =>
      simp only [Option.some.injEq] at hr
      subst hr
      cases e with
      | normal => exact h3.elim
      | _ => exact ⟨l', hl', g', st', m', ρ', φ', h2, hQ _ _ h3⟩
end
end Go.Ab


set_option linter.unusedVariables false
set_option linter.unusedSimpArgs false
namespace Go.Ab
open Go.RowKit Go.Shelf Go.Proofs Go.Eng

/-! the end of a function -/
def retW (P : Program) (X : Cx) (rs : List ResultVar) (k : Nat) (R : List AV → List AO → Prop) : APost
  | .normal, st | .ret, st => ∃ st', Wk X st st' ∧ aretQ P rs k R .normal st'
  | _, _ => False
theorem runs_w {P : Program} {f : FuncId} {fn : Func} {c : Code} {n : Nat} {args : List AV} {H : List AO} {R : List AV → List AO → Prop} {rs : List ResultVar} (hf : P.funcs[f]? = some fn) (hN : fn.ntmps = n) (hb : fn.body = some c) (hr : fn.results = rs.toArray) (hle : Nat.ble args.length n = true)
    (h : ∀ (w0 : World) (X : Cx), X.ρ.length = H.length → AWC P ⟨n, none, w0, none, false⟩ X c (retW P X rs H.length R) ⟨argA 0 args, zipH 0 H, H.length⟩) : Runs P f args H R := by
  refine runs_of hf hN hb hr hle fun w0 X hX fr w m ρ φ hc => WC.mono ?_ (h w0 X hX fr w m ρ φ hc)
  rintro e l w ⟨st, m, ρ, φ, h1, h2⟩
  cases e with
  | normal => obtain ⟨st', h3, h4⟩ := h2; obtain ⟨m', ρ', φ', h5⟩ := h3 _ _ _ _ _ h1; exact ⟨st', m', ρ', φ', h5, h4⟩
  | ret => obtain ⟨st', h3, h4⟩ := h2; obtain ⟨m', ρ', φ', h5⟩ := h3 _ _ _ _ _ h1; exact ⟨st', m', ρ', φ', h5, h4⟩
  | _ => exact h2.elim
theorem ret_q {P : Program} {X : Cx} {rs : List ResultVar} {st : AS} {as' r : List AV} {l' : AFr} (h : Wk X st ⟨l', [], 0⟩) (hr : as' = r) (ho : AOuts P l' rs as') : retW P X rs 0 (fun q H' => q = r ∧ H' = []) .ret st :=
  ⟨⟨l', [], 0⟩, h, as', _, ho, rfl, rfl, hr, rfl⟩
theorem retW_norm {P : Program} {X : Cx} {rs : List ResultVar} {k : Nat} {R : List AV → List AO → Prop} {st : AS} (h : retW P X rs k R .ret st) : retW P X rs k R .normal st := h

/-! regions whose order is drawn, or whose operations are guarded -/
abbrev TT := Bool × AV
def phi (e : World) (m : Mem) (ρ : List Value) (f : Frag) (T : TT) : VP := fun v W => (T.1 = true → ∃ m', m.le m' ∧ SH e W m' f ∧ RepA m' ρ T.2 v) ∧ (T.1 = false → v = undef)
def dstAt (ops : List Oper) (j : Nat) : Nat := match ops[j]? with
  | some o => o.dst.getD 0
  | none => 0
def ttAt (Ts : List TT) (j : Nat) : TT := match Ts[j]? with
  | some T => T
  | none => (false, .bad)
def allT (Ts : List TT) : List Nat → Prop
  | [] => True
  | j :: r => (ttAt Ts j).1 = true ∧ allT Ts r
theorem allT_of {Ts : List TT} : ∀ {js : List Nat}, allT Ts js → ∀ j ∈ js, (ttAt Ts j).1 = true := by
  intro js
  induction js with
  | nil => intro _ j h; simp at h
  | cons a r ih =>
    intro h j hj
    rcases List.mem_cons.1 hj with rfl | hj
    · exact h.1
    · exact ih h.2 j hj
/-- The frame with what is asked about. -/
def depF (ops : List Oper) (Ts : List TT) : List Nat → AFr → AFr
  | [], l => l
  | j :: r, l => depF ops Ts r ((dstAt ops j, (ttAt Ts j).2) :: l)
def keepF (l : AFr) : List Nat → AFr
  | [] => []
  | t :: r => (t, match l.look t with
    | some a => a
    | none => .bad) :: keepF l r

/-- What holds of a frame behind the values asked about. -/
inductive DF (ops : List Oper) (Φ : Nat → VP) (W : World) : List Nat → Fr → Fr → Prop
  | nil {l : Fr} : DF ops Φ W [] l l
  | cons {j : Nat} {r : List Nat} {l l' : Fr} {v : Value} : Φ j v W → DF ops Φ W r ((dstAt ops j, v) :: l) l' → DF ops Φ W (j :: r) l l'

theorem gather_df {ops : List Oper} {Φs : List VP} {Φ : Nat → VP} {W : World} {K : Fr → Prop} (hΦ : ∀ j o, ops[j]? = some o → Φs[j]? = some (Φ j)) : ∀ {js : List Nat} {l : Fr}, (js.all fun j => match ops[j]? with
    | some o => o.dst.isSome
    | none => false) = true → (∀ l', DF ops Φ W js l l' → K l') → Gather (depAt ops Φs js) l W K := by
  intro js
  induction js with
  | nil => intro l _ h; exact h l .nil
  | cons j r ih =>
    intro l hd h
    simp only [List.all_cons, Bool.and_eq_true] at hd
    obtain ⟨hd1, hd2⟩ := hd
    split at hd1
    · rename_i o ho
      obtain ⟨d, hd⟩ := Option.isSome_iff_exists.1 hd1
      have e1 : (ops[j]?).bind (·.dst) = some d := by rw [ho]; exact hd
      have e2 : (Φs[j]?).getD (fun _ _ => True) = Φ j := by rw [hΦ j o ho]; rfl
      have e3 : dstAt ops j = d := by simp [dstAt, ho, hd]
      simp only [depAt, List.map_cons, e1, e2]
      intro v hv
      refine ih hd2 fun l' hl => h l' (.cons hv ?_)
      rw [e3]; exact hl
    · cases hd1

theorem DF.keep {ops : List Oper} {Φ : Nat → VP} {W : World} {js : List Nat} {l l' : Fr} (h : DF ops Φ W js l l') : ∀ {t : Nat} {v : Value}, l.look t = some v → (∀ j ∈ js, dstAt ops j ≠ t) → l'.look t = some v := by
  induction h with
  | nil => intro t v h _; exact h
  | cons hv _ ih =>
    intro t v h hn
    refine ih ?_ (fun j hj => hn j (by simp [hj]))
    rw [Fr.look_cons, if_neg (hn _ (by simp))]; exact h
theorem DF.look {ops : List Oper} {Φ : Nat → VP} {W : World} {js : List Nat} {l l' : Fr} (h : DF ops Φ W js l l') : (js.map (dstAt ops)).Nodup → ∀ {j : Nat}, j ∈ js → ∃ v, l'.look (dstAt ops j) = some v ∧ Φ j v W := by
  induction h with
  | nil => intro _ j hj; simp at hj
  | @cons i r l l' v hv hr ih =>
    intro hn j hj
    rw [List.map_cons, List.nodup_cons] at hn
    by_cases e : j ∈ r
    · exact ih hn.2 e
    · have : j = i := by rcases List.mem_cons.1 hj with h | h; exact h; exact absurd h e
      subst this
      refine ⟨v, hr.keep (by rw [Fr.look_cons, if_pos rfl]) ?_, hv⟩
      intro q hq e'
      exact hn.1 (e' ▸ List.mem_map.2 ⟨q, hq, rfl⟩)

/-- Two readings of one memory. -/
def Mem.sup (a b : Mem) : Mem := fun k => match a k with
  | some o => some o
  | none => b k
theorem sup_sh {e W : World} {a b : Mem} {f : Frag} (h : SH e W a f) (k : SH e W b f) : SH e W (a.sup b) f ∧ a.le (a.sup b) ∧ b.le (a.sup b) := by
  refine ⟨⟨h.os, h.tape, h.output, ?_, h.own, h.nd, ?_, h.noctl, ?_⟩, fun x o hx => by simp [Mem.sup, hx], ?_⟩
  · intro x o hx
    unfold Mem.sup at hx
    split at hx
    · rename_i o' ho; cases hx; exact h.fz _ _ ho
    · exact k.fz _ _ hx
  · intro p hp
    unfold Mem.sup
    rw [h.dis p hp]; exact k.dis p hp
  · intro x o hx
    unfold Mem.sup at hx
    split at hx
    · rename_i o' ho; cases hx; exact h.mctl _ _ ho
    · exact k.mctl _ _ hx
  · intro x o hx
    unfold Mem.sup
    cases ha : a x with
    | none => exact hx
    | some o' =>
      have h1 := h.fz _ _ ha
      have h2 := k.fz _ _ hx
      rw [h1] at h2; exact h2

section
variable {P : Program} {N : Ev} {X : Cx} {Q : APost} {st : AS}

theorem conc_df {ops : List Oper} {Ts : List TT} {W : World} {m : Mem} {ρ : List Value} {φ : List Frag} {H : AH} {n : Nat} {js : List Nat} {l l' : Fr} (h : DF ops (fun j => phi X.e m ρ (φ.flatten ++ X.F) (ttAt Ts j)) W js l l') : ∀ {lA : AFr} {m1 : Mem}, m.le m1 → Conc X ⟨lA, H, n⟩ l W m1 ρ φ → (∀ j ∈ js, (ttAt Ts j).1 = true) → ∃ m', m.le m' ∧ Conc X ⟨depF ops Ts js lA, H, n⟩ l' W m' ρ φ := by
  induction h with
  | nil => intro lA m1 hm hc _; exact ⟨m1, hm, hc⟩
  | @cons j r l l' v hv _ ih =>
    intro lA m1 hm hc ht
    obtain ⟨m2, h2, h3, h4⟩ := hv.1 (ht j (by simp))
    obtain ⟨h5, h6, h7⟩ := sup_sh hc.sh h3
    have hc' : Conc X (AS.put ⟨lA, H, n⟩ (dstAt ops j) (ttAt Ts j).2) ((dstAt ops j, v) :: l) W (m1.sup m2) ρ φ := (hc.grow h6 h5).put (RepA.mono h7 (fun _ _ h => h) _ h4)
    exact ih (hm.trans h6) hc' (fun q hq => ht q (by simp [hq]))

/-- What is owed of an operation. -/
def AOb (P : Program) (N : Ev) (X : Cx) (ops : List Oper) (Ts : List TT) (lA : AFr) (H : AH) (n : Nat) (o : Oper) (T : TT) (js : List Nat) : Prop :=
  ∀ (Q : Post) lb W m0 m ρ φ, m0.le m → Conc X ⟨lA, H, n⟩ lb W m ρ φ → ∀ l', DF ops (fun j => phi X.e m0 ρ (φ.flatten ++ X.F) (ttAt Ts j)) W js lb l' →
    OpG P N (fun w W => Below w.heap.size w W) ops o (phi X.e m0 ρ (φ.flatten ++ X.F) T) Q l' W

def guardOk (ops : List Oper) (Ts : List TT) (o : Oper) (T : TT) (js : List Nat) : Prop := match o.guard with
  | none => T.1 = true
  | some (j, b) => memB j js = true ∧ nodupB (js.map (dstAt ops)) = true ∧ (match ops[j]? with
    | some o => o.dst.isSome
    | none => false) = true ∧ ∃ c, (ttAt Ts j).2 = .bool c ∧ T.1 = ((ttAt Ts j).1 && (bif b then c else !c))

theorem opg_of {ops : List Oper} {Ts : List TT} {lA : AFr} {H : AH} {n : Nat} {o : Oper} {T : TT} {js : List Nat} (hg : guardOk ops Ts o T js)
    (h : T.1 = true → ∀ (Q : Post) lb W m0 m ρ φ, m0.le m → Conc X ⟨lA, H, n⟩ lb W m ρ φ → ∀ l', DF ops (fun j => phi X.e m0 ρ (φ.flatten ++ X.F) (ttAt Ts j)) W js lb l' →
      OpW P N o (fun l'' W' => toldL o (phi X.e m0 ρ (φ.flatten ++ X.F) T) l'' W' ∧ Below W.heap.size W W') Q l' W) : AOb P N X ops Ts lA H n o T js := by
  intro Q lb W m0 m ρ φ hm hc l' hd
  unfold OpG
  unfold guardOk at hg
  cases ho : o.guard with
  | none => rw [ho] at hg; exact h hg Q lb W m0 m ρ φ hm hc l' hd
  | some p =>
    obtain ⟨j, b⟩ := p
    rw [ho] at hg
    simp only at hg
    obtain ⟨h1, h2, h3, c, h4, h5⟩ := hg
    obtain ⟨v, hv, hφ⟩ := hd.look (nodup_of h2) (memB_iff.1 h1)
    split at h3
    · rename_i o' ho'
      obtain ⟨d, hdd⟩ := Option.isSome_iff_exists.1 h3
      have e3 : dstAt ops j = d := by simp [dstAt, ho', hdd]
      rw [e3] at hv
      refine ⟨v, by rw [ho']; simp [hdd, hv], fun hvb => h ?_ Q lb W m0 m ρ φ hm hc l' hd, fun hvb => ⟨fun hT => absurd ?_ hvb, fun _ => rfl⟩⟩
      · rw [h5]
        cases hg : (ttAt Ts j).1 with
        | false => have := hφ.2 hg; rw [hvb] at this; exact absurd this.symm undef_ne
        | true =>
          obtain ⟨m', _, _, hr⟩ := hφ.1 hg
          rw [h4] at hr
          simp only [RepA] at hr
          rw [hvb] at hr
          cases hr
          cases b <;> rfl
      · rw [h5, Bool.and_eq_true] at hT
        obtain ⟨m', _, _, hr⟩ := hφ.1 hT.1
        rw [h4] at hr
        simp only [RepA] at hr
        have := hT.2
        cases b <;> simp at this <;> subst this <;> exact hr
    · cases h3

/-- An operation that gives a value. -/
theorem ob_v {ops : List Oper} {Ts : List TT} {lA : AFr} {H : AH} {n : Nat} {o : Oper} {T : TT} {js : List Nat} (hg : guardOk ops Ts o T js) (hall : T.1 = true → ∀ j ∈ js, (ttAt Ts j).1 = true)
    (h : T.1 = true → AOpV P N X o T.2 ⟨depF ops Ts js lA, H, n⟩) : AOb P N X ops Ts lA H n o T js := by
  refine opg_of hg fun hT Q lb W m0 m ρ φ hm hc l' hd => ?_
  obtain ⟨m', h1, h2⟩ := conc_df hd hm hc (hall hT)
  intro a ha hgd
  refine Oper.wpIn_mono ?_ (h hT Q l' W m' ρ φ h2 a ha hgd)
  rintro a w' ⟨l'', hl'', g'', ⟨d, v, hdd, rfl, hb, m'', hm'', hs, hr⟩⟩
  refine ⟨_, hl'', g'', told hdd (by rw [Fr.look_cons, if_pos rfl]) ⟨fun _ => ⟨m'', h1.trans hm'', hs, hr⟩, fun hf => ?_⟩, hb⟩
  rw [hT] at hf; cases hf

/-- 'p && q', 'p || q': the second one is asked about where it counts. -/
theorem ob_pick {ops : List Oper} {Ts : List TT} {lA : AFr} {H : AH} {n : Nat} {d U : Nat} {pos : String} {aft : Array Edge} {g : Option (Nat × Bool)} {c x y : Operand} {T : TT} {js js' : List Nat} {jq : Nat} {p q b : Bool}
    (hg : guardOk ops Ts ⟨some d, .pick c x y, U, pos, aft, g⟩ T js) (hjs : js = jq :: js') (hnd : nodupB (js.map (dstAt ops)) = true) (hall : T.1 = true → ∀ j ∈ js', (ttAt Ts j).1 = true)
    (hT2 : T.2 = .bool (bif b then p && q else p || q)) (hc : aev (depF ops Ts js' ((dstAt ops jq, .any) :: lA)) c = some (.bool p)) (hq : ttAt Ts jq = (T.1 && (bif b then p else !p), .bool q)) (hx : (bif b then x else y) = .tmp (dstAt ops jq)) (hy : (bif b then y else x) = .const (.bool (!b))) (hN : Nat.blt d N.n = true := by rfl) :
    AOb P N X ops Ts lA H n ⟨some d, .pick c x y, U, pos, aft, g⟩ T js := by
  refine opg_of hg fun hT Q lb W m0 m ρ φ hm hcc l' hd => ?_
  subst hjs
  obtain ⟨v, hv, hφ⟩ := hd.look (nodup_of hnd) (j := jq) (by simp)
  cases hd with
  | @cons _ _ _ _ v' hv' hr' =>
  have h1 : Conc X (AS.put ⟨lA, H, n⟩ (dstAt ops jq) .any) ((dstAt ops jq, v') :: lb) W m ρ φ := hcc.put (by simp only [RepA])
  obtain ⟨m', h2, h3⟩ := conc_df hr' hm h1 (hall hT)
  have h4 := h3.bool hc
  have hvq : (bif b then p else !p) = true → v = .bool q := by
    intro hb
    have e1 : (ttAt Ts jq).1 = true := by rw [hq]; simp only; rw [hT, hb]; rfl
    obtain ⟨_, _, _, hr⟩ := hφ.1 e1
    rw [hq] at hr
    simpa only [RepA] using hr
  have hres : toldL (⟨some d, .pick c x y, U, pos, aft, g⟩ : Oper) (phi X.e m0 ρ (φ.flatten ++ X.F) T) ((d, .bool (bif b then p && q else p || q)) :: l') W ∧ Below W.heap.size W W := by
    refine ⟨told rfl (by rw [Fr.look_cons, if_pos rfl]) ⟨fun _ => ⟨m', h2, h3.sh, by rw [hT2]; simp only [RepA]⟩, fun hf => ?_⟩, Below.refl _ _⟩
    rw [hT] at hf; cases hf
  refine op_pick (v := .bool (bif b then p && q else p || q)) h4 (fun hp => ?_) (fun hp => ?_) hN hres
  · subst hp
    cases b with
    | true =>
      simp only [cond_true] at hx ⊢
      rw [hx]
      show l'.look _ = _
      rw [hv, hvq rfl]; simp
    | false =>
      simp only [cond_false] at hy ⊢
      rw [hy]; simp [evo]
  · subst hp
    cases b with
    | true =>
      simp only [cond_true] at hy ⊢
      rw [hy]; simp [evo]
    | false =>
      simp only [cond_false] at hx ⊢
      rw [hx]
      show l'.look _ = _
      rw [hv, hvq rfl]; simp

/-- What is owed of all operations. -/
def AObs (P : Program) (N : Ev) (X : Cx) (ops : List Oper) (Ts : List TT) (lA : AFr) (H : AH) (n : Nat) : List Oper → List TT → List (List Nat) → Prop
  | o :: os, T :: r, js :: jss => AOb P N X ops Ts lA H n o T js ∧ AObs P N X ops Ts lA H n os r jss
  | [], [], [] => True
  | _, _, _ => False

/-- The check of EngD, of the slots that are kept. -/
def drawOkK (N : Nat) (ops : List Oper) (dep : List (List Nat)) (ks : List Nat) : Bool :=
  (ops.all fun o => o.dst.isNone || (Nat.blt (dstOf o) N && !memB (dstOf o) ks)) &&
  ((ops.zipIdx).all fun (o, i) => (ops.zipIdx).all fun (o', i') => Nat.beq i i' || (o.dst.isNone || (o'.dst.isNone || !Nat.beq (dstOf o) (dstOf o')))) && Nat.beq dep.length ops.length &&
  ((ops.zip dep).all fun (o, js) => js.all fun j => o.after.toList.any fun e => Region.binds .any e && Nat.beq e.on j) &&
  ((ops.zipIdx).all fun (o, i) => o.after.toList.all fun e => !Region.binds .any e || Nat.blt e.on i)
theorem look_keys : ∀ {l : Fr} {d : Nat}, (l.look d).isNone = !memB d (l.map (·.1)) := by
  intro l
  induction l with
  | nil => intro d; rfl
  | cons p l ih =>
    intro d
    obtain ⟨t, v⟩ := p
    rw [Fr.look_cons]
    simp only [List.map_cons, memB]
    by_cases h : t = d
    · subst h; simp
    · rw [if_neg h]
      have : Nat.beq d t = false := by rw [Bool.eq_false_iff]; intro hc; exact h (Nat.eq_of_beq_eq_true hc).symm
      rw [this, Bool.false_or]; exact ih
theorem draw_keys {N : Nat} {ops : List Oper} {dep : List (List Nat)} {l : Fr} (h : drawOkK N ops dep (l.map (·.1)) = true) : drawOk N ops dep l = true := by
  unfold drawOkK at h
  unfold drawOk
  simp only [look_keys]
  exact h

/-- The concrete frame of the slots that are kept. -/
theorem keep_conc {fr : Fr} {w : World} {m : Mem} {ρ : List Value} {φ : List Frag} (hc : Conc X st fr w m ρ φ) : ∀ {ks : List Nat}, (ks.all fun t => (st.l.look t).isSome) = true → ∃ lb : Fr, lb.map (·.1) = ks ∧ Sub lb fr ∧ Conc X ⟨keepF st.l ks, st.H, st.n⟩ lb w m ρ φ := by
  intro ks
  induction ks with
  | nil => intro _; exact ⟨[], rfl, trivial, hc.mle, hc.pre, hc.nρ, hc.nφ, fun t a h => by simp [keepF, AFr.look] at h, hc.objs, hc.sh⟩
  | cons t r ih =>
    intro h
    simp only [List.all_cons, Bool.and_eq_true] at h
    obtain ⟨lb, h1, h2, h3⟩ := ih h.2
    obtain ⟨a, ha⟩ := Option.isSome_iff_exists.1 h.1
    obtain ⟨v, h4, h5⟩ := hc.slots t a ha
    refine ⟨(t, v) :: lb, by simp [h1], ⟨h4, h2⟩, ?_⟩
    have : keepF st.l (t :: r) = (t, a) :: keepF st.l r := by simp only [keepF, ha]
    rw [this]
    exact h3.put (st := ⟨keepF st.l r, st.H, st.n⟩) h5

theorem phi_mono {e : World} {m : Mem} {ρ : List Value} {f : Frag} {T : TT} : Mono (fun w W => Below w.heap.size w W) (phi e m ρ f T) := by
  intro v W W' hb h
  exact ⟨fun hT => let ⟨m', h1, h2, h3⟩ := h.1 hT; ⟨m', h1, h2.ext hb, h3⟩, h.2⟩
theorem monos_phi {e : World} {m : Mem} {ρ : List Value} {f : Frag} : ∀ (Ts : List TT), Monos (fun w W => Below w.heap.size w W) (Ts.map (phi e m ρ f)) := by
  intro Ts
  induction Ts with
  | nil => trivial
  | cons T r ih => exact ⟨phi_mono, ih⟩
theorem phi_at {e : World} {m : Mem} {ρ : List Value} {f : Frag} {Ts : List TT} {ops : List Oper} (hl : Ts.length = ops.length) : ∀ (j : Nat) (o : Oper), ops[j]? = some o → (Ts.map (phi e m ρ f))[j]? = some (phi e m ρ f (ttAt Ts j)) := by
  intro j o hj
  have hlt := (List.getElem?_eq_some_iff.1 hj).1
  have h1 : Ts[j]? = some (Ts[j]'(by omega)) := List.getElem?_eq_getElem (by omega)
  rw [List.getElem?_map, h1]
  simp [ttAt, h1]

def depsOk (ops : List Oper) (dep : List (List Nat)) : Bool := dep.all fun js => js.all fun j => match ops[j]? with
  | some o => o.dst.isSome
  | none => false
theorem obs_of {ops : List Oper} {Ts : List TT} {lA : AFr} {H : AH} {n : Nat} {lb : Fr} {w : World} {m : Mem} {ρ : List Value} {φ : List Frag} {Q' : Post} (hl : Ts.length = ops.length) (hc : Conc X ⟨lA, H, n⟩ lb w m ρ φ) : ∀ {os : List Oper} {r : List TT} {jss : List (List Nat)}, depsOk ops jss = true → AObs P N X ops Ts lA H n os r jss →
    Obs P N (fun w W => Below w.heap.size w W) ops (Ts.map (phi X.e m ρ (φ.flatten ++ X.F))) Q' lb w os (r.map (phi X.e m ρ (φ.flatten ++ X.F))) jss := by
  intro os
  induction os with
  | nil => intro r jss _ h; unfold Obs; trivial
  | cons o os ih =>
    intro r jss hd h
    cases r with
    | nil => cases jss <;> trivial
    | cons T r => cases jss with
      | nil => trivial
      | cons js jss =>
        simp only [depsOk, List.all_cons, Bool.and_eq_true] at hd
        refine ⟨fun W hW => ?_, ih hd.2 h.2⟩
        exact gather_df (phi_at hl) hd.1 fun l' hl' => h.1 Q' lb W m m ρ φ (Mem.le_refl _) (hc.grow (Mem.le_refl _) (hc.sh.ext hW)) l' hl'

/-- A region whose order is drawn. -/
theorem awc_draw {id : Nat} {ops : List Oper} (hm : P.follows .mixedOrders = true) (ks : List Nat) (Ts : List TT) (dep : List (List Nat)) (live : List Nat) (hks : (ks.all fun t => (st.l.look t).isSome) = true) (hok : drawOkK N.n ops dep ks = true) (hTs : Nat.beq Ts.length ops.length = true) (hlv : (live.all fun i => Nat.blt i ops.length) = true) (hdp : depsOk ops (live :: dep) = true)
    (hob : AObs P N X ops Ts (keepF st.l ks) st.H st.n ops Ts dep) (hall : ∀ j ∈ live, (ttAt Ts j).1 = true) (k : Q .normal ⟨depF ops Ts live (keepF st.l ks), st.H, st.n⟩) : AWC P N X (.region id ops.toArray true) Q st := by
  intro fr w m ρ φ hc
  obtain ⟨lb, h1, h2, h3⟩ := keep_conc hc hks
  have hl := Nat.eq_of_beq_eq_true hTs
  simp only [depsOk, List.all_cons, Bool.and_eq_true] at hdp
  refine wc_draw hm lb h2 (Ts.map (phi X.e m ρ (φ.flatten ++ X.F))) dep live (draw_keys (by rw [h1]; exact hok)) (by rw [List.length_map]; exact hTs) hlv (monos_phi Ts) (obs_of hl h3 hdp.2 hob) ?_
  intro W hW
  refine gather_df (phi_at hl) hdp.1 fun l' hl' => ?_
  obtain ⟨m', h4, h5⟩ := conc_df hl' (Mem.le_refl _) (h3.grow (Mem.le_refl _) (h3.sh.ext hW)) hall
  exact ⟨_, m', ρ, φ, h5, k⟩
/-- A region in the text's order, with guards. -/
theorem awc_text {id : Nat} {ops : List Oper} (ks : List Nat) (Ts : List TT) (dep : List (List Nat)) (live : List Nat) (hks : (ks.all fun t => (st.l.look t).isSome) = true) (hok : drawOkK N.n ops dep ks = true) (hTs : Nat.beq Ts.length ops.length = true) (hlv : (live.all fun i => Nat.blt i ops.length) = true) (hdp : depsOk ops (live :: dep) = true)
    (hob : AObs P N X ops Ts (keepF st.l ks) st.H st.n ops Ts dep) (hall : ∀ j ∈ live, (ttAt Ts j).1 = true) (k : Q .normal ⟨depF ops Ts live (keepF st.l ks), st.H, st.n⟩) : AWC P N X (.region id ops.toArray false) Q st := by
  intro fr w m ρ φ hc
  obtain ⟨lb, h1, h2, h3⟩ := keep_conc hc hks
  have hl := Nat.eq_of_beq_eq_true hTs
  simp only [depsOk, List.all_cons, Bool.and_eq_true] at hdp
  refine wc_text lb h2 (Ts.map (phi X.e m ρ (φ.flatten ++ X.F))) dep live (draw_keys (by rw [h1]; exact hok)) (by rw [List.length_map]; exact hTs) hlv (monos_phi Ts) (obs_of hl h3 hdp.2 hob) ?_
  intro W hW
  refine gather_df (phi_at hl) hdp.1 fun l' hl' => ?_
  obtain ⟨m', h4, h5⟩ := conc_df hl' (Mem.le_refl _) (h3.grow (Mem.le_refl _) (h3.sh.ext hW)) hall
  exact ⟨_, m', ρ, φ, h5, k⟩
end
end Go.Ab


set_option linter.unusedVariables false
set_option linter.unusedSimpArgs false
namespace Go.Ab
open Go.RowKit Go.Shelf Go.Proofs Go.Eng

/-! maps -/
def mget {α β : Type} [DecidableEq α] : List (α × β) → α → Option β
  | [], _ => none
  | p :: r, k => if k = p.1 then some p.2 else mget r k
def mset {α β : Type} [DecidableEq α] : List (α × β) → α → β → List (α × β)
  | [], k, v => [(k, v)]
  | p :: r, k, v => if k = p.1 then (k, v) :: r else p :: mset r k v
theorem mset_keys {α β : Type} [DecidableEq α] : ∀ (x : List (α × β)) (k : α) (v : β), (mset x k v).map (·.1) = if k ∈ x.map (·.1) then x.map (·.1) else x.map (·.1) ++ [k] := by
  intro x k v
  induction x with
  | nil => simp [mset]
  | cons p r ih =>
    simp only [mset]
    by_cases h : k = p.1
    · rw [if_pos h]; simp [h]
    · rw [if_neg h, List.map_cons, ih]
      simp only [List.map_cons, List.mem_cons, h, false_or]
      split <;> simp
theorem mset_nodup {α β : Type} [DecidableEq α] {x : List (α × β)} (k : α) (v : β) (h : (x.map (·.1)).Nodup) : ((mset x k v).map (·.1)).Nodup := by
  rw [mset_keys]
  split
  · exact h
  · rename_i hn
    rw [List.nodup_append]
    exact ⟨h, by simp, fun a ha b hb e => by simp at hb; subst hb e; exact hn ha⟩
/-- Entries, one for each pair. -/
def EntL (m : Mem) (tk tv : Ty) : List (tk.den × tv.den) → List MapEntry → Prop
  | [], [] => True
  | p :: x, e :: es => (RV m tk p.1 e.key ∧ RV m tv p.2 e.val) ∧ EntL m tk tv x es
  | _, _ => False
theorem ent_of {m : Mem} {tk tv : Ty} : ∀ {x : List (tk.den × tv.den)} {es : List MapEntry}, es.length = x.length → (∀ (i : Nat) (p : tk.den × tv.den) (e : MapEntry), x[i]? = some p → es[i]? = some e → RV m tk p.1 e.key ∧ RV m tv p.2 e.val) → EntL m tk tv x es := by
  intro x
  induction x with
  | nil => intro es h _; cases es with
    | nil => trivial
    | cons => simp at h
  | cons p x ih => intro es h k; cases es with
    | nil => simp at h
    | cons e es => exact ⟨k 0 p e rfl rfl, ih (by simpa using h) fun i p e hp he => k (i + 1) p e (by simpa using hp) (by simpa using he)⟩
theorem ent_get {m : Mem} {tk tv : Ty} : ∀ {x : List (tk.den × tv.den)} {es : List MapEntry}, EntL m tk tv x es → es.length = x.length ∧ ∀ (i : Nat) (p : tk.den × tv.den) (e : MapEntry), x[i]? = some p → es[i]? = some e → RV m tk p.1 e.key ∧ RV m tv p.2 e.val := by
  intro x
  induction x with
  | nil => intro es h; cases es with
    | nil => exact ⟨rfl, fun i p e hp => by simp at hp⟩
    | cons => exact h.elim
  | cons p x ih => intro es h; cases es with
    | nil => exact h.elim
    | cons e es =>
      obtain ⟨h1, h2⟩ := ih h.2
      refine ⟨by simp [h1], fun i q u hq hu => ?_⟩
      cases i with
      | zero => simp at hq hu; subst hq hu; exact h.1
      | succ i => exact h2 i q u (by simpa using hq) (by simpa using hu)

theorem rv_whole {m : Mem} {ρ : List Value} {t : Ty} {x : t.den} {v : Value} (h : RV m t x v) : RepA m ρ (whole t x) v := by
  unfold RV at h
  unfold whole
  split
  · rename_i ha
    rw [if_pos ha] at h
    obtain ⟨cs, rfl, h2⟩ := h
    simp only [RepA]
    exact ⟨cs, rfl, rc_expl h2, h2.one⟩
  · rename_i ha
    rw [if_neg ha] at h
    cases t with
    | int k => simp only [RC] at h; cases h; simp [expl, RepA]
    | bool => simp only [RC] at h; cases h; simp [expl, RepA]
    | str => simp only [RC] at h; cases h; simp [expl, RepA]
    | slice e => simpa [expl, RepA] using h
    | unit => simp [Ty.agg] at ha
    | pair a b => simp [Ty.agg] at ha
    | st a => simp [Ty.agg] at ha
    | arr n e => simp [Ty.agg] at ha
    | raw z => simp only [RC] at h; cases h; simp [expl, RepA]
    | map k v => simpa [expl, RepA] using h
theorem whole_rv {m : Mem} {ρ : List Value} {t : Ty} {x : t.den} {v : Value} (hno : t.fit x = true) (h : RepA m ρ (whole t x) v) : RV m t x v := by
  unfold whole at h
  unfold RV
  split
  · rename_i ha
    rw [if_pos ha] at h
    simp only [RepA] at h
    obtain ⟨us, rfl, h1, _⟩ := h
    exact ⟨us, rfl, rc_of_expl hno h1⟩
  · rename_i ha
    rw [if_neg ha] at h
    refine rc_of_expl (ρ := ρ) hno ?_
    cases t with
    | int k => simp only [expl, RepL]; exact ⟨by simpa [expl] using h, trivial⟩
    | bool => simp only [expl, RepL]; exact ⟨by simpa [expl] using h, trivial⟩
    | str => simp only [expl, RepL]; exact ⟨by simpa [expl] using h, trivial⟩
    | slice e => simp only [expl, RepL]; exact ⟨by simpa [expl] using h, trivial⟩
    | unit => simp [Ty.agg] at ha
    | pair a b => simp [Ty.agg] at ha
    | st a => simp [Ty.agg] at ha
    | arr n e => simp [Ty.agg] at ha
    | raw z => simp only [expl, RepL]; exact ⟨by simpa [expl] using h, trivial⟩
    | map k v => simp only [expl, RepL]; exact ⟨by simpa [expl] using h, trivial⟩

/-- How keys of a type are held against one another. -/
structure KeyT (P : Program) (kT : TypeId) (tk : Ty) [DecidableEq tk.den] : Prop where
  chk : ∀ (m : Mem) (k : tk.den) (v : Value) (b : Bool) (w : World), RV m tk k v → (Instr.checkKey b 10000 kT v).run P w = .ok () w
  find : ∀ (m : Mem) (k : tk.den) (v : Value) (tv : Ty) (x : List (tk.den × tv.den)) (es : List MapEntry) (w : World), RV m tk k v → EntL m tk tv x es →
    ∃ r, (Instr.findKey kT v es).run P w = .ok r w ∧ match r with
      | none => mget x k = none
      | some (i, u) => ∃ y, mget x k = some y ∧ RV m tv y u ∧ (x[i]?).map (·.1) = some k ∧ (∃ e : MapEntry, es[i]? = some e) ∧ ∀ j, j < i → (x[j]?).map (·.1) ≠ some k
  stays : ∀ (m : Mem) (k : tk.den) (u v : Value) (w : World), RV m tk k u → RV m tk k v → (Instr.keyThatStays u v).run P w = .ok v w

theorem key_now {P : Program} {kT : TypeId} {tk : Ty} [DecidableEq tk.den] {dsc : TypeDesc} (hU : P.underlying kT = some dsc) (hc : ∀ (m : Mem) (k : tk.den) (v : Value) (b : Bool) (w : World), RV m tk k v → (Instr.checkKey b 10000 kT v).run P w = .ok () w)
    (hs : ∀ (m : Mem) (k a : tk.den) (v u : Value), RV m tk k v → RV m tk a u → Instr.sameNow dsc v u = some (decide (k = a))) (hst : ∀ (m : Mem) (k : tk.den) (u v : Value) (w : World), RV m tk k u → RV m tk k v → (Instr.keyThatStays u v).run P w = .ok v w) : KeyT P kT tk := by
  refine ⟨hc, fun m k v tv x es w hk he => ?_, hst⟩
  have key : ∀ {x : List (tk.den × tv.den)} {es : List MapEntry} (i : Nat), EntL m tk tv x es → ∃ r, Instr.findNow dsc v es i = some r ∧ match r with
      | none => mget x k = none
      | some (q, u) => i ≤ q ∧ ∃ y, mget x k = some y ∧ RV m tv y u ∧ (x[q - i]?).map (·.1) = some k ∧ (∃ e : MapEntry, es[q - i]? = some e) ∧ ∀ j, j < q - i → (x[j]?).map (·.1) ≠ some k := by
    intro x
    induction x with
    | nil => intro es i h; cases es with
      | nil => exact ⟨none, rfl, rfl⟩
      | cons => exact h.elim
    | cons p x ih => intro es i h; cases es with
      | nil => exact h.elim
      | cons e es =>
        simp only [Instr.findNow, hs m k p.1 v e.key hk h.1.1]
        by_cases hkp : k = p.1
        · have hd : decide (k = p.1) = true := by simp [hkp]
          rw [hd]
          exact ⟨_, rfl, Nat.le_refl _, p.2, by simp [mget, hkp], h.1.2, by simp [hkp], ⟨e, by simp⟩, fun j hj => absurd hj (by omega)⟩
        · have hd : decide (k = p.1) = false := by simp [hkp]
          rw [hd]
          obtain ⟨r, h1, h2⟩ := ih (i + 1) h.2
          refine ⟨r, h1, ?_⟩
          cases r with
          | none => simp only [mget, if_neg hkp]; exact h2
          | some q =>
            obtain ⟨q, u⟩ := q
            obtain ⟨h3, y, h4, h5, h6, ⟨e', h7⟩, h8⟩ := h2
            have hq : q - i = (q - (i + 1)) + 1 := by omega
            refine ⟨by omega, y, by simp only [mget, if_neg hkp]; exact h4, h5, by rw [hq]; simpa using h6, ⟨e', by rw [hq]; simpa using h7⟩, fun j hj => ?_⟩
            cases j with
            | zero => simp; exact fun e => hkp e.symm
            | succ j => simpa using h8 j (by omega)
  obtain ⟨r, h1, h2⟩ := key 0 he
  refine ⟨r, by simp [Instr.findKey, run_underlying hU, h1], ?_⟩
  cases r with
  | none => exact h2
  | some q =>
    obtain ⟨q, u⟩ := q
    obtain ⟨_, y, h3, h4, h5, h6, h7⟩ := h2
    exact ⟨y, h3, h4, by simpa using h5, by simpa using h6, by simpa using h7⟩
theorem bstr_beq (s t : Str) : (bstr s == bstr t) = decide (s = t) := by
  show (s.toArray == t.toArray) = _
  by_cases h : s = t <;> simp [h]
theorem keyT_int {P : Program} {kT : TypeId} {k : IntKind} (hU : P.underlying kT = some (.int k)) : KeyT P kT (.int k) := by
  refine key_now hU (fun m z v b w h => ?_) (fun m z a v u hv hu => ?_) (fun m z u v w hu hv => ?_)
  · simp only [RV, Ty.agg, RC] at h; cases h
    rw [show (10000 : Nat) = 9999 + 1 from rfl]; unfold Instr.checkKey; simp [run_underlying hU]
  · simp only [RV, Ty.agg, RC] at hv hu; cases hv; cases hu
    simp only [Instr.sameNow, if_true, Option.some.injEq]
    by_cases e : z = a
    · subst e; simp
    · simp [e]
  · simp only [RV, Ty.agg, RC] at hv hu; cases hv; cases hu
    rw [show (Instr.keyThatStays (.int k z) (.int k z)) = (if Instr.sameBits 10000 (.int k z) (.int k z) then pure (.int k z) else _) from rfl]
    rw [show Instr.sameBits 10000 (.int k z) (.int k z) = (k == k && z == z) from rfl]
    simp
theorem keyT_str {P : Program} {kT : TypeId} (hU : P.underlying kT = some .string) : KeyT P kT .str := by
  refine key_now hU (fun m z v b w h => ?_) (fun m z a v u hv hu => ?_) (fun m z u v w hu hv => ?_)
  · simp only [RV, Ty.agg, RC] at h; cases h
    rw [show (10000 : Nat) = 9999 + 1 from rfl]; unfold Instr.checkKey; simp [run_underlying hU]
  · simp only [RV, Ty.agg, RC] at hv hu; cases hv; cases hu
    simp only [Instr.sameNow, Option.some.injEq]
    by_cases e : z = a
    · subst e; simp [bstr_beq]
    · have : bstr z ≠ bstr a := fun h => e (bstr_inj h)
      simp [e, bstr_beq]
  · simp only [RV, Ty.agg, RC] at hv hu; cases hv; cases hu
    rw [show (Instr.keyThatStays (.string (bstr z)) (.string (bstr z))) = (if Instr.sameBits 10000 (.string (bstr z)) (.string (bstr z)) then pure (.string (bstr z)) else _) from rfl]
    rw [show Instr.sameBits 10000 (.string (bstr z)) (.string (bstr z)) = (bstr z == bstr z) from rfl, bstr_beq]
    simp

/-- A type's zero as a value. -/
def ZeroW (P : Program) (T : Nat) (t : Ty) : Prop := ∃ z, Eng.Zero P T z ∧ ∀ m, RV m t t.dflt z
theorem zeroW_of {P : Program} {T : Nat} {t : Ty} {z : Value} (h : Eng.Zero P T z) (hz : (if t.agg then Value.agg (zeroV t).toArray else ((zeroV t).head?).getD undef) = z) (h1 : t.agg = false → (zeroV t).length = 1) : ZeroW P T t := by
  refine ⟨z, h, fun m => ?_⟩
  unfold RV
  split
  · rename_i ha; rw [if_pos ha] at hz; exact ⟨_, hz.symm, rc_zero m t⟩
  · rename_i ha
    rw [if_neg ha] at hz
    have hl := h1 (by simpa using ha)
    obtain ⟨u, hu⟩ := List.length_eq_one_iff.1 hl
    have := rc_zero m t
    rw [hu] at this hz
    simp at hz; subst hz; exact this

section
variable {P : Program} {N : Ev} {X : Cx} {Q : APost} {st : AS}
variable {d : Nat} {T U T' : TypeId} {pos : String} {aft : Array Edge} {g : Option (Nat × Bool)} {x y z : Operand} {k ky : IntKind} {a b : Int}

theorem own_map {fr : Fr} {w : World} {m : Mem} {ρ : List Value} {φ : List Frag} (hc : Conc X st fr w m ρ φ) {i : Nat} {tk tv : Ty} {xs : List (tk.den × tv.den)} {v : Value} (hv : RepA m ρ (.map i) v) (hH : st.H.get i = .map tk tv xs) :
    ∃ b es cl, v = .map (some b) ∧ ρ[i]? = some (.map (some b)) ∧ φ[i]? = some [(b, .map es cl)] ∧ w.heap[b]? = some (.map es cl) ∧ EntL m tk tv xs es.toList ∧ (xs.map (·.1)).Nodup ∧ Births es cl := by
  simp only [RepA] at hv
  obtain ⟨f, hf, ho, hw⟩ := hc.obj hv.1
  rw [hH] at ho
  obtain ⟨b, es, cl, rfl, rfl, h1, h2, hB, h3⟩ := ho
  exact ⟨b, es, cl, rfl, hv.1, hf, hw (b, _) (List.mem_singleton.2 rfl), ent_of h1 h3, h2, hB⟩

theorem aop_makeMap (tk tv : Ty) {r : Option Operand} {K : AS → Prop} (hr : r = none) (k : K (st.new d (.map st.n) (.map tk tv []))) (hN : Nat.blt d N.n = true := by rfl) : AOp P N X ⟨some d, .makeMap T r, U, pos, aft, g⟩ K st :=
  aop_of fun Q fr w m ρ φ hc K' hK => by
    subst hr
    refine op_val (v := .map (some w.heap.size)) rfl hN (fun ac ha => ?_) ?_ (dk_new (new_push w (.map #[] 0)))
    · simp [execOp, Instr.makeMap, newObj, Sem.run]
    · refine hK _ _ _ _ _ _ (hc.newObj (h := .map (some w.heap.size)) (f := [(w.heap.size, .map #[] 0)]) (Mem.le_refl _) (hc.sh.alloc (new_push w _) rfl) ?_ ?_) k
      · exact ⟨_, #[], 0, rfl, rfl, rfl, by simp, ⟨by simp, fun e he => by simp at he⟩, fun i p e hp => by simp at hp⟩
      · simp only [RepA]; exact ⟨by rw [← hc.nρ]; simp, rfl⟩

theorem run_getObj {w : World} {b : Nat} {es : Array MapEntry} {cl : Nat} (h : w.heap[b]? = some (.map es cl)) : (getObj b).run P w = .ok (.map es cl) w := by
  simp [getObj, Sem.run, h]

theorem run_lookup {w : World} {m : Mem} {tk tv : Ty} [DecidableEq tk.den] {xs : List (tk.den × tv.den)} {kx : tk.den} {kT eT b cl : Nat} {es : Array MapEntry} {v : Value} {ok : Bool} (hU : Und P T (.map kT eT)) (hK : KeyT P kT tk) (hZ : ZeroW P eT tv) (hw : w.heap[b]? = some (.map es cl)) (he : EntL m tk tv xs es.toList) (hk : RV m tk kx v) :
    ∃ u, RV m tv ((mget xs kx).getD tv.dflt) u ∧ (Instr.lookup T (.map (some b)) v ok).run P w = .ok (if ok then .tuple #[u, .bool (mget xs kx).isSome] else u) w := by
  obtain ⟨r, h1, h2⟩ := hK.find m kx v tv xs es.toList w hk he
  have h3 := hK.chk m kx v es.isEmpty w hk
  cases r with
  | none =>
    obtain ⟨zv, h4, h5⟩ := hZ
    rw [h2]
    refine ⟨zv, h5 m, ?_⟩
    simp only [Instr.lookup, Sem.run_bind, run_underlying hU, Result.andThen_ok, run_getObj hw, h3, h1, h4 w, Sem.run_pure]
    cases ok <;> simp
  | some q =>
    obtain ⟨q, u⟩ := q
    obtain ⟨y, h4, h5, _⟩ := h2
    rw [h4]
    refine ⟨u, h5, ?_⟩
    simp only [Instr.lookup, Sem.run_bind, run_underlying hU, Result.andThen_ok, run_getObj hw, h3, h1, Sem.run_pure]
    cases ok <;> simp
theorem av_lookup {i kT eT : Nat} {tk tv : Ty} [DecidableEq tk.den] {xs : List (tk.den × tv.den)} {kx : tk.den} {r : AV} (hU : Und P T (.map kT eT)) (hK : KeyT P kT tk) (hZ : ZeroW P eT tv) (hx : aev st.l x = some (.map i)) (hy : aev st.l y = some (whole tk kx)) (hH : st.H.get i = .map tk tv xs) (hno : tk.fit kx = true) (hr : whole tv ((mget xs kx).getD tv.dflt) = r) (hN : Nat.blt d N.n = true := by rfl) :
    AOpV P N X ⟨some d, .lookup T x y false, U, pos, aft, g⟩ r st :=
  av_of rfl fun Q fr w m ρ φ hc => by
    subst hr
    obtain ⟨v, h1, h2⟩ := hc.ev hx
    obtain ⟨u, h3, h4⟩ := hc.ev hy
    obtain ⟨b, es, cl, rfl, _, _, h5, h6, _⟩ := own_map hc h2 hH
    obtain ⟨q, h7, h8⟩ := run_lookup (ok := false) hU hK hZ h5 h6 (whole_rv hno h4)
    refine ⟨q, rv_whole h7, fun K hk => op_val rfl hN (fun ac ha => ?_) hk⟩
    simp only [execOp, ha.eval h1, ha.eval h3]
    rw [Sem.run_bind, h8]; rfl
theorem av_lookup2 {i kT eT : Nat} {tk tv : Ty} [DecidableEq tk.den] {xs : List (tk.den × tv.den)} {kx : tk.den} {r : AV} (hU : Und P T (.map kT eT)) (hK : KeyT P kT tk) (hZ : ZeroW P eT tv) (hx : aev st.l x = some (.map i)) (hy : aev st.l y = some (whole tk kx)) (hH : st.H.get i = .map tk tv xs) (hno : tk.fit kx = true) (hr : .tup [whole tv ((mget xs kx).getD tv.dflt), .bool (mget xs kx).isSome] = r) (hN : Nat.blt d N.n = true := by rfl) :
    AOpV P N X ⟨some d, .lookup T x y true, U, pos, aft, g⟩ r st :=
  av_of rfl fun Q fr w m ρ φ hc => by
    subst hr
    obtain ⟨v, h1, h2⟩ := hc.ev hx
    obtain ⟨u, h3, h4⟩ := hc.ev hy
    obtain ⟨b, es, cl, rfl, _, _, h5, h6, _⟩ := own_map hc h2 hH
    obtain ⟨q, h7, h8⟩ := run_lookup (ok := true) hU hK hZ h5 h6 (whole_rv hno h4)
    refine ⟨.tuple #[q, .bool (mget xs kx).isSome], ?_, fun K hk => op_val rfl hN (fun ac ha => ?_) hk⟩
    · simp only [RepA]; exact ⟨[q, .bool (mget xs kx).isSome], rfl, by simp only [RepL]; exact ⟨rv_whole h7, rep_bool, trivial⟩⟩
    · simp only [execOp, ha.eval h1, ha.eval h3]
      rw [Sem.run_bind, h8]; rfl
theorem av_len_map {i kT eT : Nat} {tk tv : Ty} {xs : List (tk.den × tv.den)} {ts : Array TypeId} {cl : Array Operand} (hc : cl = #[x]) (ht : ts = #[T]) (hU : Und P T (.map kT eT)) (hx : aev st.l x = some (.map i)) (hH : st.H.get i = .map tk tv xs) (hN : Nat.blt d N.n = true := by rfl) :
    AOpV P N X ⟨some d, .call ⟨.builtin .len, cl, ts⟩, U, pos, aft, g⟩ (.int .i64 (xs.length : Int)) st :=
  av_of rfl fun Q fr w m ρ φ hcc => by
    obtain ⟨v, h1, h2⟩ := hcc.ev hx
    obtain ⟨b, es, cl', rfl, _, _, h5, h6, _⟩ := own_map hcc h2 hH
    have hl := (ent_get h6).1
    refine ⟨_, rep_int, fun K hk => op_val rfl hN (fun ac ha => ?_) hk⟩
    subst hc ht
    have : es.size = xs.length := by simpa using hl
    simp [execOp, resolve, invoke, builtin, Builtin.len_, ha.eval h1, run_underlying hU, run_getObj h5, goInt, this]

theorem put_setObj {w : World} {b : Nat} {o o' : Obj} (h : w.heap[b]? = some o) : Put w { w with heap := w.heap.setIfInBounds b o' } b ∧ ({ w with heap := w.heap.setIfInBounds b o' } : World).heap[b]? = some o' := by
  have hlt := (Array.getElem?_eq_some_iff.1 h).1
  refine ⟨⟨rfl, rfl, rfl, by simp, fun k hk => ?_⟩, ?_⟩
  · simp only; rw [Array.getElem?_setIfInBounds_ne (fun e => hk e.symm)]
  · simp only; rw [Array.getElem?_setIfInBounds_self_of_lt hlt]

theorem ent_set {m : Mem} {tk tv : Ty} [DecidableEq tk.den] {kx : tk.den} {vx : tv.den} {kv vv : Value} (hk : RV m tk kx kv) (hv : RV m tv vx vv) : ∀ {x : List (tk.den × tv.den)} {es : List MapEntry} {i : Nat}, EntL m tk tv x es → (x[i]?).map (·.1) = some kx → (∀ j, j < i → (x[j]?).map (·.1) ≠ some kx) → ∀ (f : MapEntry → MapEntry), (∀ e, (f e).key = kv ∧ (f e).val = vv) → EntL m tk tv (mset x kx vx) (es.modify i f) := by
  intro x
  induction x with
  | nil => intro es i h hi _ f _; simp at hi
  | cons p x ih =>
    intro es i h hi hj f hf
    cases es with
    | nil => exact h.elim
    | cons e es =>
      cases i with
      | zero =>
        simp at hi
        simp only [mset, if_pos hi.symm, List.modify_zero_cons]
        exact ⟨⟨by rw [(hf e).1]; exact hk, by rw [(hf e).2]; exact hv⟩, h.2⟩
      | succ i =>
        have hne : ¬ kx = p.1 := by
          have := hj 0 (by omega)
          simp at this
          exact fun e => this e.symm
        simp only [mset, if_neg hne, List.modify_succ_cons]
        exact ⟨h.1, ih h.2 (by simpa using hi) (fun j hjj => by simpa using hj (j + 1) (by omega)) f hf⟩
theorem ent_push {m : Mem} {tk tv : Ty} [DecidableEq tk.den] {kx : tk.den} {vx : tv.den} {kv vv : Value} {bn : Nat} (hk : RV m tk kx kv) (hv : RV m tv vx vv) : ∀ {x : List (tk.den × tv.den)} {es : List MapEntry}, EntL m tk tv x es → mget x kx = none → EntL m tk tv (mset x kx vx) (es ++ [{ key := kv, val := vv, born := bn }]) := by
  intro x
  induction x with
  | nil => intro es h _; cases es with
    | nil => exact ⟨⟨hk, hv⟩, trivial⟩
    | cons => exact h.elim
  | cons p x ih =>
    intro es h hn
    cases es with
    | nil => exact h.elim
    | cons e es =>
      simp only [mget] at hn
      split at hn
      · cases hn
      · rename_i hne
        simp only [mset, if_neg hne, List.cons_append]
        exact ⟨h.1, ih h.2 hn⟩

theorem births_push {es : Array MapEntry} {cl : Nat} (h : Births es cl) (k v : Value) : Births (es.push { key := k, val := v, born := cl }) (cl + 1) := by
  obtain ⟨h1, h2⟩ := h
  refine ⟨?_, fun e he => ?_⟩
  · rw [Array.toList_push, List.map_append, List.nodup_append]
    refine ⟨h1, by simp, fun a ha b hb e => ?_⟩
    subst e
    obtain ⟨q, hq, rfl⟩ := List.mem_map.1 ha
    have := h2 q hq
    simp at hb
    omega
  · rw [Array.toList_push, List.mem_append] at he
    rcases he with he | he
    · have := h2 e he; omega
    · simp at he; subst he; simp
theorem born_modify {es : Array MapEntry} (i : Nat) (f : MapEntry → MapEntry) (hf : ∀ e, (f e).born = e.born) : (es.modify i f).toList.map (·.born) = es.toList.map (·.born) := by
  apply List.ext_getElem?
  intro j
  simp only [List.getElem?_map, Array.getElem?_toList, Array.getElem?_modify]
  split
  · cases es[j]? <;> simp [hf]
  · rfl
theorem births_modify {es : Array MapEntry} {cl : Nat} (h : Births es cl) (i : Nat) (f : MapEntry → MapEntry) (hf : ∀ e, (f e).born = e.born) : Births (es.modify i f) cl := by
  obtain ⟨h1, h2⟩ := h
  refine ⟨by rw [born_modify i f hf]; exact h1, fun e he => ?_⟩
  have : e.born ∈ (es.modify i f).toList.map (·.born) := List.mem_map.2 ⟨e, he, rfl⟩
  rw [born_modify i f hf] at this
  obtain ⟨q, hq, hb⟩ := List.mem_map.1 this
  have := h2 q hq
  omega
theorem run_mapUpdate {w : World} {m : Mem} {tk tv : Ty} [DecidableEq tk.den] {xs : List (tk.den × tv.den)} {kx : tk.den} {vx : tv.den} {kT eT b cl : Nat} {es : Array MapEntry} {kv vv : Value} (hU : Und P T (.map kT eT)) (hK : KeyT P kT tk) (hw : w.heap[b]? = some (.map es cl)) (he : EntL m tk tv xs es.toList) (hk : RV m tk kx kv) (hv : RV m tv vx vv) :
    ∃ es' cl', (Instr.mapUpdate T (.map (some b)) kv vv).run P w = .ok () { w with heap := w.heap.setIfInBounds b (.map es' cl') } ∧ EntL m tk tv (mset xs kx vx) es'.toList ∧ (Births es cl → Births es' cl') := by
  obtain ⟨r, h1, h2⟩ := hK.find m kx kv tv xs es.toList w hk he
  have h3 := hK.chk m kx kv false w hk
  have hset : ∀ o, (setObj b o).run P w = .ok () { w with heap := w.heap.setIfInBounds b o } := fun o => by simp [setObj, Sem.run, hw]
  cases r with
  | none =>
    refine ⟨es.push { key := kv, val := vv, born := cl }, cl + 1, ?_, ?_⟩
    · simp only [Instr.mapUpdate, Sem.run_bind, run_underlying hU, Result.andThen_ok, run_getObj hw, h3, h1, hset]
    · exact ⟨by rw [Array.toList_push]; exact ent_push hk hv he h2, fun h => births_push h kv vv⟩
  | some q =>
    obtain ⟨q, u⟩ := q
    obtain ⟨y, h4, h5, h6, ⟨e, h7⟩, h8⟩ := h2
    obtain ⟨_, hg⟩ := ent_get he
    obtain ⟨p, hp, hpk⟩ := Option.map_eq_some_iff.1 h6
    have hke := (hg q p e hp h7).1
    rw [hpk] at hke
    have h9 := hK.stays m kx e.key kv w hke hk
    have h10 : es[q]? = some e := by simpa using h7
    refine ⟨es.modify q fun e => { e with key := kv, val := vv }, cl, ?_, ?_⟩
    · simp only [Instr.mapUpdate, Sem.run_bind, run_underlying hU, Result.andThen_ok, run_getObj hw, h3, h1, h10, Option.map_some, Option.getD_some, h9, hset]
    · exact ⟨by rw [Array.toList_modify]; exact ent_set hk hv he h6 h8 _ (fun e => ⟨rfl, rfl⟩), fun h => births_modify h q _ (fun _ => rfl)⟩

theorem aop_mapSet {i kT eT : Nat} {tk tv : Ty} [DecidableEq tk.den] {xs : List (tk.den × tv.den)} {kx : tk.den} {vx : tv.den} {o : Oper} {K : AS → Prop} (hU : Und P T (.map kT eT)) (hK : KeyT P kT tk) (ho : o.op = .mapUpdate T x y z ∨ o.op = .insert T x y z) (hd : o.dst = none) (hx : aev st.l x = some (.map i)) (hy : aev st.l y = some (whole tk kx)) (hz : aev st.l z = some (whole tv vx)) (hH : st.H.get i = .map tk tv xs) (hno : tk.fit kx = true) (hno' : tv.fit vx = true)
    (k : K (st.upd i (.map tk tv (mset xs kx vx)))) : AOp P N X o K st :=
  aop_of fun Q fr w m ρ φ hc K' hK' => by
    obtain ⟨v, h1, h2⟩ := hc.ev hx
    obtain ⟨kv, h3, h4⟩ := hc.ev hy
    obtain ⟨vv, h5, h6⟩ := hc.ev hz
    obtain ⟨b, es, cl, rfl, hρ, hf, hw, he, hnd, hBi⟩ := own_map hc h2 hH
    obtain ⟨es', cl', hr, he', hBi'⟩ := run_mapUpdate hU hK hw he (whole_rv hno h4) (whole_rv hno' h6)
    obtain ⟨hP, hb'⟩ := put_setObj (o' := .map es' cl') hw
    have hfr := hc.front hf
    obtain ⟨g1, g2⟩ := ent_get he'
    refine op_skip (w' := { w with heap := w.heap.setIfInBounds b (.map es' cl') }) hd (fun ac ha => ?_) ?_ (dk_put hP hw rfl) ?_
    · rcases ho with ho | ho <;> simp only [execOp, ho, ha.eval h1, ha.eval h3, ha.eval h5, Sem.run_bind, hr] <;> rfl
    · exact hK' _ _ (st.upd i (.map tk tv (mset xs kx vx))) _ _ _ (hc.turn hρ hf (f' := [(b, .map es' cl')]) (hfr.put hP hb' rfl) ⟨b, es', cl', rfl, rfl, g1, mset_nodup _ _ hnd, hBi' hBi, g2⟩) k
    · rcases ho with ho | ho <;> simp [nodef, ho]
end
end Go.Ab

