/- Lemmas for a law of the seat: what functions of the program do, each stated as a contract of its own (module EngE). -/
import Derived.Test.YtjagcoeihmhabaaEngD
set_option linter.unusedVariables false
set_option linter.unusedSimpArgs false
namespace Go.Eng
open Go.RowKit Go.Shelf Go.Proofs

/-! a slice that is read; 'R w cs x': the cells cs hold x -/
structure Rd {α : Type} (R : World → List Value → α → Prop) (sz : Nat) (w : World) (A : Option Addr) (n : Nat) (xs : List α) : Prop where
  len : xs.length = n
  bd : n ≤ 140737488355328
  rows : ∃ b off, (0 < n → A = some ⟨b, off, none⟩) ∧ ∀ i x, xs[i]? = some x → ∃ cs, cs.length = sz ∧ R w cs x ∧ Cells w b (off + i * sz) cs

def Flat {α : Type} (enc : α → List Value) : World → List Value → α → Prop := fun _ cs x => cs = enc x

def Lifts {α : Type} (R : World → List Value → α → Prop) : Prop := ∀ w w' cs x, Below w.heap.size w w' → R w cs x → R w' cs x
theorem flat_lifts {α : Type} (enc : α → List Value) : Lifts (Flat enc) := fun _ _ _ _ _ h => h

theorem Rd.ext {α : Type} {R : World → List Value → α → Prop} {sz : Nat} {w w' : World} {A : Option Addr} {n : Nat} {xs : List α} (hR : Lifts R) (h : Rd R sz w A n xs) (hb : Below w.heap.size w w') : Rd R sz w' A n xs := by
  obtain ⟨b, off, hA, hc⟩ := h.rows
  exact ⟨h.len, h.bd, b, off, hA, fun i x hx => let ⟨cs, h1, h2, h3⟩ := hc i x hx; ⟨cs, h1, hR _ _ _ _ hb h2, h3.ext hb⟩⟩

/-- A flat slice laid open: where its cells stand. -/
theorem Rd.flat {α : Type} {enc : α → List Value} {sz : Nat} {w : World} {A : Option Addr} {n : Nat} {xs : List α} (h : Rd (Flat enc) sz w A n xs) :
    ∃ b off, (0 < n → A = some ⟨b, off, none⟩) ∧ ∀ i x, xs[i]? = some x → Cells w b (off + i * sz) (enc x) := by
  obtain ⟨b, off, hA, hc⟩ := h.rows
  exact ⟨b, off, hA, fun i x hx => by obtain ⟨cs, _, rfl, h3⟩ := hc i x hx; exact h3⟩

/-- Rows of the call's own are read as any. -/
theorem rd_of_own {α : Type} {enc : α → List Value} {sz base : Nat} {e : TypeId} {w : World} {v : Value} {n : Nat} {xs : List α} (henc : ∀ x, (enc x).length = sz) (hn : xs.length = n) (hbd : n ≤ 140737488355328) (h : w.ownsRow base e sz v n (xs.flatMap enc)) :
    ∃ A c, v = .slice A n c ∧ Rd (Flat enc) sz w A n xs := by
  have hfl : ∀ (xs : List α) i x j u, xs[i]? = some x → (enc x)[j]? = some u → (xs.flatMap enc)[i * sz + j]? = some u := by
    intro xs
    induction xs with
    | nil => intro i x j u h; simp at h
    | cons y ys ih =>
      intro i x j u h1 h2
      rw [List.flatMap_cons]
      cases i with
      | zero =>
        simp at h1; subst h1
        have hj := (List.getElem?_eq_some_iff.1 h2).1
        rw [Nat.zero_mul, Nat.zero_add, List.getElem?_append_left hj]; exact h2
      | succ i =>
        simp at h1
        rw [List.getElem?_append_right (by rw [henc, Nat.add_mul]; omega), henc]
        rw [show (i + 1) * sz + j - sz = i * sz + j by rw [Nat.add_mul]; omega]
        exact ih i x j u h1 h2
  rcases h.2 with ⟨rfl, h0⟩ | ⟨g, cap, cur, rfl, hb, hg, hnc, hcm, hcs, ht⟩
  · subst h0
    exact ⟨none, 0, rfl, hn, hbd, 0, 0, fun h => absurd h (by omega), fun i x hx => by
      have := List.eq_nil_of_length_eq_zero hn; subst this; simp at hx⟩
  · refine ⟨_, cap, rfl, hn, hbd, g, 0, fun _ => rfl, fun i x hx => ⟨enc x, henc x, rfl, ?_⟩⟩
    intro j u hj
    have h1 := hfl xs i x j u hx hj
    rw [← ht, List.getElem?_take] at h1
    split at h1
    · refine cell_blk hg ?_
      simpa [Nat.add_assoc] using h1
    · cases h1

/-! append -/
def AppT (P : Program) (T e size bytes : Nat) : Prop :=
  P.underlying T = some (.slice e) ∧ 0 < size ∧ ∃ i z, P.info? e = some i ∧ i.zero = some z ∧ i.size = size ∧ i.bytes = bytes ∧ z.cells.size = size
theorem appT_of {P : Program} {T e size bytes : Nat} {z : Value} (h1 : P.underlying T = some (.slice e)) (h2 : (P.info? e).map (fun i => (i.zero, i.size, i.bytes)) = some (some z, size, bytes)) (h3 : Nat.beq z.cells.size size = true) (h4 : Nat.blt 0 size = true) : AppT P T e size bytes := by
  cases hi : P.info? e with
  | none => rw [hi] at h2; cases h2
  | some i =>
    rw [hi] at h2
    simp at h2
    exact ⟨h1, by simpa using h4, i, z, hi, h2.1, h2.2.1, h2.2.2, Nat.eq_of_beq_eq_true h3⟩

section
variable {P : Program} {N : Ev} {K : Fr → World → Prop} {Q : Post} {l : Fr} {w : World}
variable {d : Nat} {T U : TypeId} {pos : String} {aft : Array Edge} {g : Option (Nat × Bool)}

theorem dk_grown {ex : Option Nat} {w w' : World} {base e size n : Nat} {v : Value} {xs : List Value} (hown : w.ownsRow base e size v n xs) (h : w.grownBy w' v.ownBlock) : DK ex w w' ∧ w.heap.size ≤ w'.heap.size := by
  refine ⟨fun k o hk hc _ => ?_, h.size⟩
  by_cases e : some k = v.ownBlock
  · exfalso
    rcases hown.2 with ⟨rfl, _⟩ | ⟨g, cap, cur, rfl, _, hg, _⟩
    · cases e
    · cases e
      rw [hg] at hk; cases hk; cases hc
  · exact (h.block k (Array.getElem?_eq_some_iff.1 hk).1 e).trans hk
theorem op_append {s x : Operand} {base e size bytes b m c n : Nat} {v : Value} {xs news : List Value} {cl : Array Operand} {ts : Array TypeId} (hcl : cl = #[s, x]) (hts : ts = #[T, T]) (hT : AppT P T e size bytes) (hs : evo l s = some v) (hx : evo l x = some (.slice (some ⟨b, 0, none⟩) m c))
    (hown : w.ownsRow base e size v n xs) (hnews : Cells w b 0 news) (hl : news.length = m * size) (h1 : (news.all (·.oneCell')) = true) (hb : (n + m) * bytes ≤ 140737488355328) (hm : n + m ≤ 9223372036854775807) (hbase : base ≤ w.heap.size) (hN : Nat.blt d N.n = true)
    (k : ∀ v' w', w'.ownsRow base e size v' (n + m) (xs ++ news) → w.grownBy w' v.ownBlock → (v' = .slice none 0 0 ↔ v = .slice none 0 0 ∧ m = 0) → (v'.ownBlock = v.ownBlock ∨ v'.ownBlock = some w.heap.size) → K ((d, v') :: l) w') :
    OpW P N ⟨some d, .call ⟨.builtin .append, cl, ts⟩, U, pos, aft, g⟩ K Q l w := by
  subst hcl hts
  obtain ⟨hU, hsz, i, z, hi, hz, hsize, hby, hzs⟩ := hT
  obtain ⟨v', w', hr, h2, h3, h4, h5⟩ := run_append_own_at (P := P) (w := w) base T U e i z size bytes hU hi hz hsize hby hzs hsz v n xs hown ⟨b, 0, none⟩ m c news hl (fun j u hj => by rw [add_lit]; exact hnews j u hj) (by simpa only [List.all_eq_true] using h1) (by simpa [maxLen] using hm) hb hbase
  refine op_val rfl hN (fun a ha => ?_) (k v' w' h2 h3 h4 h5) (dk_grown hown h3)
  simp [execOp, resolve, invoke, builtin, ha.eval hs, ha.eval hx, hr]

theorem op_pick {c x y : Operand} {cb : Bool} {v : Value} (hc : evo l c = some (.bool cb)) (ht : cb = true → evo l x = some v) (hf : cb = false → evo l y = some v) (hN : Nat.blt d N.n = true) (k : K ((d, v) :: l) w) :
    OpW P N ⟨some d, .pick c x y, T, pos, aft, g⟩ K Q l w := by
  cases cb with
  | true => exact op_pick_t hc (ht rfl) hN k
  | false => exact op_pick_f hc (hf rfl) hN k
/-- 'a && b' -/
theorem op_and {c x y : Operand} {cb e : Bool} {v : Value} (hc : evo l c = some (.bool cb)) (hx : evo l x = some v) (hy : evo l y = some (.bool false)) (hv : cb = true → v = .bool e) (hN : Nat.blt d N.n = true) (k : K ((d, .bool (cb && e)) :: l) w) :
    OpW P N ⟨some d, .pick c x y, T, pos, aft, g⟩ K Q l w :=
  op_pick hc (fun h => by rw [hx, hv h, h]; rfl) (fun h => by rw [hy, h]; rfl) hN k
/-- 'a || b' -/
theorem op_or {c x y : Operand} {cb e : Bool} {v : Value} (hc : evo l c = some (.bool cb)) (hx : evo l x = some (.bool true)) (hy : evo l y = some v) (hv : cb = false → v = .bool e) (hN : Nat.blt d N.n = true) (k : K ((d, .bool (cb || e)) :: l) w) :
    OpW P N ⟨some d, .pick c x y, T, pos, aft, g⟩ K Q l w :=
  op_pick hc (fun h => by rw [hx, h]; rfl) (fun h => by rw [hy, hv h, h]; rfl) hN k

theorem splice_size (vs : List Value) : ∀ (cs : Array Value) (o : Nat), (splice cs o vs).size = cs.size := by
  induction vs with
  | nil => intro cs o; rfl
  | cons v vs ih => intro cs o; simp [splice, ih]

theorem splice_get (vs : List Value) : ∀ (cs : Array Value) (o i : Nat), o + vs.length ≤ cs.size → (splice cs o vs)[i]? = if o ≤ i ∧ i < o + vs.length then vs[i - o]? else cs[i]? := by
  induction vs with
  | nil => intro cs o i h; simp [splice]; intro h1 h2; omega
  | cons v vs ih =>
    intro cs o i h
    simp only [List.length_cons] at h
    rw [splice, ih _ _ _ (by simp; omega)]
    by_cases h1 : o + 1 ≤ i ∧ i < o + 1 + vs.length
    · rw [if_pos h1, if_pos (by simp; omega)]
      rw [show i - o = (i - (o + 1)) + 1 by omega]; simp
    · rw [if_neg h1]
      by_cases h2 : i = o
      · subst h2
        rw [if_pos (by simp), Array.getElem?_setIfInBounds_self_of_lt (by omega)]; simp
      · rw [if_neg (by simp; omega), Array.getElem?_setIfInBounds_ne (by omega)]

theorem splice_whole (cs vs : Array Value) (h : vs.size = cs.size) : splice cs 0 vs.toList = vs := by
  apply Array.ext_getElem?
  intro i
  rw [splice_get _ _ _ _ (by simp; omega)]
  by_cases hi : i < vs.size
  · rw [if_pos (by simp; omega)]; simp
  · rw [if_neg (by simp; omega), Array.getElem?_eq_none (by omega), Array.getElem?_eq_none (by omega)]

/-- A store that fills the whole block. -/
theorem op_storeW {x y : Operand} {b : Nat} {cs : Array Value} {v : Value} {T' : TypeId} (hx : evo l x = some (.pointer (some ⟨b, 0, none⟩))) (hy : evo l y = some v) (hS : Sz P T v.cells.size) (hb : w.heap[b]? = some (.cells cs T' (0, 0))) (h1 : (v.cells.toList.all (·.oneCell')) = true) (hl : Nat.beq v.cells.size cs.size = true)
    (k : ∀ w', Put w w' b → w'.heap[b]? = some (.cells v.cells T' (0, 0)) → K l w') :
    OpW P N ⟨none, .store T x y, U, pos, aft, g⟩ K Q l w := by
  have hl' := Nat.eq_of_beq_eq_true hl
  refine op_store hx hy hS hb h1 (by rw [Nat.zero_add, hl']; simp) fun w' hp hb' => k w' hp ?_
  rw [splice_whole cs v.cells hl'] at hb'
  exact hb'

theorem wc_at {c : Code} (l' : Fr) (w' : World) (hs : Sub l' l) (hw : w = w') (h : WC P N c Q l' w') : WC P N c Q l w := by
  subst hw; exact WC.sub l' hs h

/-- Ways that meet again. -/
theorem wc_join {c e : Code} (M : Fr → World → Prop) (h1 : WC P N c (thenK M Q) l w) (h2 : ∀ l' w', M l' w' → WC P N e Q l' w') : WC P N (.seq c e) Q l w :=
  wc_seq (WC.mono (fun ex l' w' q => by cases ex <;> first | exact h2 l' w' q | exact q) h1)

/-! a post is peeled -/
theorem then_norm {K : Fr → World → Prop} (h : K l w) : thenK K Q .normal l w := h
theorem then_exit {K : Fr → World → Prop} {i : Nat} (h : Q (.exit i) l w) : thenK K Q (.exit i) l w := h
theorem then_ret {K : Fr → World → Prop} (h : Q .ret l w) : thenK K Q .ret l w := h
theorem block_norm {id : Nat} (h : Q .normal l w) : blockQ id Q .normal l w := h
theorem block_ret {id : Nat} (h : Q .ret l w) : blockQ id Q .ret l w := h
theorem block_here {id : Nat} (h : Q .normal l w) : blockQ id Q (.exit id) l w := by simp [blockQ]; exact h
theorem block_far {id i : Nat} (hne : Nat.beq i id = false) (h : Q (.exit i) l w) : blockQ id Q (.exit i) l w := by simp only [blockQ, hne]; exact h
theorem wl_done {ops : Array Oper} (h : Q .normal l w) : WL P N ops Q [] l w := fun a ha hg => wpListIn_nil ⟨l, ha, hg, h⟩
end

theorem not_t {a : Bool} (h : (!a) = true) : a = false := by simpa using h
theorem not_f {a : Bool} (h : (!a) = false) : a = true := by simpa using h
theorem all_succ {p : Nat → Prop} {k : Nat} (h : ∀ i, i < k → p i) (hk : p k) : ∀ i, i < k + 1 → p i := fun i hi => by
  rcases Nat.lt_or_ge i k with h1 | h1
  · exact h i h1
  · have : i = k := by omega
    subst this; exact hk
theorem below_then {B : Nat} {a b c : World} (h : Below B a b) (hB : B ≤ b.heap.size) (k : Below b.heap.size b c) : Below B a c := h.trans (k.mono hB)
/-- From an elder world on, over a step that turns nothing. -/
theorem below_step {a b c : World} (h : Below a.heap.size a b) (k : Below b.heap.size b c) : Below a.heap.size a c := below_then h h.size k
theorem below_new {a b c : World} {x : Nat} {o : Obj} (h : Below a.heap.size a b) (k : New b c x o) : Below a.heap.size a c := below_step h k.ext
theorem blk_ext {b c : World} {x : Nat} {o : Obj} (h : b.heap[x]? = some o) (k : Below b.heap.size b c) : c.heap[x]? = some o := (k.block x (Array.getElem?_eq_some_iff.1 h).1).trans h
theorem ne_new {b c : World} {x y : Nat} {o o' : Obj} (h : b.heap[x]? = some o) (k : New b c y o') : x ≠ y := by
  have := (Array.getElem?_eq_some_iff.1 h).1
  rw [k.eq]; omega
theorem le_new {a b c : World} {y : Nat} {o : Obj} (h : Below a.heap.size a b) (k : New b c y o) : a.heap.size ≤ y := by rw [k.eq]; exact h.size
theorem Cells.at {w : World} {b o i : Nat} {vs : List Value} {v : Value} (h : Cells w b o vs) (hv : vs[i]? = some v) : w.cell? ⟨b, o + i, none⟩ = some v := h i v hv
theorem Cells.head {w : World} {b o : Nat} {v : Value} {vs : List Value} (h : Cells w b o (v :: vs)) : w.cell? ⟨b, o, none⟩ = some v := h 0 v rfl

/-! rows that the call itself collects -/
def Own {α : Type} (enc : α → List Value) (base e sz : Nat) (w : World) (v : Value) (xs : List α) : Prop := w.ownsRow base e sz v xs.length (xs.flatMap enc)

theorem own_nil {α : Type} (enc : α → List Value) (base e sz : Nat) (w : World) : Own enc base e sz w (.slice none 0 0) [] := World.ownsRow_nil w base e sz

theorem grownBy_of_below {w w1 : World} (h : Below w.heap.size w w1) (row : Option Nat) : w.grownBy w1 row := ⟨h.os, h.tape, h.output, h.size, fun i hi _ => h.block i hi⟩
theorem grownBy_of_put {w w1 : World} {b : Nat} (h : Put w w1 b) : w.grownBy w1 (some b) := ⟨h.os, h.tape, h.output, by rw [h.size]; exact Nat.le_refl _, fun i _ hne => h.other i (fun e => hne (by rw [e]))⟩
theorem below_of_put {w w1 : World} {b B : Nat} (h : Put w w1 b) (hB : B ≤ b) : Below B w w1 := h.below (Below.refl _ _) hB

theorem own_slice {α : Type} {enc : α → List Value} {base e sz : Nat} {w : World} {v : Value} {xs : List α} (h : Own enc base e sz w v xs) : ∃ A n c, v = .slice A n c := by
  rcases h.2 with ⟨h1, _⟩ | ⟨g, cap, cur, h1, _⟩
  · exact ⟨_, _, _, h1⟩
  · exact ⟨_, _, _, h1⟩
theorem Own.ext {α : Type} {enc : α → List Value} {base e sz : Nat} {w w' : World} {v : Value} {xs : List α} (h : Own enc base e sz w v xs) (hb : Below w.heap.size w w') : Own enc base e sz w' v xs :=
  h.kept (grownBy_of_below hb none) (by cases v.ownBlock <;> simp)
theorem Own.grown {α : Type} {enc : α → List Value} {base e sz : Nat} {w w' : World} {v : Value} {xs : List α} {row : Option Nat} (h : Own enc base e sz w v xs) (hg : w.grownBy w' row) (hne : v.ownBlock = none ∨ v.ownBlock ≠ row) : Own enc base e sz w' v xs :=
  h.kept hg hne
theorem own_put {α : Type} {enc : α → List Value} {base e sz : Nat} {w w' : World} {v : Value} {xs : List α} {b : Nat} (h : Own enc base e sz w v xs) (hP : Put w w' b) (hne : some b ≠ v.ownBlock) : Own enc base e sz w' v xs :=
  h.grown (grownBy_of_put hP) (.inr (fun e => hne e.symm))
theorem own_ne_step {v v' : Value} {w : World} {x : Nat} (h : some x ≠ v.ownBlock) (ho : v'.ownBlock = v.ownBlock ∨ v'.ownBlock = some w.heap.size) (hx : x < w.heap.size) : some x ≠ v'.ownBlock := by
  rcases ho with ho | ho
  · rw [ho]; exact h
  · rw [ho]; intro e; cases e; omega
theorem own_ne_nil {x : Nat} : some x ≠ (Value.slice none 0 0).ownBlock := by intro h; cases h
/-- A block that is younger than a row is not the row's. -/
theorem own_ne_new {α : Type} {enc : α → List Value} {base e sz : Nat} {w w' : World} {v : Value} {xs : List α} {b : Nat} {o : Obj} (h : Own enc base e sz w v xs) (hN : New w w' b o) : some b ≠ v.ownBlock := by
  intro hb
  have := (World.ownsRow.lt h b hb.symm).2
  have := hN.eq; omega
theorem below_grown {w0 w w' : World} {α : Type} {enc : α → List Value} {base e sz : Nat} {v : Value} {xs : List α} (hB : Below w0.heap.size w0 w) (h : Own enc base e sz w v xs) (hg : w.grownBy w' v.ownBlock) (hb : w0.heap.size ≤ base) : Below w0.heap.size w0 w' :=
  hB.grown hg hB.size (fun k hk => Nat.le_trans hb (World.ownsRow.lt h k hk).1)
theorem blk_grown {w w' : World} {v : Value} {b : Nat} {o : Obj} (h : w.heap[b]? = some o) (hg : w.grownBy w' v.ownBlock) (hne : some b ≠ v.ownBlock) : w'.heap[b]? = some o :=
  (hg.block b (Array.getElem?_eq_some_iff.1 h).1 hne).trans h

theorem rd_of_Own {α : Type} {enc : α → List Value} {sz base e : Nat} {w : World} {v : Value} {xs : List α} (h : Own enc base e sz w v xs) (henc : ∀ x, (enc x).length = sz) (hbd : xs.length ≤ 140737488355328) :
    ∃ A n c, v = .slice A n c ∧ Rd (Flat enc) sz w A n xs ∧ n = xs.length := by
  obtain ⟨A, c, hv, hr⟩ := rd_of_own henc rfl hbd h
  exact ⟨A, _, c, hv, hr, rfl⟩

theorem rd_of_OwnC {α : Type} {enc : α → List Value} {sz base e : Nat} {w : World} {v : Value} {xs : List α} (h : Own enc base e sz w v xs) (henc : ∀ x, (enc x).length = sz) (hbd : xs.length ≤ 140737488355328) :
    ∃ A n c, v = .slice A n c ∧ Rd (Flat enc) sz w A n xs ∧ n = xs.length ∧ n ≤ c := by
  obtain ⟨A, c, hv, hr⟩ := rd_of_own henc rfl hbd h
  refine ⟨A, _, c, hv, hr, rfl, ?_⟩
  rcases h.2 with ⟨h1, h2⟩ | ⟨g, cap, cur, h1, _, _, hnc, _⟩
  · rw [h1] at hv; simp at hv; omega
  · rw [h1] at hv; cases hv; exact hnc
/-- What is left of a slice behind its first j rows. -/
theorem rd_drop {α : Type} {R : World → List Value → α → Prop} {sz : Nat} {w : World} {A : Option Addr} {n c j : Nat} {xs : List α} (h : Rd R sz w A n xs) (hc : n ≤ c) (hj : j ≤ n) : Rd R sz w (if c = j then A else A.map (·.add (j * sz))) (n - j) (xs.drop j) := by
  obtain ⟨b, off, hA, hr⟩ := h.rows
  refine ⟨by rw [List.length_drop, h.len], by have := h.bd; omega, b, off + j * sz, fun h0 => ?_, fun i x hx => ?_⟩
  · rw [if_neg (by omega), hA (by omega)]
    simp [add_lit]
  · rw [List.getElem?_drop] at hx
    obtain ⟨cs, h1, h2, h3⟩ := hr (j + i) x hx
    exact ⟨cs, h1, h2, by rw [show off + j * sz + i * sz = off + (j + i) * sz by rw [Nat.add_mul]; omega]; exact h3⟩
theorem rd_nil {α : Type} (R : World → List Value → α → Prop) (sz : Nat) (w : World) : Rd R sz w none 0 [] := ⟨rfl, by omega, 0, 0, fun h => absurd h (by omega), fun i x hx => by simp at hx⟩

/-- A literal slice is read. -/
theorem rd_of_blk {α : Type} {enc : α → List Value} {sz b n : Nat} {w : World} {cs : Array Value} {T : TypeId} {fr : Nat × Nat} (xs : List α) (hb : w.heap[b]? = some (.cells cs T fr)) (henc : ∀ x, (enc x).length = sz) (hn : xs.length = n) (hbd : Nat.ble n 140737488355328 = true) (hc : cs.toList = xs.flatMap enc) :
    Rd (Flat enc) sz w (some ⟨b, 0, none⟩) n xs := by
  refine ⟨hn, by simpa using hbd, b, 0, fun _ => rfl, fun i x hx => ⟨enc x, henc x, rfl, ?_⟩⟩
  have hfl : ∀ (xs : List α) i x j u, xs[i]? = some x → (enc x)[j]? = some u → (xs.flatMap enc)[i * sz + j]? = some u := by
    intro xs
    induction xs with
    | nil => intro i x j u h; simp at h
    | cons y ys ih =>
      intro i x j u h1 h2
      rw [List.flatMap_cons]
      cases i with
      | zero =>
        simp at h1; subst h1
        have hj := (List.getElem?_eq_some_iff.1 h2).1
        rw [Nat.zero_mul, Nat.zero_add, List.getElem?_append_left hj]; exact h2
      | succ i =>
        simp at h1
        rw [List.getElem?_append_right (by rw [henc, Nat.add_mul]; omega), henc]
        rw [show (i + 1) * sz + j - sz = i * sz + j by rw [Nat.add_mul]; omega]
        exact ih i x j u h1 h2
  intro j u hj
  have h1 := hfl xs i x j u hx hj
  rw [← hc] at h1
  refine cell_blk hb ?_
  simpa using h1

/-- Rows that are told one by one. -/
def RowsAt {α : Type} (R : World → List Value → α → Prop) (sz : Nat) (w : World) (b : Nat) : Nat → List α → Prop
  | _, [] => True
  | off, x :: xs => (∃ cs, cs.length = sz ∧ R w cs x ∧ Cells w b off cs) ∧ RowsAt R sz w b (off + sz) xs
theorem RowsAt.get {α : Type} {R : World → List Value → α → Prop} {sz : Nat} {w : World} {b : Nat} {xs : List α} : ∀ {off : Nat}, RowsAt R sz w b off xs → ∀ i x, xs[i]? = some x → ∃ cs, cs.length = sz ∧ R w cs x ∧ Cells w b (off + i * sz) cs := by
  induction xs with
  | nil => intro off _ i x hx; simp at hx
  | cons y ys ih =>
    intro off h i x hx
    cases i with
    | zero => simp at hx; subst hx; simpa using h.1
    | succ i =>
      simp at hx
      have := ih h.2 i x hx
      rwa [show off + sz + i * sz = off + (i + 1) * sz by rw [Nat.add_mul]; omega] at this
theorem rd_of_rows {α : Type} {R : World → List Value → α → Prop} {sz b n : Nat} {w : World} {xs : List α} (h : RowsAt R sz w b 0 xs) (hn : xs.length = n) (hbd : Nat.ble n 140737488355328 = true) : Rd R sz w (some ⟨b, 0, none⟩) n xs :=
  ⟨hn, by simpa using hbd, b, 0, fun _ => rfl, h.get⟩

section
variable {P : Program} {N : Ev} {K : Fr → World → Prop} {Q : Post} {l : Fr} {w : World}
variable {d : Nat} {T U : TypeId} {pos : String} {aft : Array Edge} {g : Option (Nat × Bool)}

/-- 'append(s, x)' onto rows of the call's own. -/
theorem op_appendO {α : Type} {enc : α → List Value} {s x : Operand} {base e size bytes b : Nat} {v : Value} {xs : List α} (y : α) {cl : Array Operand} {ts : Array TypeId} (hcl : cl = #[s, x]) (hts : ts = #[T, T]) (hT : AppT P T e size bytes) (hs : evo l s = some v) (hx : evo l x = some (.slice (some ⟨b, 0, none⟩) 1 1))
    (hown : Own enc base e size w v xs) (hnews : Cells w b 0 (enc y)) (hl : (enc y).length = size) (h1 : ((enc y).all (·.oneCell')) = true) (hb : (xs.length + 1) * bytes ≤ 140737488355328) (hm : xs.length + 1 ≤ 9223372036854775807) (hbase : base ≤ w.heap.size) (hN : Nat.blt d N.n = true)
    (k : ∀ v' w', Own enc base e size w' v' (xs ++ [y]) → w.grownBy w' v.ownBlock → K ((d, v') :: l) w') :
    OpW P N ⟨some d, .call ⟨.builtin .append, cl, ts⟩, U, pos, aft, g⟩ K Q l w := by
  refine op_append hcl hts hT hs hx hown hnews (by rw [hl, Nat.one_mul]) h1 hb hm hbase hN ?_
  intro v' w' h2 h3 _ _
  refine k v' w' ?_ h3
  unfold Own
  simpa using h2

theorem op_appendP {α : Type} {enc : α → List Value} {s x : Operand} {base e size bytes b : Nat} {v : Value} {xs : List α} (y : α) {cl : Array Operand} {ts : Array TypeId} (hcl : cl = #[s, x]) (hts : ts = #[T, T]) (hT : AppT P T e size bytes) (hs : evo l s = some v) (hx : evo l x = some (.slice (some ⟨b, 0, none⟩) 1 1))
    (hown : Own enc base e size w v xs) (hnews : Cells w b 0 (enc y)) (hl : (enc y).length = size) (h1 : ((enc y).all (·.oneCell')) = true) (hb : (xs.length + 1) * bytes ≤ 140737488355328) (hm : xs.length + 1 ≤ 9223372036854775807) (hbase : base ≤ w.heap.size) (hN : Nat.blt d N.n = true)
    (k : ∀ v' w', Own enc base e size w' v' (xs ++ [y]) → w.grownBy w' v.ownBlock → (v'.ownBlock = v.ownBlock ∨ v'.ownBlock = some w.heap.size) → K ((d, v') :: l) w') :
    OpW P N ⟨some d, .call ⟨.builtin .append, cl, ts⟩, U, pos, aft, g⟩ K Q l w := by
  refine op_append hcl hts hT hs hx hown hnews (by rw [hl, Nat.one_mul]) h1 hb hm hbase hN ?_
  intro v' w' h2 h3 _ h5
  refine k v' w' ?_ h3 h5
  unfold Own
  simpa using h2
/-- A slice's rows put behind rows of the call's own. -/
theorem flat_get {α : Type} {enc : α → List Value} {sz : Nat} (henc : ∀ x, (enc x).length = sz) : ∀ (xs : List α) (j : Nat) (u : Value), (xs.flatMap enc)[j]? = some u → ∃ i k x, j = i * sz + k ∧ xs[i]? = some x ∧ (enc x)[k]? = some u := by
  intro xs
  induction xs with
  | nil => intro j u h; simp at h
  | cons y ys ih =>
    intro j u h
    rw [List.flatMap_cons] at h
    rcases Nat.lt_or_ge j sz with hj | hj
    · rw [List.getElem?_append_left (by rw [henc]; exact hj)] at h
      exact ⟨0, j, y, by omega, rfl, h⟩
    · rw [List.getElem?_append_right (by rw [henc]; exact hj), henc] at h
      obtain ⟨i, k, x, h1, h2, h3⟩ := ih _ _ h
      exact ⟨i + 1, k, x, by rw [Nat.add_mul]; omega, by simpa using h2, h3⟩
theorem flat_len {α : Type} {enc : α → List Value} {sz : Nat} (henc : ∀ x, (enc x).length = sz) : ∀ (xs : List α), (xs.flatMap enc).length = xs.length * sz := by
  intro xs
  induction xs with
  | nil => simp
  | cons y ys ih => rw [List.flatMap_cons, List.length_append, ih, henc, List.length_cons, Nat.add_mul]; omega
theorem op_appendS {α : Type} {enc : α → List Value} {s x : Operand} {base e size bytes m c : Nat} {A : Option Addr} {v : Value} {xs ys : List α} {cl : Array Operand} {ts : Array TypeId} (hcl : cl = #[s, x]) (hts : ts = #[T, T]) (hT : AppT P T e size bytes) (hs : evo l s = some v) (hx : evo l x = some (.slice A m c))
    (hown : Own enc base e size w v xs) (hrd : Rd (Flat enc) size w A m ys) (hl : ∀ y, (enc y).length = size) (h1 : ∀ y, ((enc y).all (·.oneCell')) = true) (hb : (xs.length + m) * bytes ≤ 140737488355328) (hm : xs.length + m ≤ 9223372036854775807) (hbase : base ≤ w.heap.size) (hN : Nat.blt d N.n = true)
    (k : ∀ v' w', Own enc base e size w' v' (xs ++ ys) → w.grownBy w' v.ownBlock → (v'.ownBlock = v.ownBlock ∨ v'.ownBlock = some w.heap.size) → K ((d, v') :: l) w') :
    OpW P N ⟨some d, .call ⟨.builtin .append, cl, ts⟩, U, pos, aft, g⟩ K Q l w := by
  subst hcl hts
  obtain ⟨hU, hsz, i, z, hi, hz, hsize, hby, hzs⟩ := hT
  obtain ⟨b, off, hA, hc⟩ := hrd.flat
  have hlen : (ys.flatMap enc).length = m * size := by
    rw [← hrd.len]
    exact flat_len hl ys
  have fin : ∀ v' w', w'.ownsRow base e size v' (xs.length + m) (xs.flatMap enc ++ ys.flatMap enc) → Own enc base e size w' v' (xs ++ ys) := by
    intro v' w' h; unfold Own; rw [List.length_append, List.flatMap_append, hrd.len]; exact h
  cases A with
  | some a =>
    have hnews : ∀ j u, (ys.flatMap enc)[j]? = some u → w.cell? (a.add j) = some u := by
      intro j u hj
      obtain ⟨i', k', y, e1, e2, e3⟩ := flat_get hl ys j u hj
      have hi' := (List.getElem?_eq_some_iff.1 e2).1
      have hA' := hA (by have := hrd.len; omega)
      cases hA'
      have := hc i' y e2 k' u e3
      rw [add_lit, e1, ← Nat.add_assoc]; exact this
    obtain ⟨v', w', hr, h2, h3, h4, h5⟩ := run_append_own_at (P := P) (w := w) base T U e i z size bytes hU hi hz hsize hby hzs hsz v xs.length _ hown a m c _ hlen hnews
      (by intro u hu; obtain ⟨y, _, hy⟩ := List.mem_flatMap.1 hu; exact List.all_eq_true.1 (h1 y) u hy) (by simpa [maxLen] using hm) hb hbase
    refine op_val rfl hN (fun a ha => ?_) (k v' w' (fin _ _ h2) h3 h5) (dk_grown hown h3)
    simp [execOp, resolve, invoke, builtin, ha.eval hs, ha.eval hx, hr]
  | none =>
    have hm0 : m = 0 := by
      rcases Nat.eq_zero_or_pos m with h | h
      · exact h
      · cases hA h
    subst hm0
    have hy : ys = [] := List.eq_nil_of_length_eq_zero hrd.len
    subst hy
    have hr : (Builtin.append_ #[T, T] U #[v, .slice none 0 c]).run P w = .ok v w := by
      rcases hown.2 with ⟨rfl, _⟩ | ⟨gg, cap, cur, rfl, _, _, hnc, _⟩
      · simp [Builtin.append_, run_underlying hU, sizeOf, typeInfo, hi, Builtin.lenOf, Builtin.firstCells]
      · simp [Builtin.append_, run_underlying hU, sizeOf, typeInfo, hi, Builtin.lenOf, Builtin.firstCells, hnc, storeCells]
    refine op_val rfl hN (fun a ha => ?_) (k v w (by simpa using hown) ⟨rfl, rfl, rfl, Nat.le_refl _, fun _ _ _ => rfl⟩ (.inl rfl))
    simp [execOp, resolve, invoke, builtin, ha.eval hs, ha.eval hx, hr]

theorem op_indexArr {x y : Operand} {kd : IntKind} {b o n e sz j : Nat} {i : Int} (hx : evo l x = some (.pointer (some ⟨b, o, none⟩))) (hy : evo l y = some (.int kd i)) (hU : Und P T (.array n e)) (hS : Sz P e sz) (hj : i = (j : Int)) (hlt : j < n)
    (hN : Nat.blt d N.n = true) (k : K ((d, .pointer (some ⟨b, o + j * sz, none⟩)) :: l) w) :
    OpW P N ⟨some d, .indexAddr T x y, U, pos, aft, g⟩ K Q l w := by
  subst hj
  refine op_val rfl hN (fun s hs => ?_) k
  simp [execOp, hs.eval hx, hs.eval hy, Instr.indexAt, Instr.sureAddr, asIntOf, run_underlying hU, hS w, add_lit, hlt]

/-! whole numbers: other kinds -/
theorem op_conv_int {src dst : TypeId} {x : Operand} {ka kd : IntKind} {a r : Int} (hx : evo l x = some (.int ka a)) (hU : Und P dst (.int kd)) (hr : kd.wrap a = r) (hS : ∃ ds, Und P src ds) (hN : Nat.blt d N.n = true) (k : K ((d, .int kd r) :: l) w) :
    OpW P N ⟨some d, .convert src dst x, U, pos, aft, g⟩ K Q l w := by
  obtain ⟨ds, hds⟩ := hS
  refine op_convert hx (fun w => ?_) hN k
  subst hr
  simp only [convert, Sem.run_bind, run_underlying hds, run_underlying hU, Result.andThen_ok]
  cases ds <;> rfl
theorem op_shr {x y : Operand} {kd ky : IntKind} {a b r : Int} {T' : TypeId} (hx : evo l x = some (.int kd a)) (hy : evo l y = some (.int ky b)) (h0 : 0 ≤ b) (hr : a.fdiv (2 ^ min b.toNat kd.bits) = r) (hN : Nat.blt d N.n = true) (k : K ((d, .int kd r) :: l) w) :
    OpW P N ⟨some d, .binOp .shr T x y T', U, pos, aft, g⟩ K Q l w := by
  refine op_bin hx hy (fun w => by simp [eqGuard]) (fun w => ?_) hN k
  subst hr
  have : ¬ b < 0 := by omega
  simp [binOp, Op.shift, this]
theorem op_shrN {x y : Operand} {kd ky : IntKind} {n s : Nat} {T' : TypeId} (hx : evo l x = some (.int kd ((n : Nat) : Int))) (hy : evo l y = some (.int ky ((s : Nat) : Int))) (hs : Nat.ble s kd.bits = true) (hN : Nat.blt d N.n = true) (k : K ((d, .int kd ((n / 2 ^ s : Nat) : Int)) :: l) w) :
    OpW P N ⟨some d, .binOp .shr T x y T', U, pos, aft, g⟩ K Q l w := by
  refine op_shr hx hy (by omega) ?_ hN k
  have h1 : min ((s : Nat) : Int).toNat kd.bits = s := by
    have := Nat.le_of_ble_eq_true hs
    simp; omega
  rw [h1, Int.fdiv_eq_ediv_of_nonneg _ (by exact Int.pow_nonneg (by omega))]
  norm_cast
/-- s[j:] -/
theorem op_sliceLo {x y : Operand} {kd : IntKind} {A : Option Addr} {n c e sz j : Nat} {i : Int} (hx : evo l x = some (.slice A n c)) (hy : evo l y = some (.int kd i)) (hU : Und P T (.slice e)) (hS : Sz P e sz) (hj : i = (j : Int)) (hle : j ≤ n) (hN : Nat.blt d N.n = true)
    (k : K ((d, .slice (if c = j then A else A.map (·.add (j * sz))) (n - j) (c - j)) :: l) w) : OpW P N ⟨some d, .slice T x (some y) none none, U, pos, aft, g⟩ K Q l w := by
  subst hj
  refine op_val rfl hN (fun s hs => ?_) k
  have h1 : (0 : Int) ≤ (j : Int) ∧ (j : Int) ≤ (n : Int) := by omega
  simp [execOp, hs.eval hx, hs.eval hy, Instr.sliceAt, Instr.slice, Instr.sliceBounds, Instr.sliceBound, asIntOf, run_underlying hU, hS w, hle]
theorem u64_in {n : Int} (h : 0 ≤ n ∧ n ≤ 18446744073709551615) : IntKind.u64.wrap n = n := wrap_in h
end
end Go.Eng
