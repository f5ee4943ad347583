/- Lemmas for a law of the seat: what functions of the program do, each stated as a contract of its own (module EngG). -/
import Derived.Test.YtjagcoeihmhabaaEngE
import Derived.SizedLaws
import Derived.Deep.Slices
import Derived.Deep.Fields
import Derived.Carry
import Derived.OpenShut
set_option linter.unusedVariables false
set_option linter.unusedSimpArgs false
namespace Go.Eng
open Go.RowKit Go.Shelf Go.Proofs Go.ChangeShapes Go.WideShapes

/-! arguments as they are handed in -/
def BK : Type := Option (Option IntKind)
def BK.i (k : IntKind) : BK := some (some k)
def BK.s : BK := some none
def BK.b : BK := none
def BK.is (k : BK) (v : Value) : Prop := match k with
  | some (some k) => ∃ z, v = .int k z ∧ (Lit.int k z).wf = true
  | some none => ∃ z : ByteArray, v = .string z ∧ z.size ≤ maxLen
  | none => ∃ z, v = .bool z
def bkOf (P : Program) (t : TypeId) : Option BK := match P.underlying t with
  | some (.int k) => some (.i k)
  | some .string => some .s
  | some .bool => some .b
  | _ => none
def Cs : List BK → List Value → Prop
  | [], [] => True
  | k :: ks, v :: vs => k.is v ∧ Cs ks vs
  | _, _ => False
theorem cs_len {ks : List BK} : ∀ {cs : List Value}, Cs ks cs → cs.length = ks.length := by
  induction ks with
  | nil => intro cs h; cases cs with
    | nil => rfl
    | cons => exact h.elim
  | cons k ks ih => intro cs h; cases cs with
    | nil => exact h.elim
    | cons v vs => simp [ih h.2]
theorem cs_of {ks : List BK} : ∀ {cs : List Value}, cs.length = ks.length → (∀ (i : Nat) (k : BK), ks[i]? = some k → ∃ v, cs[i]? = some v ∧ k.is v) → Cs ks cs := by
  induction ks with
  | nil => intro cs hl h; cases cs with
    | nil => trivial
    | cons => simp at hl
  | cons k ks ih => intro cs hl h; cases cs with
    | nil => simp at hl
    | cons v vs =>
      obtain ⟨u, hu, hk⟩ := h 0 k (by simp)
      simp at hu; subst hu
      exact ⟨hk, ih (by simpa using hl) fun i k hi => by
        obtain ⟨u, hu, hk⟩ := h (i + 1) k (by simpa using hi)
        exact ⟨u, by simpa using hu, hk⟩⟩

theorem cs_cons {k : BK} {ks : List BK} {cs : List Value} (h : Cs (k :: ks) cs) : ∃ v vs, cs = v :: vs ∧ k.is v ∧ Cs ks vs := by
  cases cs with
  | nil => exact h.elim
  | cons v vs => exact ⟨v, vs, rfl, h.1, h.2⟩
theorem cs_nil {cs : List Value} (h : Cs [] cs) : cs = [] := by
  cases cs with
  | nil => rfl
  | cons => exact h.elim
theorem bk_i {k : IntKind} {v : Value} (h : (BK.i k).is v) : ∃ z, v = .int k z ∧ (Lit.int k z).wf = true := h
theorem bk_s {v : Value} (h : BK.s.is v) : ∃ z : ByteArray, v = .string z ∧ z.size ≤ maxLen := h
theorem bk_b {v : Value} (h : BK.b.is v) : ∃ z, v = .bool z := h

section
variable {H : Type} {enc : TypeId × Value → H} {P : Program} {w : World} {base : Nat} {sp : Nat → Bool} {held : Bool} {n : Nat}
theorem dec_one {t : TypeId} {k : BK} {cs : List Value} {y : DataW H × List MemPlace} (hk : bkOf P t = some k) (h : DataW.trod enc P w base sp held n t cs = some y) : Cs [k] cs := by
  unfold bkOf at hk
  split at hk
  · rename_i u; cases hk
    obtain ⟨z, rfl, _, hw⟩ := DataW.trod_int u h
    exact ⟨⟨z, rfl, hw⟩, trivial⟩
  · rename_i u; cases hk
    obtain ⟨z, rfl, _, hw⟩ := DataW.trod_string u h
    exact ⟨⟨z, rfl, hw⟩, trivial⟩
  · rename_i u; cases hk
    obtain ⟨z, rfl, _⟩ := DataW.trod_bool u h
    exact ⟨⟨z, rfl⟩, trivial⟩
  · cases hk
theorem dec_struct {e : TypeId} {fs : Array Field} {ks : List BK} {cs : List Value} {y : DataW H × List MemPlace} (hs : P.underlying e = some (.struct fs)) (ho : Deep.oneCellFields P fs = true) (hk : fs.toList.map (fun f => bkOf P f.type) = ks.map some)
    (hc : P.cellsOf e = ks.length) (h : DataW.trod enc P w base sp held n e cs = some y) : Cs ks cs := by
  obtain ⟨xs, m, _, _, hl, hxl, hf⟩ := DataW.trod_struct hs h
  have hlen : fs.size = ks.length := by have := congrArg List.length hk; simpa using this
  refine cs_of (by omega) fun i k hi => ?_
  have hlt := (List.getElem?_eq_some_iff.1 hi).1
  have hfi : fs[i]? = some (fs[i]'(by omega)) := Array.getElem?_eq_getElem (by omega)
  obtain ⟨h1, h2⟩ := Deep.hone_of ho i _ hfi
  have h3 := hf i _ hfi
  rw [h1, h2] at h3
  have h4 := congrArg (fun l => l[i]?) hk
  simp only [List.getElem?_map, hi, Option.map_some, Array.getElem?_toList, hfi] at h4
  have h5 : cs[i]? = some (cs[i]'(by omega)) := List.getElem?_eq_getElem (by omega)
  rw [Deep.take1_drop cs i undef (by omega), List.getElem?_eq_getElem (by omega)] at h3
  have h6 := dec_one (Option.some.inj h4) h3
  refine ⟨_, h5, ?_⟩
  have : cs.getD i undef = cs[i]'(by omega) := by simp [List.getElem?_eq_getElem (show i < cs.length by omega)]
  rw [this] at h6
  exact h6.1

theorem rd_arg {α : Type} [Inhabited α] {R : World → List Value → α → Prop} {t e : TypeId} {sz B j : Nat} {a : Option Addr} {len cap : Nat} {d : DataW H} {ps : List MemPlace} {ts : List TypeId} {ds : List (DataW H)}
    (hsz : (DataW.weightsEach P ts ds).all (· ≤ reachBytes) = true) (ht : ts[j]? = some t) (hd : ds[j]? = some d) (hu : P.underlying t = some (.slice e)) (hc : P.cellsOf e = sz) (hB : P.bytesOf e = B) (hB1 : Nat.ble 1 B = true) (hs1 : Nat.blt 0 sz = true)
    (hdec : ∀ (n : Nat) (cs : List Value) (y : DataW H × List MemPlace), DataW.trod enc P w 0 (fun _ => true) held n e cs = some y → ∃ x, cs.length = sz ∧ R w cs x)
    (h : DataW.Trod enc P w 0 (fun _ => true) held t (.slice a len cap) d ps) : ∃ xs : List α, Rd R sz w a len xs ∧ len ≤ cap := by
  have hB1' : 1 ≤ B := by simpa using hB1
  have hs1' : 0 < sz := by simpa using hs1
  obtain ⟨fuel, hf⟩ := h
  have hcs0 : (Value.slice a len cap).cells.toList = [.slice a len cap] := rfl
  rw [hcs0] at hf
  rcases Deep.open_slice hu hf with ⟨hcs, hx⟩ | ⟨a', len', cap', m, n, D, Pl, hcs, _, hl, hm, hmm, hx, hall⟩
  · cases hcs
    exact ⟨[], ⟨rfl, by decide, 0, 0, fun h => absurd h (by omega), fun i x hx => by simp at hx⟩, Nat.le_refl _⟩
  · cases hcs
    rw [if_pos rfl] at hmm
    subst hmm
    have hbd : len ≤ 140737488355328 := by
      obtain ⟨hx, _⟩ := Prod.mk.inj hx
      subst hx
      have z := sized_slice hsz ht hd hu
      rw [hB] at z
      simp only [List.length_map, List.length_range] at z
      have z1 := reachBytes_lt
      have z2 := Nat.le_trans (Nat.le_mul_of_pos_right _ hB1') z
      omega
    rw [hc] at hall
    have hrow : ∀ i, i < len → ∃ x : α, ∃ cs, cs.length = sz ∧ R w cs x ∧ (a'.spot = none) ∧ Cells w a'.block (a'.off + i * sz) cs := by
      intro i hi
      obtain ⟨cs, h1, h2⟩ := hall i (by omega)
      obtain ⟨x, h3, h4⟩ := hdec _ _ _ h2
      obtain ⟨_, h5, h6⟩ := World.cells?_some h1
      have hspot : a'.spot = none := by
        obtain ⟨cs0, g1, g2⟩ := hall 0 (by omega)
        obtain ⟨_, g5, g6⟩ := World.cells?_some g1
        have g7 := g6 0 hs1'
        rw [List.getElem?_eq_getElem (by omega)] at g7
        simpa [Addr.add] using World.cell?_spot g7
      refine ⟨x, cs, h3, h4, hspot, fun j u hj => ?_⟩
      have hjl := (List.getElem?_eq_some_iff.1 hj).1
      have h7 := h6 j (by omega)
      rw [hj] at h7
      obtain ⟨b0, o0, s0⟩ := a'
      simp only at hspot
      subst hspot
      rw [add_lit, add_lit] at h7
      exact h7
    obtain ⟨X, hX⟩ := Deep.choose_lt hrow
    refine ⟨(List.range len).map X, ⟨by simp, hbd, a'.block, a'.off, fun h0 => ?_, fun i x hi => ?_⟩, hl⟩
    · obtain ⟨_, _, _, hspot, _⟩ := hX 0 h0
      obtain ⟨b0, o0, s0⟩ := a'
      simp only at hspot
      subst hspot; rfl
    · have hil : i < len := by have := (List.getElem?_eq_some_iff.1 hi).1; simpa using this
      obtain ⟨cs, h1, h2, _, h3⟩ := hX i hil
      have : x = X i := by
        rw [List.getElem?_map, List.getElem?_range hil] at hi
        exact (Option.some.inj hi).symm
      subst this
      exact ⟨cs, h1, h2, h3⟩
end
end Go.Eng
