/- Lemmas for a law of the seat: what functions of the program do, each stated as a contract of its own (module AbT). -/
import Derived.Test.YtjagcoeihmhabaaAbS
import Derived.Test.YtjagcoeihmhabaaEngG
set_option linter.unusedVariables false
namespace Go.Ab
open Go.RowKit Go.Shelf Go.Proofs Go.Eng

/-! a law's call -/
theorem cells_allM {w : World} {b o : Nat} {vs : List Value} (h : Cells w b o vs) : CellsM (allM w []) b o vs := by
  intro j v hj
  have h1 := h j v hj
  unfold World.cell? at h1
  simp only at h1
  split at h1
  · rename_i cs T fr hb
    exact ⟨cs, T, fr, allM_nil hb rfl, h1⟩
  · cases h1
/-- A slice that is handed to a law. -/
theorem arg_slice {t : Ty} {R : World → List Value → t.den → Prop} {W : World} {A : Option Addr} {n c : Nat} {xs : List t.den} (h : Rd R t.cells W A n xs) (hc : n ≤ c) (hR : ∀ cs x, R W cs x → RC (allM W []) t x cs) : RepA (allM W []) [] (.sl t xs) (.slice A n c) := by
  obtain ⟨b, off, hA, hr⟩ := h.rows
  simp only [RepA, RC]
  refine ⟨A, n, c, rfl, h.len, hc, h.bd, b, off, hA, fun i y hy => ?_⟩
  obtain ⟨cs, h1, h2, h3⟩ := hr i y hy
  exact ⟨cs, hR _ _ h2, cells_allM h3⟩
theorem sh_law (W : World) : SH W W (allM W []) [] := ⟨rfl, rfl, rfl, fun b o hb => (of_allM hb).1, fun p hp => by simp at hp, by simp, fun p hp => by simp at hp, fun p hp => by simp at hp, fun b o hb => (of_allM hb).2⟩
/-- What a law does. -/
theorem law_calls {P : Program} {f : FuncId} {args : List AV} {W : World} {vs : List Value} {r : Bool} (h : RunsP P f args [.bool r]) (hv : RepL (allM W []) [] args vs) : Ret P f vs.toArray W fun v W' => v = .bool r ∧ Below W.heap.size W W' := by
  have := h W W (allM W []) [] [] [] vs hv ⟨rfl, rfl, fun i o h f hi => by simp at hi⟩ (by simpa using sh_law W)
  refine Calls.mono this ?_
  rintro e w' ⟨v, he, hd, rs', H', m', ρ', φ', ⟨rfl, rfl⟩, hm, _, _, ho, hs, us, hu, rfl⟩
  have hφ : φ' = [] := List.eq_nil_of_length_eq_zero ho.nφ
  subst hφ
  have h1 := rep_tup hu
  simp only [tupA, RepA] at h1
  exact ⟨_, he, hd, h1, below_all (sh_law W) (by simpa using hs) hm hd.2 hd.1⟩
end Go.Ab
