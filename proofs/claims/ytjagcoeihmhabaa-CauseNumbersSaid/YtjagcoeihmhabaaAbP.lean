/- Lemmas for a law of the seat: what functions of the program do, each stated as a contract of its own (module AbP). -/
import Derived.Test.YtjagcoeihmhabaaAbO
set_option linter.unusedVariables false
set_option linter.unusedSimpArgs false
namespace Go.Ab
open Go.RowKit Go.Shelf Go.Proofs Go.Eng

section
variable {P : Program} {N : Ev} {X : Cx} {Q : APost} {st : AS}
variable {d : Nat} {T U T' : TypeId} {pos : String} {aft : Array Edge} {g : Option (Nat × Bool)} {x y : Operand}

/-- A literal slice that the call owns. -/
theorem aop_buildSlice {E n : Nat} {t : Ty} {ps : List (Nat × Operand)} {qs : List (Nat × List AV)} {zs cs : List AV} {ys : List t.den} {K : AS → Prop} (hT : BuildS P T E t) (hx : evas st.l ps = qs.map some) (hz : ((List.replicate n (zeroV t)).flatten).map ofV1 = zs) (hl : layA (fun i => some (i * t.cells, t.cells)) zs qs = some cs) (hy : (ys.map (expl t)).flatten = cs) (hn : Nat.beq ys.length n = true) (hc : Nat.ble (n * t.cells) 16777216 = true) (hc1 : Nat.ble n 16777216 = true) (hno : t.noArr = true)
    (k : K (st.new d (.osl st.n) (.sl E t ys))) (hN : Nat.blt d N.n = true := by rfl) :
    AOp P N X ⟨some d, .buildSlice T n ps.toArray, U, pos, aft, g⟩ K st :=
  aop_of fun Q fr w m ρ φ hcc K' hK => by
  obtain ⟨vs, h1, h2, h3⟩ := hcc.evs hx
  have hzl := run_buildSlice (w := w) (ps := vs.toArray) hT hc (us := #[])
  have hz' : ∀ (l : List Value), RepL m ρ (l.map ofV1) l := by
    intro l
    induction l with
    | nil => simp [RepL]
    | cons v l ih => simp only [List.map_cons, RepL]; exact ⟨rep_ofV1 m ρ v, ih⟩
  obtain ⟨zz, hzz, _⟩ := hzl
  obtain ⟨us, h6, h7, h8⟩ := lay_fill (us := zz) hl h2 h3 (by rw [← hz, hzz]; exact hz' _) (by
    rw [hzz]; intro u hu
    obtain ⟨r, hr, hur⟩ := List.mem_flatten.1 hu
    rw [List.eq_of_mem_replicate hr] at hur
    exact zeroV_one t u hur)
  obtain ⟨zz', hzz', hrun⟩ := run_buildSlice (w := w) (ps := vs.toArray) hT hc (us := us)
  have hzeq : zz' = zz := Array.toList_inj.1 (hzz'.trans hzz.symm)
  subst hzeq
  have hr := hrun (by simpa using h6)
  have hn' := Nat.eq_of_beq_eq_true hn
  refine op_val (v := .slice (some ⟨w.heap.size, 0, none⟩) n n) rfl hN (fun s hs => ?_) ?_ (dk_new (new_push w (.cells us E)))
  · have e := evos_eval hs h1
    simp only [execOp, List.map_toArray, Sem.run_bind]
    rw [show (List.map (fun (x : Nat × Operand) => match x with | (i, x) => (i, s.eval x)) ps) = vs from e, hr]
    rfl
  · have hs := hcc.sh.alloc (new_push w (.cells us E)) rfl
    have hrows : RowsC m t ys us.toList := by rw [← hy] at h7; exact rows_of_expl hno h7
    have h47 : cap47 = 140737488355328 := rfl
    have hc1' := Nat.le_of_ble_eq_true hc1
    have hlen := hrows.len
    refine hK _ _ _ _ _ _ (hcc.newObj (h := .slice (some ⟨w.heap.size, 0, none⟩) n n) (f := [(w.heap.size, .cells us E)]) (Mem.le_refl _) hs ?_ ?_) k
    · refine ⟨by omega, .inr ⟨w.heap.size, n, us, us.toList, by rw [hn'], rfl, by omega, by simp only [maxLen]; omega, by rw [← hn', ← hlen]; simp, hrows, by rw [← hlen, List.take_length]⟩⟩
    · simp only [RepA]
      exact ⟨by rw [← hcc.nρ]; simp, rfl⟩
end
end Go.Ab
