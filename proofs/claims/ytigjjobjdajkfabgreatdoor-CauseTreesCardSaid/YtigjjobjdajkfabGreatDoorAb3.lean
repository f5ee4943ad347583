/- Lemmas for a law of the seat: what functions of the program do, each stated as a contract of its own (Ab3). -/
import Derived.Test.YtigjjobjdajkfabGreatDoorAb2
import Derived.Maps.RangeRun
set_option linter.unusedVariables false
set_option linter.unusedSimpArgs false
namespace Go.Ab
open Go.RowKit Go.Shelf Go.Proofs Go.Eng

/-! maps of what the call owns -/
section
variable {m : Mem} {ρ : List Value} {k : Ty} {v : OT} {hs hs' : List (k.den × Nat)}
end

/-! what is put in -/
end Go.Ab


set_option linter.unusedVariables false
set_option linter.unusedSimpArgs false
namespace Go.Ab
open Go.RowKit Go.Shelf Go.Proofs Go.Eng

section
variable {P : Program} {N : Ev} {X : Cx} {Q : APost} {st : AS}
variable {d : Nat} {T U T' : TypeId} {pos : String} {aft : Array Edge} {g : Option (Nat × Bool)} {x y z : Operand}

def killF : List Frag → List Nat → List Frag
  | φ, [] => φ
  | φ, j :: js => killF (φ.set j []) js
theorem killF_perm : ∀ {js : List Nat} {φ : List Frag}, js.Nodup → (∀ j ∈ js, j < φ.length) → φ.flatten.Perm ((js.flatMap fun j => φ.getD j []) ++ (killF φ js).flatten) := by
  intro js
  induction js with
  | nil => intro φ _ _; simp [killF]
  | cons j js ih =>
    intro φ hnd hl
    rw [List.nodup_cons] at hnd
    have hj := hl j (by simp)
    have hg : φ[j]? = some (φ.getD j []) := by rw [List.getD_eq_getElem?_getD, List.getElem?_eq_getElem hj]; rfl
    have h1 := frag_split hg []
    have h2 := ih (φ := φ.set j []) hnd.2 (fun q hq => by simpa using hl q (by simp [hq]))
    have h3 : (js.flatMap fun q => (φ.set j []).getD q []) = js.flatMap fun q => φ.getD q [] := by
      rw [List.flatMap_def, List.flatMap_def]
      congr 1
      apply List.map_congr_left
      intro q hq
      rw [List.getD_eq_getElem?_getD, List.getD_eq_getElem?_getD, List.getElem?_set_ne (fun e : j = q => hnd.1 (by rw [e]; exact hq))]
    rw [h3] at h2
    refine h1.1.trans ?_
    rw [List.flatMap_cons, List.append_assoc]
    refine List.Perm.append_left _ ?_
    have h4 := h1.2
    rw [List.nil_append] at h4
    exact h4.symm.trans h2

end
end Go.Ab


set_option linter.unusedVariables false
set_option linter.unusedSimpArgs false
namespace Go.Ab
open Go.RowKit Go.Shelf Go.Proofs Go.Eng

section
variable {P : Program} {N : Ev} {X : Cx} {Q : APost} {st : AS}
variable {d : Nat} {T U T' : TypeId} {pos : String} {aft : Array Edge} {g : Option (Nat × Bool)} {x y z : Operand}

theorem Conc.before {fr : Fr} {w : World} {m : Mem} {ρ : List Value} {φ : List Frag} (hc : Conc X st fr w m ρ φ) {js : List Nat} (hnd : js.Nodup) (hl : ∀ j ∈ js, j < st.n) : SH X.e w m ((js.flatMap fun j => φ.getD j []) ++ ((killF φ js).flatten ++ X.F)) := by
  refine hc.sh.perm ?_
  rw [← List.append_assoc]
  exact (killF_perm hnd (fun j hj => by rw [hc.nφ]; exact hl j hj)).append_right _
end
end Go.Ab


set_option linter.unusedVariables false
set_option linter.unusedSimpArgs false
namespace Go.Ab
open Go.RowKit Go.Shelf Go.Proofs Go.Eng

/-! what is taken out -/
/-- Roots, their handles, where they lie. -/
def Roots (m : Mem) (ρ : List Value) : List AO → List Value → List Frag → Prop
  | [], [], [] => True
  | o :: os, h :: hs, g :: gs => ORep m ρ o h g ∧ Roots m ρ os hs gs
  | _, _, _ => False
theorem Roots.mono {m : Mem} {ρ ρ' : List Value} (hρ : ∀ (i : Nat) (h : Value), ρ[i]? = some h → ρ'[i]? = some h) : ∀ {os : List AO} {hs : List Value} {gs : List Frag}, Roots m ρ os hs gs → Roots m ρ' os hs gs := by
  intro os
  induction os with
  | nil => intro hs gs h; cases hs with
    | nil => cases gs with
      | nil => trivial
      | cons => exact h.elim
    | cons => exact h.elim
  | cons o os ih => intro hs gs h; cases hs with
    | nil => exact h.elim
    | cons u hs => cases gs with
      | nil => exact h.elim
      | cons g gs => exact ⟨h.1.mono (Mem.le_refl _) hρ, ih h.2⟩
theorem Roots.app {m : Mem} {ρ : List Value} : ∀ {os os' : List AO} {hs hs' : List Value} {gs gs' : List Frag}, Roots m ρ os hs gs → Roots m ρ os' hs' gs' → Roots m ρ (os ++ os') (hs ++ hs') (gs ++ gs') := by
  intro os
  induction os with
  | nil => intro os' hs hs' gs gs' h k; cases hs with
    | nil => cases gs with
      | nil => exact k
      | cons => exact h.elim
    | cons => exact h.elim
  | cons o os ih => intro os' hs hs' gs gs' h k; cases hs with
    | nil => exact h.elim
    | cons u hs => cases gs with
      | nil => exact h.elim
      | cons g gs => exact ⟨h.1, ih h.2 k⟩
theorem Roots.get {m : Mem} {ρ : List Value} : ∀ {os : List AO} {hs : List Value} {gs : List Frag}, Roots m ρ os hs gs → os.length = hs.length ∧ gs.length = hs.length ∧ ∀ (q : Nat) (h : Value) (f : Frag), hs[q]? = some h → gs[q]? = some f → ∃ o, os[q]? = some o ∧ ORep m ρ o h f := by
  intro os
  induction os with
  | nil => intro hs gs h; cases hs with
    | nil => cases gs with
      | nil => exact ⟨rfl, rfl, fun q h f hq => by simp at hq⟩
      | cons => exact h.elim
    | cons => exact h.elim
  | cons o os ih => intro hs gs h; cases hs with
    | nil => exact h.elim
    | cons u hs => cases gs with
      | nil => exact h.elim
      | cons g gs =>
        obtain ⟨h1, h2, h3⟩ := ih h.2
        refine ⟨by simp [h1], by simp [h2], fun q h' f a b => ?_⟩
        cases q with
        | zero => simp at a b; subst a b; exact ⟨o, rfl, h.1⟩
        | succ q => simpa using h3 q h' f (by simpa using a) (by simpa using b)
end Go.Ab


set_option linter.unusedVariables false
set_option linter.unusedSimpArgs false
namespace Go.Ab
open Go.RowKit Go.Shelf Go.Proofs Go.Eng

section
variable {P : Program} {N : Ev} {X : Cx} {Q : APost} {st : AS}

end
end Go.Ab


set_option linter.unusedVariables false
set_option linter.unusedSimpArgs false
namespace Go.Ab
open Go.RowKit Go.Shelf Go.Proofs Go.Eng

/-! regions whose order is drawn, in which values are read ahead of a turn or behind it -/
section
variable {P : Program} {N : Ev} {Q : Post} {l : Fr} {w : World}

structure LateOk (P : Program) (N : Ev) (ops : List Oper) (m : Nat) (fl : List Nat) (Ψ : Nat → Value → Prop) (Q : Post) (l2 : Fr) (W2 : World) : Prop where
  run : ∀ j ∈ fl, ∀ o, ops[j]? = some o → o.guard = none ∧ ∃ d, o.dst = some d ∧ d < N.n ∧ l2.look d = none ∧ (∀ j' ∈ fl, ∀ o', ops[j']? = some o' → o'.dst = some d → j' = j) ∧
    ∀ W, Below W2.heap.size W2 W → OpW P N o (fun l' W' => (∃ v, l'.look d = some v ∧ Ψ j v) ∧ Below W.heap.size W W') Q l2 W

end
end Go.Ab


set_option linter.unusedVariables false
set_option linter.unusedSimpArgs false
namespace Go.Ab
open Go.RowKit Go.Shelf Go.Proofs Go.Eng

section
variable {P : Program} {N : Ev} {Q : Post} {l : Fr} {w : World}
end
end Go.Ab


set_option linter.unusedVariables false
set_option linter.unusedSimpArgs false
namespace Go.Ab
open Go.RowKit Go.Shelf Go.Proofs Go.Eng

section
variable {P : Program} {N : Ev} {X : Cx} {Q : APost} {st : AS}

/-- What is owed of the values that are read late, behind the turn. -/
def LateV (P : Program) (N : Ev) (ops : List Oper) (Ts : List TT) (st : AS) : List Nat → Prop
  | [] => True
  | j :: r => (∀ X' o, ops[j]? = some o → AOpV P N X' o (ttAt Ts j).2 st) ∧ LateV P N ops Ts st r
theorem LateV.at {ops : List Oper} {Ts : List TT} : ∀ {fl : List Nat}, LateV P N ops Ts st fl → ∀ j ∈ fl, ∀ X' o, ops[j]? = some o → AOpV P N X' o (ttAt Ts j).2 st := by
  intro fl
  induction fl with
  | nil => intro _ j hj; simp at hj
  | cons a r ih =>
    intro h j hj
    rcases List.mem_cons.1 hj with rfl | hj
    · exact h.1
    · exact ih h.2 j hj

end
end Go.Ab


set_option linter.unusedVariables false
set_option linter.unusedSimpArgs false
namespace Go.Ab
open Go.RowKit Go.Shelf Go.Proofs Go.Eng

section
variable {P : Program} {N : Ev} {X : Cx} {Q : APost} {st : AS}
variable {d : Nat} {T U T' : TypeId} {pos : String} {aft : Array Edge} {g : Option (Nat × Bool)} {x y : Operand}
/-! a pointer against nil -/
end
end Go.Ab


set_option linter.unusedVariables false
set_option linter.unusedSimpArgs false
namespace Go.Ab
open Go.RowKit Go.Shelf Go.Proofs Go.Eng

/-! calls of closures that turn what they hold -/
section
variable {P : Program} {N : Ev} {X : Cx} {Q : APost} {st : AS}
variable {d : Nat} {U : TypeId} {pos : String} {aft : Array Edge} {g : Option (Nat × Bool)}
theorem aop_callOv {f : FuncId} {fx : Operand} {first caps : List AV} {xs : List Operand} {as1 as' rs : List AV} {H1 H' : List AO} {σ : List Nat} {ts : Array TypeId} {K : AS → Prop} {r : AV} (hfx : aev st.l fx = some (.fn f first caps)) (hr : RunsM X.m P f as1 H1 fun q Hq => q = rs ∧ Hq = H') (hf : Enters P f) (hx : xs.map (aev st.l) = as'.map some) (hcv : cvL (renL σ as1) (first ++ as' ++ caps)) (hσ : (nodupB σ && σ.all fun i => Nat.blt i st.n) = true) (hH : σ.map st.H.get = H1.map (AO.ren σ))
    (hrs : tupA (renL (σ ++ fromN st.n (H'.length - σ.length)) rs) = r) (k : K ⟨(d, r) :: st.l, updH 0 (σ ++ fromN st.n (H'.length - σ.length)) (H'.map (AO.ren (σ ++ fromN st.n (H'.length - σ.length)))) st.H, st.n + (H'.length - σ.length)⟩) (hN : Nat.blt d N.n = true := by rfl) :
    AOp P N X ⟨some d, .call ⟨.value fx, xs.toArray, ts⟩, U, pos, aft, g⟩ K st :=
  aop_of fun Q fr w m ρ φ hc K' hK => by
    obtain ⟨vs, h1, h2⟩ := hc.evl hx
    obtain ⟨v, h3, h4⟩ := hc.ev hfx
    simp only [RepA] at h4
    obtain ⟨us, ws, rfl, h5, h6⟩ := h4
    have hσ' := hσ
    rw [Bool.and_eq_true] at hσ'
    refine op_callv (args := (us ++ vs ++ ws).toArray) h3 hf h1 (by simp) (ret_own hr hc hσ hH (cvL_rep hcv ((h5.app h2).app h6))) hN ?_
    rintro v w' ⟨rs', H'', m', ρ1', φ1', ⟨rfl, rfl⟩, g1, g2, g3, g4, g5, us, g6, rfl⟩
    subst hrs
    obtain ⟨ρ', φ', hcc⟩ := conc_call (d := d) (av := tupA (renL (σ ++ fromN st.n (H''.length - σ.length)) rs')) (v := tupleOf us) hc (nodup_of hσ'.1) (fun i hi => by have := hσ'.2; rw [List.all_eq_true] at this; simpa using this i hi) g1 g2 g3 g4 g5 (fun ρ' hb => rep_tup (renL_bwd hb _ g6))
    exact hK _ _ _ _ _ _ hcc k
end
end Go.Ab


set_option linter.unusedVariables false
set_option linter.unusedSimpArgs false
namespace Go.Ab
open Go.RowKit Go.Shelf Go.Proofs Go.Eng

/-! maps that are read alone -/
theorem dm_cases {m : Mem} {tk tv : Ty} {x : List (tk.den × tv.den)} {v : Value} (h : RC m (.map tk tv) x [v]) : (x = [] ∧ v = .map none) ∨ ∃ b es cl, v = .map (some b) ∧ m b = some (.map es cl) ∧ EntM m tk tv x es cl := by
  rcases h with ⟨h1, h2⟩ | ⟨b, es, cl, h1, h2, h3⟩
  · exact .inl ⟨h1, by simpa using h2⟩
  · exact .inr ⟨b, es, cl, by simpa using h1, h2, h3⟩
theorem entM_L {m : Mem} {tk tv : Ty} {x : List (tk.den × tv.den)} {es : Array MapEntry} {cl : Nat} (h : EntM m tk tv x es cl) : EntL m tk tv x es.toList := ent_of h.1 h.2.2.2

section
variable {P : Program} {N : Ev} {X : Cx} {Q : APost} {st : AS}
variable {d : Nat} {T U T' : TypeId} {pos : String} {aft : Array Edge} {g : Option (Nat × Bool)} {x y z : Operand} {k ky : IntKind} {a b : Int}

theorem run_lookupN {w : World} {m : Mem} {tk tv : Ty} [DecidableEq tk.den] {kx : tk.den} {kT eT : Nat} {v : Value} {ok : Bool} (hU : Und P T (.map kT eT)) (hK : KeyT P kT tk) (hZ : ZeroW P eT tv) (hk : RV m tk kx v) :
    ∃ u, RV m tv tv.dflt u ∧ (Instr.lookup T (.map none) v ok).run P w = .ok (if ok then .tuple #[u, .bool false] else u) w := by
  obtain ⟨r, h1, h2⟩ := hK.find m kx v tv [] [] w hk trivial
  have h3 := hK.chk m kx v true w hk
  obtain ⟨zv, h4, h5⟩ := hZ
  cases r with
  | some q => obtain ⟨q, u⟩ := q; obtain ⟨y, h6, _⟩ := h2; simp [mget] at h6
  | none =>
    refine ⟨zv, h5 m, ?_⟩
    simp only [Instr.lookup, Sem.run_bind, run_underlying hU, Result.andThen_ok, Sem.run_pure, Array.isEmpty_empty, h3, h1, h4 w]
theorem dm_lookup {fr : Fr} {w : World} {m : Mem} {ρ : List Value} {φ : List Frag} (hc : Conc X st fr w m ρ φ) {kT eT : Nat} {tk tv : Ty} [DecidableEq tk.den] {xs : List (tk.den × tv.den)} {kx : tk.den} {v u : Value} {ok : Bool} (hU : Und P T (.map kT eT)) (hK : KeyT P kT tk) (hZ : ZeroW P eT tv) (hv : RepA m ρ (.dm tk tv xs) v) (hk : RV m tk kx u) :
    ∃ q, RV m tv ((mget xs kx).getD tv.dflt) q ∧ (Instr.lookup T v u ok).run P w = .ok (if ok then .tuple #[q, .bool (mget xs kx).isSome] else q) w := by
  simp only [RepA] at hv
  rcases dm_cases hv with ⟨rfl, rfl⟩ | ⟨b, es, cl, rfl, h1, h2⟩
  · exact run_lookupN (w := w) hU hK hZ hk
  · exact run_lookup hU hK hZ (hc.sh.fz _ _ h1) (entM_L h2) hk
theorem av_lookup_dm {kT eT : Nat} {tk tv : Ty} [DecidableEq tk.den] {xs : List (tk.den × tv.den)} {kx : tk.den} {r : AV} (hU : Und P T (.map kT eT)) (hK : KeyT P kT tk) (hZ : ZeroW P eT tv) (hx : aev st.l x = some (.dm tk tv xs)) (hy : aev st.l y = some (whole tk kx)) (hno : tk.noArr = true) (hr : whole tv ((mget xs kx).getD tv.dflt) = r) (hN : Nat.blt d N.n = true := by rfl) :
    AOpV P N X ⟨some d, .lookup T x y false, U, pos, aft, g⟩ r st :=
  av_of rfl fun Q fr w m ρ φ hc => by
    subst hr
    obtain ⟨v, h1, h2⟩ := hc.ev hx
    obtain ⟨u, h3, h4⟩ := hc.ev hy
    obtain ⟨q, h7, h8⟩ := dm_lookup (ok := false) hc hU hK hZ h2 (whole_rv hno h4)
    refine ⟨q, rv_whole h7, fun K hk => op_val rfl hN (fun ac ha => ?_) hk⟩
    simp only [execOp, ha.eval h1, ha.eval h3]
    rw [Sem.run_bind, h8]; rfl
/-! loops over maps -/
/-! the next one -/
end

end Go.Ab


set_option linter.unusedVariables false
set_option linter.unusedSimpArgs false
namespace Go.Ab
open Go.RowKit Go.Shelf Go.Proofs Go.Eng

/-! functions that may give more than one thing: told by what holds of all of them -/
section
variable {P : Program} {N : Ev} {X : Cx} {Q : APost} {st : AS}
variable {d : Nat} {T U T' : TypeId} {pos : String} {aft : Array Edge} {g : Option (Nat × Bool)} {x y z : Operand}
end
end Go.Ab


set_option linter.unusedVariables false
set_option linter.unusedSimpArgs false
namespace Go.Ab
open Go.RowKit Go.Shelf Go.Proofs Go.Eng

/-! tables that lie in the memory that is read alone -/
abbrev Tabs := List (Nat × Array Value)
def TabM (L : Tabs) (m : Mem) : Prop := ∀ p ∈ L, ∃ T fr, m p.1 = some (.cells p.2 T fr)
theorem TabM.mono {L : Tabs} {m m' : Mem} (hm : m.le m') (h : TabM L m) : TabM L m' := fun p hp => let ⟨T, fr, h1⟩ := h p hp; ⟨T, fr, hm _ _ h1⟩
theorem runs_wT {L : Tabs} {P : Program} {f : FuncId} {fn : Func} {c : Code} {n : Nat} {args : List AV} {H : List AO} {R : List AV → List AO → Prop} {rs : List ResultVar} (hf : P.funcs[f]? = some fn) (hN : fn.ntmps = n) (hb : fn.body = some c) (hr : fn.results = rs.toArray) (hle : Nat.ble args.length n = true)
    (h : ∀ (w0 : World) (X : Cx), TabM L X.m → X.ρ.length = H.length → AWC P ⟨n, none, w0, none, false⟩ X c (retW P X rs H.length R) ⟨argA 0 args, zipH 0 H, H.length⟩) : RunsT (TabM L) P f args H R := by
  intro m0 hT e w m ρ φ F vs hm0 hv ho hs
  have hl := hv.len
  refine ret_of hf hb hN (by rw [hl]; exact hle) hr ?_
  refine WC.mono ?_ (h w ⟨e, m, ρ, F⟩ (hT.mono hm0) ho.nρ _ _ _ _ _ (args_conc hv ho hs))
  rintro ex l w' ⟨st, m', ρ', φ', hc', hq⟩
  cases ex with
  | normal => obtain ⟨st', h3, h4⟩ := hq; obtain ⟨m'', ρ'', φ'', h5⟩ := h3 _ _ _ _ _ hc'; exact outs_conc (w := w) (m := m) h5 h4
  | ret => obtain ⟨st', h3, h4⟩ := hq; obtain ⟨m'', ρ'', φ'', h5⟩ := h3 _ _ _ _ _ hc'; exact outs_conc (w := w) (m := m) h5 h4
  | _ => exact hq.elim
/-! the kit's contracts of functions of whole numbers and texts -/
theorem repL_flat {m : Mem} {ρ : List Value} : ∀ {rs : List AV}, (rs.all flatB) = true → RepL m ρ rs (rs.map flatV) := by
  intro rs
  induction rs with
  | nil => intro _; simp [RepL]
  | cons a rs ih =>
    intro h
    simp only [List.all_cons, Bool.and_eq_true] at h
    simp only [List.map_cons, RepL]
    refine ⟨?_, ih h.2⟩
    cases a <;> simp_all [flatB, flatV, RepA]
theorem runs_flatT {L : Tabs} {P : Program} {f : FuncId} {as' rs : List AV} (ha : (as'.all flatB) = true) (hr : (rs.all flatB) = true)
    (h : ∀ w, (∀ p ∈ L, ∃ T fr, w.heap[p.1]? = some (.cells p.2 T fr)) → Calls P f (as'.map flatV).toArray w fun e w' => e = .returned (tupleOf (rs.map flatV)) ∧ Below w.heap.size w w') : RunsT (TabM L) P f as' [] fun r H' => r = rs ∧ H' = [] := by
  intro m0 hT e w m ρ φ F vs hm0 hv ho hs
  rw [flat_repL ha hv]
  refine Calls.mono (h w fun p hp => ?_) ?_
  · obtain ⟨T, fr, h1⟩ := hT p hp; exact ⟨T, fr, hs.fz _ _ (hm0 _ _ h1)⟩
  · rintro ex w' ⟨rfl, hb⟩
    exact ⟨_, rfl, ⟨DK.of_below hb, hb.size⟩, rs, [], m, ρ, φ, ⟨rfl, rfl⟩, Mem.le_refl _, fun _ _ h => h, Nat.le_refl _, ho, hs.ext hb, _, repL_flat hr, rfl⟩
end Go.Ab

