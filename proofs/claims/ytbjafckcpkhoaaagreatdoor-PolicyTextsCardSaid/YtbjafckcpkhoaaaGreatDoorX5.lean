/- Lemmas for a law of the seat: what functions of the program do, each stated as a contract of its own (X5). -/
import Derived.WalkKit
import Derived.ProofKit
import Derived.OpenShut
import Derived.ShutString
import Derived.ChangeOld
import Derived.Below
import Derived.SizedLaws
import Derived.LaidMore
import Derived.LaidHandle
import Derived.MakeChecks
import Derived.Stop.Joined
import Derived.SevenTiedAt
import Derived.Lib.LaidTab
import Derived.Lay
import Derived.LaidOnce
import Derived.Test.YtbjafckcpkhoaaaGreatDoorX2
set_option linter.unusedVariables false
namespace Go.Ab
open Go.RowKit Go.Shelf Go.Proofs Go.Eng
/-! rows of laws that read variables of the library -/
/-- The contract of a row may use what the row lists, and the world's shape. -/
theorem rets_of {H : Type} {enc : TypeId × Value → H} {a : Assume} {C : Checked} {os : Os} {f : FuncId} {fn : Func} {s : ChangeSpec} {conds : List PathCond} {apart fresh handsOn again : Bool} {X : World → Array Value → Prop}
    (hX : ∀ (w w' : World) (args : Array Value), w.heap = w'.heap → X w args → X w' args)
    (own : ownKnob C.prog.godebug = none) (started : os.Started) (noInit : C.prog.inits.idxOf? f = none) (hfn : C.prog.funcs[f]? = some fn)
    (witness : ∃ (w : World) (tape : Tape) (i : Input), w.os = os ∧ (w.forCall tape i).Shaped C.prog ∧ i.vars = [] ∧ Input.okWide C.prog (w.forCall tape i) .any w.heap.size f i ∧
      ((s.pre enc C.prog fn conds apart (w.forCall tape i).memory i.args ∧ X (w.forCall tape i).memory i.args) ∧ sizedMet enc C.prog fn (OpenSpec.ofChange s) apart (w.forCall tape i).memory i.args) ∧ a.holds C.prog (lone (Frame.enter C.prog f i.args .normal) [] (w.forCall tape i)))
    (law : ∀ (W : World) (base : Nat) (args : Array Value) (ds gs : List (DataW H)) (before : List MemPlace),
      (∀ (j : Nat) t v, fn.params[j]? = some t → args[j]? = some v → Value.okWide C.prog W .any base t v) →
      DataW.Whole enc C.prog fn.params.toList s.vars apart W args.toList ds gs before →
      (DataW.weightsEach C.prog (fn.params.toList ++ s.plain.varTypes C.prog) (ds ++ gs)).all (· ≤ reachBytes) = true → X W args → W.ShapedOpen C.prog →
      Calls C.prog f args W fun e W' => ∃ v, e = .returned v ∧ s.post enc C.prog fn apart fresh handsOn again W args v W') :
    ReturnsInHanded a C os f .any (fun w args => (s.pre enc C.prog fn conds apart w args ∧ X w args) ∧ sizedMet enc C.prog fn (OpenSpec.ofChange s) apart w args) (s.post enc C.prog fn apart fresh handsOn again) := by
  refine returnsInHanded_of_calls own started noInit witness fun w tape i _ hsh _ hok hpre _ => ?_
  obtain ⟨_, _, _, fn2, hfn2, _, _, _, _, hval⟩ := hok
  obtain rfl : fn2 = fn := Option.some.inj (hfn2.symm.trans hfn)
  obtain ⟨⟨⟨ds, gs, before, hw, _⟩, hx⟩, hz⟩ := hpre
  have key := law (w.forCall tape i) w.heap.size i.args ds gs before hval (DataW.Whole.of_heap (w' := w.forCall tape i) (by rfl) hw) (hz.weights hw) (hX _ _ _ (by rfl) hx) hsh
  refine Calls.mono key ?_
  rintro e W' ⟨v, rfl, hp⟩
  exact ChangeSpec.post_blind hp
theorem law_callsT {T : Mem → Prop} {P : Program} {f : FuncId} {args : List AV} {W : World} {vs : List Value} {r : Bool} (h : RunsT T P f args [] fun q H => q = [.bool r] ∧ H = []) (hT : T (allM W [])) (hv : RepL (allM W []) [] args vs) : Ret P f vs.toArray W fun v W' => v = .bool r ∧ Below W.heap.size W W' := by
  have := h (allM W []) hT W W (allM W []) [] [] [] vs (Mem.le_refl _) hv ⟨rfl, rfl, fun i o h f hi => by simp at hi⟩ (by simpa using sh_law W)
  refine Calls.mono this ?_
  rintro e w' ⟨v, he, hd, rs', H', m', ρ', φ', ⟨rfl, rfl⟩, hm, _, _, ho, hs, us, hu, rfl⟩
  have hφ : φ' = [] := List.eq_nil_of_length_eq_zero ho.nφ
  subst hφ
  have h1 := rep_tup hu
  simp only [tupA, RepA] at h1
  exact ⟨_, he, hd, h1, below_all (sh_law W) (by simpa using hs) hm hd.2 hd.1⟩
/-- What a listed variable reads as. -/
theorem laid_mem {P : Program} {W : World} {n : String} {d : DataW Unit} : ∀ {l : List (String × DataW Unit)} {ps : List MemPlace}, DataW.LaidVars P W l ps → (n, d) ∈ l →
    ∃ g t cs fuel p, P.globalNamed n = some g ∧ (P.globals[g]?).map (·.type) = some t ∧ W.var? P n = some cs ∧ DataW.trod (fun _ => ()) P W 0 (fun _ => true) false fuel t cs.toList = some (d, p)
  | [], ps, _, h => by cases h
  | (a, b) :: l, ps, hl, h => by
    obtain ⟨g, t, cs, fuel, p, q, h1, h2, h3, h4, h5, h6⟩ := hl
    rcases List.mem_cons.1 h with e | h
    · cases e; exact ⟨g, t, cs, fuel, p, h1, h2, h3, h4⟩
    · exact laid_mem h5 h
theorem var_heap {P : Program} {W : World} {n : String} {g : Nat} {cs : Array Value} (hg : P.globalNamed n = some g) (h : W.var? P n = some cs) : ∃ T fr, W.heap[g]? = some (.cells cs T fr) := by
  unfold World.var? at h
  rw [hg] at h
  simp only [Option.bind_some] at h
  split at h
  · rename_i cs1 T fr hb
    obtain rfl := Option.some.inj h
    exact ⟨T, fr, hb⟩
  · cases h
/-- A listed table. -/
theorem laid_tab {P : Program} {W : World} {l : List (String × DataW Unit)} {n : String} {g t e : Nat} {k : IntKind} {zs : List Int} (h : laidMet P l W) (hm : (n, Lib.tabData k zs) ∈ l)
    (hg : P.globalNamed n = some g) (ht : (P.globals[g]?).map (·.type) = some t) (hu : P.underlying t = some (.array zs.length e)) (he : P.underlying e = some (.int k)) (hce : P.cellsOf e = 1) (hct : P.cellsOf t = zs.length) :
    ∃ T fr, allM W [] g = some (.cells (zs.map fun z => Value.int k z).toArray T fr) := by
  obtain ⟨ps, hl, _⟩ := h
  obtain ⟨g', t', cs, fuel, p, h1, h2, h3, h4⟩ := laid_mem hl hm
  obtain rfl := Option.some.inj (hg.symm.trans h1)
  obtain rfl := Option.some.inj (ht.symm.trans h2)
  have e1 := Lib.cells_of_tab hu he hce hct h4
  obtain ⟨T, fr, h5⟩ := var_heap hg h3
  exact ⟨T, fr, by rw [allM_nil h5 rfl, ← e1]⟩
def isIface : Option TypeDesc → Bool
  | some (.interface _) => true
  | _ => false
/-- A listed error. -/
theorem laid_iface {P : Program} {W : World} {l : List (String × DataW Unit)} {n nm : String} {g t : Nat} {d : DataW Unit} (h : laidMet P l W) (hm : (n, DataW.iface nm d) ∈ l)
    (hg : P.globalNamed n = some g) (ht : (P.globals[g]?).map (·.type) = some t) (hu : isIface (P.underlying t) = true) : ∃ u v T fr, allM W [] g = some (.cells #[.iface u v] T fr) := by
  obtain ⟨ps, hl, _⟩ := h
  obtain ⟨g', t', cs, fuel, p, h1, h2, h3, h4⟩ := laid_mem hl hm
  obtain rfl := Option.some.inj (hg.symm.trans h1)
  obtain rfl := Option.some.inj (ht.symm.trans h2)
  obtain ⟨T, fr, h5⟩ := var_heap hg h3
  have key : ∃ u v, cs = #[.iface u v] := by
    cases fuel with
    | zero => simp [DataW.trod] at h4
    | succ fuel =>
      unfold DataW.trod at h4
      unfold isIface at hu
      split at hu
      · rename_i x hx
        rw [hx] at h4
        split at h4 <;> simp_all
        rename_i u v _ hcs
        exact ⟨u, v, by cases cs; simp_all⟩
      · cases hu
  obtain ⟨u, v, rfl⟩ := key
  exact ⟨u, v, T, fr, allM_nil h5 rfl⟩
/-- A variable of a whole number's type. -/
theorem shaped_int {P : Program} {w : World} {g : Nat} {t : TypeId} {zero : Array Value} {k : IntKind} (h : w.ShapedOpen P) (hg : g < P.globals.size)
    (h0 : ((begin P (fun _ _ => 0) default).world.heap[g]?).bind Obj.row? = some (zero, t)) (hz : zero.size = 1) (hb : P.buildable t = true) (hc : P.cellTypes P.depth t = some [t]) (hu : P.underlying t = some (.int k)) :
    ∃ m T fr, allM w [] g = some (.cells #[.int k m] T fr) := by
  obtain ⟨cs, hh, hs, hr⟩ := h.1 g zero t hg h0
  obtain ⟨ts, hts, _, hall⟩ := hr hb
  rw [hc] at hts
  cases hts
  have h1 : cs.size = 1 := by omega
  obtain ⟨v, rfl⟩ : ∃ v, cs = #[v] := by
    obtain ⟨l⟩ := cs
    match l, h1 with
    | [v], _ => exact ⟨v, rfl⟩
  obtain ⟨u, hu', hok⟩ := hall 0 v (by simp)
  obtain rfl : u = t := by simpa using hu'.symm
  unfold Cell.ok at hok
  rw [hu] at hok
  cases hv : v <;> rw [hv] at hok <;> simp at hok
  case int k' n => exact ⟨n, _, _, by rw [← hok.1]; exact allM_nil (by rw [hh, hv]) rfl⟩
end Go.Ab

