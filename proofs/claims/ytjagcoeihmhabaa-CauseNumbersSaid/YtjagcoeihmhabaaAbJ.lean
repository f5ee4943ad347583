/- Lemmas for a law of the seat: what functions of the program do, each stated as a contract of its own (module AbJ). -/
import Derived.Test.YtjagcoeihmhabaaAbI
set_option linter.unusedVariables false
set_option linter.unusedSimpArgs false
namespace Go.Ab
open Go.RowKit Go.Shelf Go.Proofs Go.Eng

/-! maps -/
def mget {α β : Type} [DecidableEq α] : List (α × β) → α → Option β
  | [], _ => none
  | p :: r, k => if k = p.1 then some p.2 else mget r k
def mset {α β : Type} [DecidableEq α] : List (α × β) → α → β → List (α × β)
  | [], k, v => [(k, v)]
  | p :: r, k, v => if k = p.1 then (k, v) :: r else p :: mset r k v
def mdel {α β : Type} [DecidableEq α] : List (α × β) → α → List (α × β)
  | [], _ => []
  | p :: r, k => if k = p.1 then r else p :: mdel r k

theorem mset_keys {α β : Type} [DecidableEq α] : ∀ (x : List (α × β)) (k : α) (v : β), (mset x k v).map (·.1) = if k ∈ x.map (·.1) then x.map (·.1) else x.map (·.1) ++ [k] := by
  intro x k v
  induction x with
  | nil => simp [mset]
  | cons p r ih =>
    simp only [mset]
    by_cases h : k = p.1
    · rw [if_pos h]; simp [h]
    · rw [if_neg h, List.map_cons, ih]
      simp only [List.map_cons, List.mem_cons, h, false_or]
      split <;> simp
theorem mset_nodup {α β : Type} [DecidableEq α] {x : List (α × β)} (k : α) (v : β) (h : (x.map (·.1)).Nodup) : ((mset x k v).map (·.1)).Nodup := by
  rw [mset_keys]
  split
  · exact h
  · rename_i hn
    rw [List.nodup_append]
    exact ⟨h, by simp, fun a ha b hb e => by simp at hb; subst hb e; exact hn ha⟩
theorem mdel_sub {α β : Type} [DecidableEq α] : ∀ (x : List (α × β)) (k : α), (mdel x k).Sublist x := by
  intro x k
  induction x with
  | nil => simp [mdel]
  | cons p r ih =>
    simp only [mdel]
    split
    · exact List.sublist_cons_self _ _
    · exact ih.cons_cons p

/-- Entries, one for each pair. -/
def EntL (m : Mem) (tk tv : Ty) : List (tk.den × tv.den) → List MapEntry → Prop
  | [], [] => True
  | p :: x, e :: es => (RV m tk p.1 e.key ∧ RV m tv p.2 e.val) ∧ EntL m tk tv x es
  | _, _ => False
theorem ent_of {m : Mem} {tk tv : Ty} : ∀ {x : List (tk.den × tv.den)} {es : List MapEntry}, es.length = x.length → (∀ (i : Nat) (p : tk.den × tv.den) (e : MapEntry), x[i]? = some p → es[i]? = some e → RV m tk p.1 e.key ∧ RV m tv p.2 e.val) → EntL m tk tv x es := by
  intro x
  induction x with
  | nil => intro es h _; cases es with
    | nil => trivial
    | cons => simp at h
  | cons p x ih => intro es h k; cases es with
    | nil => simp at h
    | cons e es => exact ⟨k 0 p e rfl rfl, ih (by simpa using h) fun i p e hp he => k (i + 1) p e (by simpa using hp) (by simpa using he)⟩
theorem ent_get {m : Mem} {tk tv : Ty} : ∀ {x : List (tk.den × tv.den)} {es : List MapEntry}, EntL m tk tv x es → es.length = x.length ∧ ∀ (i : Nat) (p : tk.den × tv.den) (e : MapEntry), x[i]? = some p → es[i]? = some e → RV m tk p.1 e.key ∧ RV m tv p.2 e.val := by
  intro x
  induction x with
  | nil => intro es h; cases es with
    | nil => exact ⟨rfl, fun i p e hp => by simp at hp⟩
    | cons => exact h.elim
  | cons p x ih => intro es h; cases es with
    | nil => exact h.elim
    | cons e es =>
      obtain ⟨h1, h2⟩ := ih h.2
      refine ⟨by simp [h1], fun i q u hq hu => ?_⟩
      cases i with
      | zero => simp at hq hu; subst hq hu; exact h.1
      | succ i => exact h2 i q u (by simpa using hq) (by simpa using hu)

theorem rv_whole {m : Mem} {ρ : List Value} {t : Ty} {x : t.den} {v : Value} (h : RV m t x v) : RepA m ρ (whole t x) v := by
  unfold RV at h
  unfold whole
  split
  · rename_i ha
    rw [if_pos ha] at h
    obtain ⟨cs, rfl, h2⟩ := h
    simp only [RepA]
    exact ⟨cs, rfl, rc_expl h2, h2.one⟩
  · rename_i ha
    rw [if_neg ha] at h
    cases t with
    | int k => simp only [RC] at h; cases h; simp [expl, RepA]
    | bool => simp only [RC] at h; cases h; simp [expl, RepA]
    | str => simp only [RC] at h; cases h; simp [expl, RepA]
    | slice e => simpa [expl, RepA] using h
    | unit => simp [Ty.agg] at ha
    | pair a b => simp [Ty.agg] at ha
    | st a => simp [Ty.agg] at ha
    | arr n e => simp [Ty.agg] at ha
theorem whole_rv {m : Mem} {ρ : List Value} {t : Ty} {x : t.den} {v : Value} (hno : t.noArr = true) (h : RepA m ρ (whole t x) v) : RV m t x v := by
  unfold whole at h
  unfold RV
  split
  · rename_i ha
    rw [if_pos ha] at h
    simp only [RepA] at h
    obtain ⟨us, rfl, h1, _⟩ := h
    exact ⟨us, rfl, rc_of_expl hno h1⟩
  · rename_i ha
    rw [if_neg ha] at h
    refine rc_of_expl (ρ := ρ) hno ?_
    cases t with
    | int k => simp only [expl, RepL]; exact ⟨by simpa [expl] using h, trivial⟩
    | bool => simp only [expl, RepL]; exact ⟨by simpa [expl] using h, trivial⟩
    | str => simp only [expl, RepL]; exact ⟨by simpa [expl] using h, trivial⟩
    | slice e => simp only [expl, RepL]; exact ⟨by simpa [expl] using h, trivial⟩
    | unit => simp [Ty.agg] at ha
    | pair a b => simp [Ty.agg] at ha
    | st a => simp [Ty.agg] at ha
    | arr n e => simp [Ty.agg] at ha

/-- How keys of a type are held against one another. -/
structure KeyT (P : Program) (kT : TypeId) (tk : Ty) [DecidableEq tk.den] : Prop where
  chk : ∀ (m : Mem) (k : tk.den) (v : Value) (b : Bool) (w : World), RV m tk k v → (Instr.checkKey b 10000 kT v).run P w = .ok () w
  find : ∀ (m : Mem) (k : tk.den) (v : Value) (tv : Ty) (x : List (tk.den × tv.den)) (es : List MapEntry) (w : World), RV m tk k v → EntL m tk tv x es →
    ∃ r, (Instr.findKey kT v es).run P w = .ok r w ∧ match r with
      | none => mget x k = none
      | some (i, u) => ∃ y, mget x k = some y ∧ RV m tv y u ∧ (x[i]?).map (·.1) = some k ∧ (∃ e : MapEntry, es[i]? = some e) ∧ ∀ j, j < i → (x[j]?).map (·.1) ≠ some k
  stays : ∀ (m : Mem) (k : tk.den) (u v : Value) (w : World), RV m tk k u → RV m tk k v → (Instr.keyThatStays u v).run P w = .ok v w

theorem key_now {P : Program} {kT : TypeId} {tk : Ty} [DecidableEq tk.den] {dsc : TypeDesc} (hU : P.underlying kT = some dsc) (hc : ∀ (m : Mem) (k : tk.den) (v : Value) (b : Bool) (w : World), RV m tk k v → (Instr.checkKey b 10000 kT v).run P w = .ok () w)
    (hs : ∀ (m : Mem) (k a : tk.den) (v u : Value), RV m tk k v → RV m tk a u → Instr.sameNow dsc v u = some (decide (k = a))) (hst : ∀ (m : Mem) (k : tk.den) (u v : Value) (w : World), RV m tk k u → RV m tk k v → (Instr.keyThatStays u v).run P w = .ok v w) : KeyT P kT tk := by
  refine ⟨hc, fun m k v tv x es w hk he => ?_, hst⟩
  have key : ∀ {x : List (tk.den × tv.den)} {es : List MapEntry} (i : Nat), EntL m tk tv x es → ∃ r, Instr.findNow dsc v es i = some r ∧ match r with
      | none => mget x k = none
      | some (q, u) => i ≤ q ∧ ∃ y, mget x k = some y ∧ RV m tv y u ∧ (x[q - i]?).map (·.1) = some k ∧ (∃ e : MapEntry, es[q - i]? = some e) ∧ ∀ j, j < q - i → (x[j]?).map (·.1) ≠ some k := by
    intro x
    induction x with
    | nil => intro es i h; cases es with
      | nil => exact ⟨none, rfl, rfl⟩
      | cons => exact h.elim
    | cons p x ih => intro es i h; cases es with
      | nil => exact h.elim
      | cons e es =>
        simp only [Instr.findNow, hs m k p.1 v e.key hk h.1.1]
        by_cases hkp : k = p.1
        · have hd : decide (k = p.1) = true := by simp [hkp]
          rw [hd]
          exact ⟨_, rfl, Nat.le_refl _, p.2, by simp [mget, hkp], h.1.2, by simp [hkp], ⟨e, by simp⟩, fun j hj => absurd hj (by omega)⟩
        · have hd : decide (k = p.1) = false := by simp [hkp]
          rw [hd]
          obtain ⟨r, h1, h2⟩ := ih (i + 1) h.2
          refine ⟨r, h1, ?_⟩
          cases r with
          | none => simp only [mget, if_neg hkp]; exact h2
          | some q =>
            obtain ⟨q, u⟩ := q
            obtain ⟨h3, y, h4, h5, h6, ⟨e', h7⟩, h8⟩ := h2
            have hq : q - i = (q - (i + 1)) + 1 := by omega
            refine ⟨by omega, y, by simp only [mget, if_neg hkp]; exact h4, h5, by rw [hq]; simpa using h6, ⟨e', by rw [hq]; simpa using h7⟩, fun j hj => ?_⟩
            cases j with
            | zero => simp; exact fun e => hkp e.symm
            | succ j => simpa using h8 j (by omega)
  obtain ⟨r, h1, h2⟩ := key 0 he
  refine ⟨r, by simp [Instr.findKey, run_underlying hU, h1], ?_⟩
  cases r with
  | none => exact h2
  | some q =>
    obtain ⟨q, u⟩ := q
    obtain ⟨_, y, h3, h4, h5, h6, h7⟩ := h2
    exact ⟨y, h3, h4, by simpa using h5, by simpa using h6, by simpa using h7⟩
theorem bstr_beq (s t : Str) : (bstr s == bstr t) = decide (s = t) := by
  show (s.toArray == t.toArray) = _
  by_cases h : s = t <;> simp [h]
theorem keyT_int {P : Program} {kT : TypeId} {k : IntKind} (hU : P.underlying kT = some (.int k)) : KeyT P kT (.int k) := by
  refine key_now hU (fun m z v b w h => ?_) (fun m z a v u hv hu => ?_) (fun m z u v w hu hv => ?_)
  · simp only [RV, Ty.agg, RC] at h; cases h
    rw [show (10000 : Nat) = 9999 + 1 from rfl]; unfold Instr.checkKey; simp [run_underlying hU]
  · simp only [RV, Ty.agg, RC] at hv hu; cases hv; cases hu
    simp only [Instr.sameNow, if_true, Option.some.injEq]
    by_cases e : z = a
    · subst e; simp
    · simp [e]
  · simp only [RV, Ty.agg, RC] at hv hu; cases hv; cases hu
    rw [show (Instr.keyThatStays (.int k z) (.int k z)) = (if Instr.sameBits 10000 (.int k z) (.int k z) then pure (.int k z) else _) from rfl]
    rw [show Instr.sameBits 10000 (.int k z) (.int k z) = (k == k && z == z) from rfl]
    simp
theorem keyT_str {P : Program} {kT : TypeId} (hU : P.underlying kT = some .string) : KeyT P kT .str := by
  refine key_now hU (fun m z v b w h => ?_) (fun m z a v u hv hu => ?_) (fun m z u v w hu hv => ?_)
  · simp only [RV, Ty.agg, RC] at h; cases h
    rw [show (10000 : Nat) = 9999 + 1 from rfl]; unfold Instr.checkKey; simp [run_underlying hU]
  · simp only [RV, Ty.agg, RC] at hv hu; cases hv; cases hu
    simp only [Instr.sameNow, Option.some.injEq]
    by_cases e : z = a
    · subst e; simp [bstr_beq]
    · have : bstr z ≠ bstr a := fun h => e (bstr_inj h)
      simp [e, bstr_beq]
  · simp only [RV, Ty.agg, RC] at hv hu; cases hv; cases hu
    rw [show (Instr.keyThatStays (.string (bstr z)) (.string (bstr z))) = (if Instr.sameBits 10000 (.string (bstr z)) (.string (bstr z)) then pure (.string (bstr z)) else _) from rfl]
    rw [show Instr.sameBits 10000 (.string (bstr z)) (.string (bstr z)) = (bstr z == bstr z) from rfl, bstr_beq]
    simp

/-- A type's zero as a value. -/
def ZeroW (P : Program) (T : Nat) (t : Ty) : Prop := ∃ z, Eng.Zero P T z ∧ ∀ m, RV m t t.dflt z
theorem zeroW_of {P : Program} {T : Nat} {t : Ty} {z : Value} (h : Eng.Zero P T z) (hz : (if t.agg then Value.agg (zeroV t).toArray else ((zeroV t).head?).getD undef) = z) (h1 : t.agg = false → (zeroV t).length = 1) : ZeroW P T t := by
  refine ⟨z, h, fun m => ?_⟩
  unfold RV
  split
  · rename_i ha; rw [if_pos ha] at hz; exact ⟨_, hz.symm, rc_zero m t⟩
  · rename_i ha
    rw [if_neg ha] at hz
    have hl := h1 (by simpa using ha)
    obtain ⟨u, hu⟩ := List.length_eq_one_iff.1 hl
    have := rc_zero m t
    rw [hu] at this hz
    simp at hz; subst hz; exact this

section
variable {P : Program} {N : Ev} {X : Cx} {Q : APost} {st : AS}
variable {d : Nat} {T U T' : TypeId} {pos : String} {aft : Array Edge} {g : Option (Nat × Bool)} {x y z : Operand} {k ky : IntKind} {a b : Int}

theorem own_map {fr : Fr} {w : World} {m : Mem} {ρ : List Value} {φ : List Frag} (hc : Conc X st fr w m ρ φ) {i : Nat} {tk tv : Ty} {xs : List (tk.den × tv.den)} {v : Value} (hv : RepA m ρ (.map i) v) (hH : st.H.get i = .map tk tv xs) :
    ∃ b es cl, v = .map (some b) ∧ ρ[i]? = some (.map (some b)) ∧ φ[i]? = some [(b, .map es cl)] ∧ w.heap[b]? = some (.map es cl) ∧ EntL m tk tv xs es.toList ∧ (xs.map (·.1)).Nodup := by
  simp only [RepA] at hv
  obtain ⟨f, hf, ho, hw⟩ := hc.obj hv.1
  rw [hH] at ho
  obtain ⟨b, es, cl, rfl, rfl, h1, h2, h3⟩ := ho
  exact ⟨b, es, cl, rfl, hv.1, hf, hw (b, _) (List.mem_singleton.2 rfl), ent_of h1 h3, h2⟩

theorem aop_makeMap (tk tv : Ty) {r : Option Operand} {K : AS → Prop} (hr : r = none) (k : K (st.new d (.map st.n) (.map tk tv []))) (hN : Nat.blt d N.n = true := by rfl) : AOp P N X ⟨some d, .makeMap T r, U, pos, aft, g⟩ K st :=
  aop_of fun Q fr w m ρ φ hc K' hK => by
    subst hr
    refine op_val (v := .map (some w.heap.size)) rfl hN (fun ac ha => ?_) ?_ (dk_new (new_push w (.map #[] 0)))
    · simp [execOp, Instr.makeMap, newObj, Sem.run]
    · refine hK _ _ _ _ _ _ (hc.newObj (h := .map (some w.heap.size)) (f := [(w.heap.size, .map #[] 0)]) (Mem.le_refl _) (hc.sh.alloc (new_push w _) rfl) ?_ ?_) k
      · exact ⟨_, #[], 0, rfl, rfl, rfl, by simp, fun i p e hp => by simp at hp⟩
      · simp only [RepA]; exact ⟨by rw [← hc.nρ]; simp, rfl⟩

theorem run_getObj {w : World} {b : Nat} {es : Array MapEntry} {cl : Nat} (h : w.heap[b]? = some (.map es cl)) : (getObj b).run P w = .ok (.map es cl) w := by
  simp [getObj, Sem.run, h]

theorem run_lookup {w : World} {m : Mem} {tk tv : Ty} [DecidableEq tk.den] {xs : List (tk.den × tv.den)} {kx : tk.den} {kT eT b cl : Nat} {es : Array MapEntry} {v : Value} {ok : Bool} (hU : Und P T (.map kT eT)) (hK : KeyT P kT tk) (hZ : ZeroW P eT tv) (hw : w.heap[b]? = some (.map es cl)) (he : EntL m tk tv xs es.toList) (hk : RV m tk kx v) :
    ∃ u, RV m tv ((mget xs kx).getD tv.dflt) u ∧ (Instr.lookup T (.map (some b)) v ok).run P w = .ok (if ok then .tuple #[u, .bool (mget xs kx).isSome] else u) w := by
  obtain ⟨r, h1, h2⟩ := hK.find m kx v tv xs es.toList w hk he
  have h3 := hK.chk m kx v es.isEmpty w hk
  cases r with
  | none =>
    obtain ⟨zv, h4, h5⟩ := hZ
    rw [h2]
    refine ⟨zv, h5 m, ?_⟩
    simp only [Instr.lookup, Sem.run_bind, run_underlying hU, Result.andThen_ok, run_getObj hw, h3, h1, h4 w, Sem.run_pure]
    cases ok <;> simp
  | some q =>
    obtain ⟨q, u⟩ := q
    obtain ⟨y, h4, h5, _⟩ := h2
    rw [h4]
    refine ⟨u, h5, ?_⟩
    simp only [Instr.lookup, Sem.run_bind, run_underlying hU, Result.andThen_ok, run_getObj hw, h3, h1, Sem.run_pure]
    cases ok <;> simp
theorem av_lookup {i kT eT : Nat} {tk tv : Ty} [DecidableEq tk.den] {xs : List (tk.den × tv.den)} {kx : tk.den} {r : AV} (hU : Und P T (.map kT eT)) (hK : KeyT P kT tk) (hZ : ZeroW P eT tv) (hx : aev st.l x = some (.map i)) (hy : aev st.l y = some (whole tk kx)) (hH : st.H.get i = .map tk tv xs) (hno : tk.noArr = true) (hr : whole tv ((mget xs kx).getD tv.dflt) = r) (hN : Nat.blt d N.n = true := by rfl) :
    AOpV P N X ⟨some d, .lookup T x y false, U, pos, aft, g⟩ r st :=
  av_of rfl fun Q fr w m ρ φ hc => by
    subst hr
    obtain ⟨v, h1, h2⟩ := hc.ev hx
    obtain ⟨u, h3, h4⟩ := hc.ev hy
    obtain ⟨b, es, cl, rfl, _, _, h5, h6, _⟩ := own_map hc h2 hH
    obtain ⟨q, h7, h8⟩ := run_lookup (ok := false) hU hK hZ h5 h6 (whole_rv hno h4)
    refine ⟨q, rv_whole h7, fun K hk => op_val rfl hN (fun ac ha => ?_) hk⟩
    simp only [execOp, ha.eval h1, ha.eval h3]
    rw [Sem.run_bind, h8]; rfl
theorem av_lookup2 {i kT eT : Nat} {tk tv : Ty} [DecidableEq tk.den] {xs : List (tk.den × tv.den)} {kx : tk.den} {r : AV} (hU : Und P T (.map kT eT)) (hK : KeyT P kT tk) (hZ : ZeroW P eT tv) (hx : aev st.l x = some (.map i)) (hy : aev st.l y = some (whole tk kx)) (hH : st.H.get i = .map tk tv xs) (hno : tk.noArr = true) (hr : .tup [whole tv ((mget xs kx).getD tv.dflt), .bool (mget xs kx).isSome] = r) (hN : Nat.blt d N.n = true := by rfl) :
    AOpV P N X ⟨some d, .lookup T x y true, U, pos, aft, g⟩ r st :=
  av_of rfl fun Q fr w m ρ φ hc => by
    subst hr
    obtain ⟨v, h1, h2⟩ := hc.ev hx
    obtain ⟨u, h3, h4⟩ := hc.ev hy
    obtain ⟨b, es, cl, rfl, _, _, h5, h6, _⟩ := own_map hc h2 hH
    obtain ⟨q, h7, h8⟩ := run_lookup (ok := true) hU hK hZ h5 h6 (whole_rv hno h4)
    refine ⟨.tuple #[q, .bool (mget xs kx).isSome], ?_, fun K hk => op_val rfl hN (fun ac ha => ?_) hk⟩
    · simp only [RepA]; exact ⟨[q, .bool (mget xs kx).isSome], rfl, by simp only [RepL]; exact ⟨rv_whole h7, rep_bool, trivial⟩⟩
    · simp only [execOp, ha.eval h1, ha.eval h3]
      rw [Sem.run_bind, h8]; rfl
theorem av_len_map {i kT eT : Nat} {tk tv : Ty} {xs : List (tk.den × tv.den)} {ts : Array TypeId} {cl : Array Operand} (hc : cl = #[x]) (ht : ts = #[T]) (hU : Und P T (.map kT eT)) (hx : aev st.l x = some (.map i)) (hH : st.H.get i = .map tk tv xs) (hN : Nat.blt d N.n = true := by rfl) :
    AOpV P N X ⟨some d, .call ⟨.builtin .len, cl, ts⟩, U, pos, aft, g⟩ (.int .i64 (xs.length : Int)) st :=
  av_of rfl fun Q fr w m ρ φ hcc => by
    obtain ⟨v, h1, h2⟩ := hcc.ev hx
    obtain ⟨b, es, cl', rfl, _, _, h5, h6, _⟩ := own_map hcc h2 hH
    have hl := (ent_get h6).1
    refine ⟨_, rep_int, fun K hk => op_val rfl hN (fun ac ha => ?_) hk⟩
    subst hc ht
    have : es.size = xs.length := by simpa using hl
    simp [execOp, resolve, invoke, builtin, Builtin.len_, ha.eval h1, run_underlying hU, run_getObj h5, goInt, this]

theorem put_setObj {w : World} {b : Nat} {o o' : Obj} (h : w.heap[b]? = some o) : Put w { w with heap := w.heap.setIfInBounds b o' } b ∧ ({ w with heap := w.heap.setIfInBounds b o' } : World).heap[b]? = some o' := by
  have hlt := (Array.getElem?_eq_some_iff.1 h).1
  refine ⟨⟨rfl, rfl, rfl, by simp, fun k hk => ?_⟩, ?_⟩
  · simp only; rw [Array.getElem?_setIfInBounds_ne (fun e => hk e.symm)]
  · simp only; rw [Array.getElem?_setIfInBounds_self_of_lt hlt]

theorem ent_set {m : Mem} {tk tv : Ty} [DecidableEq tk.den] {kx : tk.den} {vx : tv.den} {kv vv : Value} (hk : RV m tk kx kv) (hv : RV m tv vx vv) : ∀ {x : List (tk.den × tv.den)} {es : List MapEntry} {i : Nat}, EntL m tk tv x es → (x[i]?).map (·.1) = some kx → (∀ j, j < i → (x[j]?).map (·.1) ≠ some kx) → ∀ (f : MapEntry → MapEntry), (∀ e, (f e).key = kv ∧ (f e).val = vv) → EntL m tk tv (mset x kx vx) (es.modify i f) := by
  intro x
  induction x with
  | nil => intro es i h hi _ f _; simp at hi
  | cons p x ih =>
    intro es i h hi hj f hf
    cases es with
    | nil => exact h.elim
    | cons e es =>
      cases i with
      | zero =>
        simp at hi
        simp only [mset, if_pos hi.symm, List.modify_zero_cons]
        exact ⟨⟨by rw [(hf e).1]; exact hk, by rw [(hf e).2]; exact hv⟩, h.2⟩
      | succ i =>
        have hne : ¬ kx = p.1 := by
          have := hj 0 (by omega)
          simp at this
          exact fun e => this e.symm
        simp only [mset, if_neg hne, List.modify_succ_cons]
        exact ⟨h.1, ih h.2 (by simpa using hi) (fun j hjj => by simpa using hj (j + 1) (by omega)) f hf⟩
theorem ent_push {m : Mem} {tk tv : Ty} [DecidableEq tk.den] {kx : tk.den} {vx : tv.den} {kv vv : Value} {bn : Nat} (hk : RV m tk kx kv) (hv : RV m tv vx vv) : ∀ {x : List (tk.den × tv.den)} {es : List MapEntry}, EntL m tk tv x es → mget x kx = none → EntL m tk tv (mset x kx vx) (es ++ [{ key := kv, val := vv, born := bn }]) := by
  intro x
  induction x with
  | nil => intro es h _; cases es with
    | nil => exact ⟨⟨hk, hv⟩, trivial⟩
    | cons => exact h.elim
  | cons p x ih =>
    intro es h hn
    cases es with
    | nil => exact h.elim
    | cons e es =>
      simp only [mget] at hn
      split at hn
      · cases hn
      · rename_i hne
        simp only [mset, if_neg hne, List.cons_append]
        exact ⟨h.1, ih h.2 hn⟩

theorem run_mapUpdate {w : World} {m : Mem} {tk tv : Ty} [DecidableEq tk.den] {xs : List (tk.den × tv.den)} {kx : tk.den} {vx : tv.den} {kT eT b cl : Nat} {es : Array MapEntry} {kv vv : Value} (hU : Und P T (.map kT eT)) (hK : KeyT P kT tk) (hw : w.heap[b]? = some (.map es cl)) (he : EntL m tk tv xs es.toList) (hk : RV m tk kx kv) (hv : RV m tv vx vv) :
    ∃ es' cl', (Instr.mapUpdate T (.map (some b)) kv vv).run P w = .ok () { w with heap := w.heap.setIfInBounds b (.map es' cl') } ∧ EntL m tk tv (mset xs kx vx) es'.toList := by
  obtain ⟨r, h1, h2⟩ := hK.find m kx kv tv xs es.toList w hk he
  have h3 := hK.chk m kx kv false w hk
  have hset : ∀ o, (setObj b o).run P w = .ok () { w with heap := w.heap.setIfInBounds b o } := fun o => by simp [setObj, Sem.run, hw]
  cases r with
  | none =>
    refine ⟨es.push { key := kv, val := vv, born := cl }, cl + 1, ?_, ?_⟩
    · simp only [Instr.mapUpdate, Sem.run_bind, run_underlying hU, Result.andThen_ok, run_getObj hw, h3, h1, hset]
    · rw [Array.toList_push]; exact ent_push hk hv he h2
  | some q =>
    obtain ⟨q, u⟩ := q
    obtain ⟨y, h4, h5, h6, ⟨e, h7⟩, h8⟩ := h2
    obtain ⟨_, hg⟩ := ent_get he
    obtain ⟨p, hp, hpk⟩ := Option.map_eq_some_iff.1 h6
    have hke := (hg q p e hp h7).1
    rw [hpk] at hke
    have h9 := hK.stays m kx e.key kv w hke hk
    have h10 : es[q]? = some e := by simpa using h7
    refine ⟨es.modify q fun e => { e with key := kv, val := vv }, cl, ?_, ?_⟩
    · simp only [Instr.mapUpdate, Sem.run_bind, run_underlying hU, Result.andThen_ok, run_getObj hw, h3, h1, h10, Option.map_some, Option.getD_some, h9, hset]
    · rw [Array.toList_modify]; exact ent_set hk hv he h6 h8 _ (fun e => ⟨rfl, rfl⟩)

theorem aop_mapSet {i kT eT : Nat} {tk tv : Ty} [DecidableEq tk.den] {xs : List (tk.den × tv.den)} {kx : tk.den} {vx : tv.den} {o : Oper} {K : AS → Prop} (hU : Und P T (.map kT eT)) (hK : KeyT P kT tk) (ho : o.op = .mapUpdate T x y z ∨ o.op = .insert T x y z) (hd : o.dst = none) (hx : aev st.l x = some (.map i)) (hy : aev st.l y = some (whole tk kx)) (hz : aev st.l z = some (whole tv vx)) (hH : st.H.get i = .map tk tv xs) (hno : tk.noArr = true) (hno' : tv.noArr = true)
    (k : K (st.upd i (.map tk tv (mset xs kx vx)))) : AOp P N X o K st :=
  aop_of fun Q fr w m ρ φ hc K' hK' => by
    obtain ⟨v, h1, h2⟩ := hc.ev hx
    obtain ⟨kv, h3, h4⟩ := hc.ev hy
    obtain ⟨vv, h5, h6⟩ := hc.ev hz
    obtain ⟨b, es, cl, rfl, hρ, hf, hw, he, hnd⟩ := own_map hc h2 hH
    obtain ⟨es', cl', hr, he'⟩ := run_mapUpdate hU hK hw he (whole_rv hno h4) (whole_rv hno' h6)
    obtain ⟨hP, hb'⟩ := put_setObj (o' := .map es' cl') hw
    have hfr := hc.front hf
    obtain ⟨g1, g2⟩ := ent_get he'
    refine op_skip (w' := { w with heap := w.heap.setIfInBounds b (.map es' cl') }) hd (fun ac ha => ?_) ?_ (dk_put hP hw rfl) ?_
    · rcases ho with ho | ho <;> simp only [execOp, ho, ha.eval h1, ha.eval h3, ha.eval h5, Sem.run_bind, hr] <;> rfl
    · exact hK' _ _ (st.upd i (.map tk tv (mset xs kx vx))) _ _ _ (hc.turn hρ hf (f' := [(b, .map es' cl')]) (hfr.put hP hb' rfl) ⟨b, es', cl', rfl, rfl, g1, mset_nodup _ _ hnd, g2⟩) k
    · rcases ho with ho | ho <;> simp [nodef, ho]
end
end Go.Ab
