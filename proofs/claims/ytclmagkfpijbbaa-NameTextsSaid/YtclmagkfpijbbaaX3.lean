/- The layings of library functions at the dump of the naming statements. -/
import Derived.Test.YtclmagkfpijbbaaX2
import Derived.Lib.Join
import Derived.Lib.Bytealg
import Derived.Shelf.GgClosure.StringsIndexFunc
import Derived.Ground.NamesProg
import Derived.Ground.GgwProg
import Derived.Shelf.Strings.OnBuilder
import Derived.Shelf.Strings.FuncGrows
import Derived.Shelf.Small.Strs
import Derived.Test.YtclmagkfpijbbaaProg
import Derived.Test.YtclmagkfpijbbaaChecked
set_option linter.unusedVariables false
set_option linter.unusedSimpArgs false
namespace Go.Ab
open Go.RowKit Go.Shelf Go.Proofs Go.Eng

/-! interface values as data: one opaque cell -/
def ifN : Cell1 := ⟨.nilIface, rfl⟩
def ifI (T : TypeId) (k : IntKind) (z : Int) : Cell1 := ⟨.iface T (.int k z), rfl⟩
/-- An interface value. -/
def isIf (c : Cell1) : Bool := match c.1 with | .nilIface => true | .iface _ _ => true | _ => false
def isN (c : Cell1) : Bool := match c.1 with | .nilIface => true | _ => false
/-- x.(A), A a type of texts. -/
def asS (A : TypeId) (c : Cell1) : Option (Str × Bool) := match c.1 with
  | .nilIface => some ([], false)
  | .iface t v => if t = A then (match v with | .string b => some (b.data.toList, true) | _ => none) else some ([], false)
  | _ => none
/-- x.(A), A a type of whole numbers. -/
def asI (A : TypeId) (k : IntKind) (c : Cell1) : Option (Int × Bool) := match c.1 with
  | .nilIface => some (0, false)
  | .iface t v => if t = A then (match v with | .int k' z => if k' = k then some (z, true) else none | _ => none) else some (0, false)
  | _ => none
/-- The dynamic type of an interface value that is not nil. -/
def dynT (c : Cell1) : Option TypeId := match c.1 with | .iface t _ => some t | _ => none

section
variable {P : Program} {N : Ev} {X : Cx} {Q : APost} {st : AS}
variable {d : Nat} {T U T' : TypeId} {pos : String} {aft : Array Edge} {g : Option (Nat × Bool)} {x y : Operand}
theorem av_mkI {k : IntKind} {z : Int} {k2 : IntKind} (hU : Und P T (.int k2)) (hx : aev st.l x = some (.int k z)) (hN : Nat.blt d N.n = true := by rfl) : AOpV P N X ⟨some d, .makeInterface T x, U, pos, aft, g⟩ (.val (ifI T k z).1) st :=
  av_of rfl fun Q fr w m ρ φ hc => by
    obtain ⟨v, h1, h2⟩ := hc.ev hx
    simp only [RepA] at h2
    subst h2
    refine ⟨(ifI T k z).1, by simp only [RepA], fun K hk => op_val rfl hN (fun ac ha => ?_) hk⟩
    simp [execOp, ha.eval h1, Instr.makeInterface, run_underlying hU, ifI]
theorem run_assertS {A : TypeId} {c : Cell1} {r : Str × Bool} {w : World} (hU : Und P A .string) (hZ : Eng.Zero P A (.string ByteArray.empty)) (h : asS A c = some r) : (Instr.typeAssert c.1 T A true).run P w = .ok (.tuple #[.string (bstr r.1), .bool r.2]) w := by
  obtain ⟨c, hc⟩ := c
  unfold asS at h
  simp only at h
  split at h
  · cases h
    simp [Instr.typeAssert, run_underlying hU, hZ w, bstr]
    rfl
  · rename_i t v
    split at h
    · rename_i ht
      subst ht
      split at h
      · cases h
        simp [Instr.typeAssert, run_underlying hU, bstr_data]
      · cases h
    · rename_i ht
      cases h
      simp [Instr.typeAssert, run_underlying hU, hZ w, ht, bstr]
      rfl
  · cases h
theorem run_assertI {A : TypeId} {k : IntKind} {c : Cell1} {r : Int × Bool} {w : World} (hU : Und P A (.int k)) (hZ : Eng.Zero P A (.int k 0)) (h : asI A k c = some r) : (Instr.typeAssert c.1 T A true).run P w = .ok (.tuple #[.int k r.1, .bool r.2]) w := by
  obtain ⟨c, hc⟩ := c
  unfold asI at h
  simp only at h
  split at h
  · cases h
    simp [Instr.typeAssert, run_underlying hU, hZ w]
  · rename_i t v
    split at h
    · rename_i ht
      subst ht
      split at h
      · rename_i k' z
        split at h
        · rename_i hk
          subst hk
          cases h
          simp [Instr.typeAssert, run_underlying hU]
        · cases h
      · cases h
    · rename_i ht
      cases h
      simp [Instr.typeAssert, run_underlying hU, hZ w, ht]
  · cases h
theorem av_assertS {A : TypeId} {c : Cell1} {r : Str × Bool} (hU : Und P A .string) (hZ : Eng.Zero P A (.string ByteArray.empty)) (hx : aev st.l x = some (.val c.1)) (h : asS A c = some r) (hN : Nat.blt d N.n = true := by rfl) : AOpV P N X ⟨some d, .typeAssert x T A true, U, pos, aft, g⟩ (.tup [.str r.1, .bool r.2]) st :=
  av_of rfl fun Q fr w m ρ φ hc => by
    obtain ⟨v, h1, h2⟩ := hc.ev hx
    simp only [RepA] at h2
    subst h2
    refine ⟨.tuple [.string (bstr r.1), .bool r.2].toArray, ?_, fun K hk => op_val rfl hN (fun ac ha => ?_) hk⟩
    · simp only [RepA]; exact ⟨_, rfl, by simp [RepL, RepA]⟩
    · simp only [execOp, ha.eval h1, Sem.run_bind, run_assertS (T := T) (w := w) hU hZ h]; rfl
theorem av_assertI {A : TypeId} {k : IntKind} {c : Cell1} {r : Int × Bool} (hU : Und P A (.int k)) (hZ : Eng.Zero P A (.int k 0)) (hx : aev st.l x = some (.val c.1)) (h : asI A k c = some r) (hN : Nat.blt d N.n = true := by rfl) : AOpV P N X ⟨some d, .typeAssert x T A true, U, pos, aft, g⟩ (.tup [.int k r.1, .bool r.2]) st :=
  av_of rfl fun Q fr w m ρ φ hc => by
    obtain ⟨v, h1, h2⟩ := hc.ev hx
    simp only [RepA] at h2
    subst h2
    refine ⟨.tuple [.int k r.1, .bool r.2].toArray, ?_, fun K hk => op_val rfl hN (fun ac ha => ?_) hk⟩
    · simp only [RepA]; exact ⟨_, rfl, by simp [RepL, RepA]⟩
    · simp only [execOp, ha.eval h1, Sem.run_bind, run_assertI (T := T) (w := w) hU hZ h]; rfl
theorem if_equal {ms : Array (String × TypeId)} {w : World} {c : Cell1} (hU : Und P T (.interface ms)) (hc : isIf c = true) : (Op.equal T c.1 .nilIface).run P w = .ok (isN c) w := by
  obtain ⟨c, h1⟩ := c
  unfold Op.equal
  rw [show Op.maxDepth = 9999 + 1 from rfl]
  unfold Op.equalIn
  unfold isIf at hc
  unfold isN
  cases c <;> simp at hc <;> simp [run_underlying hU]
def UndI (P : Program) (T : TypeId) : Prop := (match P.underlying T with | some (.interface _) => true | _ => false) = true
theorem UndI.und {P : Program} {T : TypeId} (h : UndI P T) : ∃ ms, Und P T (.interface ms) := by
  unfold UndI at h
  split at h
  · rename_i ms hm; exact ⟨ms, hm⟩
  · cases h
/-- An interface value against nil. -/
theorem av_ifnil {c : Cell1} (hU : UndI P T) (hx : aev st.l x = some (.val c.1)) (hy : y = .const .nilIface) (hi : isIf c = true) (hN : Nat.blt d N.n = true := by rfl) : AOpV P N X ⟨some d, .binOp .eql T x y T', U, pos, aft, g⟩ (.bool (isN c)) st :=
  av_of rfl fun Q fr w m ρ φ hc => by
    subst hy
    obtain ⟨ms, hU⟩ := hU.und
    obtain ⟨v, h1, h2⟩ := hc.ev hx
    simp only [RepA] at h2
    subst h2
    refine ⟨_, rep_bool, fun K hk => op_val rfl hN (fun ac ha => ?_) hk⟩
    have he := if_equal (P := P) (w := w) hU hi
    have h3 : ac.eval (.const .nilIface) = .nilIface := rfl
    obtain ⟨c, hc1⟩ := c
    cases c <;> first | (simp [isIf] at hi; done) | (simp only at he h1; simp [execOp, eqGuard, binOp, ha.eval h1, h3, he])

/-- A call by an interface's method, which looks at nothing. -/
theorem av_inv {c : Cell1} {name : String} {t : TypeId} {f : FuncId} {rs : List AV} {ts : Array TypeId} {cl : Array Operand} {r : AV} (hcl : cl = #[]) (hd : dynT c = some t) (hm : ∀ w v, (Go.method (P.types.size + Made.depth) t v name).run P w = .ok (f, v) w) (hr : RunsM X.m P f [.any] [] fun r H' => r = rs ∧ H' = []) (hf : Enters P f) (hx : aev st.l x = some (.val c.1)) (hrs : tupA rs = r) (hN : Nat.blt d N.n = true := by rfl) :
    AOpV P N X ⟨some d, .call ⟨.invoke x name, cl, ts⟩, U, pos, aft, g⟩ r st := by
  intro Q fr w m ρ φ hc
  subst hrs hcl
  obtain ⟨v, h1, h2⟩ := hc.ev hx
  simp only [RepA] at h2
  subst h2
  obtain ⟨c, hc1⟩ := c
  unfold dynT at hd
  cases c with
  | iface t' u =>
    simp only [Option.some.injEq] at hd
    subst hd
    refine op_enter (args := [u].toArray) rfl hN (fun s hs => ?_) (ret_pure hr rfl hc (by simp [RepL, RepA])) ?_
    · have h3 := hs.eval h1
      simp only at h3
      simp [execOp, resolve, invoke, callMethod, h3, hm, hf _ w]
    · rintro v w' ⟨hb, m', h3, h4, h5⟩
      exact ⟨d, v, rfl, rfl, hb, m', h3, h4, h5⟩
  | _ => simp at hd
/-- The same, of two types. -/
def inv2 {α : Type} (t1 t2 : TypeId) (r1 r2 : α) (c : Cell1) : Option α := match dynT c with
  | some t => if t = t1 then some r1 else if t = t2 then some r2 else none
  | none => none
theorem av_inv2 {c : Cell1} {name : String} {t1 t2 : TypeId} {f1 f2 : FuncId} {r1 r2 r : Int} {ts : Array TypeId} {cl : Array Operand} (hcl : cl = #[]) (h : inv2 t1 t2 r1 r2 c = some r) (hm1 : ∀ w v, (Go.method (P.types.size + Made.depth) t1 v name).run P w = .ok (f1, v) w) (hm2 : ∀ w v, (Go.method (P.types.size + Made.depth) t2 v name).run P w = .ok (f2, v) w)
    (hr1 : RunsP P f1 [.any] [.int .i64 r1]) (hr2 : RunsP P f2 [.any] [.int .i64 r2]) (hf1 : Enters P f1) (hf2 : Enters P f2) (hx : aev st.l x = some (.val c.1)) (hN : Nat.blt d N.n = true := by rfl) :
    AOpV P N X ⟨some d, .call ⟨.invoke x name, cl, ts⟩, U, pos, aft, g⟩ (.int .i64 r) st := by
  unfold inv2 at h
  split at h
  · rename_i t ht
    split at h
    · rename_i e; subst e; cases h; exact av_inv hcl ht hm1 (Runs.x hr1) hf1 hx rfl hN
    · split at h
      · rename_i e; subst e; cases h; exact av_inv hcl ht hm2 (Runs.x hr2) hf2 hx rfl hN
      · cases h
  · cases h

/-! pointers into an own slice: which of two fields is told by a truth -/
theorem two_drop {e : Str × Str} {b : Bool} : (expl (.st (.pair .str .str)) e).drop (bif b then 1 else 0) = .str (bif b then e.2 else e.1) :: (bif b then [] else [.str e.2]) := by cases b <;> rfl
def two_set (e : Str × Str) (b : Bool) (s : Str) : Str × Str := bif b then (e.1, s) else (s, e.2)
theorem two_over {e : Str × Str} {b : Bool} {s : Str} : over (expl (.st (.pair .str .str)) e) (bif b then 1 else 0) [.str s] = expl (.st (.pair .str .str)) (two_set e b s) := by cases b <;> rfl
theorem two_le {b : Bool} : Nat.ble ((bif b then 1 else 0) + 1) (Ty.cells (.st (.pair .str .str))) = true := by cases b <;> rfl
theorem av_epeq {i sz z o sz' z' o' n : Nat} {E : TypeId} (hU : Und P T (.pointer E)) (hS : Sz P E (n + 1)) (hx : aev st.l x = some (.ep i sz z o)) (hy : aev st.l y = some (.ep i sz' z' o')) (hN : Nat.blt d N.n = true := by rfl) : AOpV P N X ⟨some d, .binOp .eql T x y T', U, pos, aft, g⟩ (.bool (decide (z * sz + o = z' * sz' + o'))) st :=
  av_of rfl fun Q fr w m ρ φ hc => by
    obtain ⟨v, h1, h2⟩ := hc.ev hx
    obtain ⟨u, h3, h4⟩ := hc.ev hy
    simp only [RepA] at h2 h4
    obtain ⟨b, _, _, h5, rfl⟩ := h2
    obtain ⟨b', _, _, h6, rfl⟩ := h4
    rw [h5] at h6
    simp only [Option.some.injEq, Value.slice.injEq, Addr.mk.injEq] at h6
    obtain ⟨⟨rfl, _⟩, _⟩ := h6
    refine ⟨_, rep_bool, fun K hk => op_val rfl hN (fun ac ha => ?_) hk⟩
    have he : (Op.equal T (.pointer (some ⟨b, z * sz + o, none⟩)) (.pointer (some ⟨b, z' * sz' + o', none⟩))).run P w = .ok (decide (z * sz + o = z' * sz' + o')) w := by
      unfold Op.equal
      rw [show Op.maxDepth = 9999 + 1 from rfl]
      unfold Op.equalIn
      have hb : ((⟨b, z * sz + o, none⟩ : Addr) == ⟨b, z' * sz' + o', none⟩) = decide (z * sz + o = z' * sz' + o') := by
        by_cases e : z * sz + o = z' * sz' + o'
        · rw [e]; simp
        · rw [decide_eq_false e]
          rw [beq_eq_false_iff_ne]
          intro h; exact e (by injection h)
      simp [run_underlying hU, hS w, sameAddr, hb]
    simp [execOp, eqGuard, binOp, ha.eval h1, ha.eval h3, he]

/-! an element of a short array of texts -/
theorem av_index_aggS {l : List Str} {n E : Nat} {e : Str} {k : IntKind} {a : Int} (hU : Und P T (.array n E)) (hT : TyS P E false 1) (hn : Nat.beq l.length n = true) (hx : aev st.l x = some (.agg (l.map .str))) (hy : aev st.l y = some (.int k a)) (h : ix l a = some e) (hN : Nat.blt d N.n = true := by rfl) : AOpV P N X ⟨some d, .index T x y, U, pos, aft, g⟩ (.str e) st :=
  av_index_agg1 hU hT (by simpa using hn) hx hy (ix_map h) hN
end
end Go.Ab
namespace Go.Ab
open Go.RowKit Go.Shelf Go.Proofs Go.Eng
/-! (*strings.Builder).WriteByte -/
section
variable {P : Program} {ρ : Ren}
theorem wpList_append_at {w : World} {ops : Array Oper} {rest : List Oper} {o : Oper} {a : Act} {Q : Exit → Act → World → Prop} (hgd : o.guard = none) (s x : Operand) (t : TypeId)
    (ho : o.op = .call { callee := .builtin .append, args := #[s, x], argTypes := #[t, t] })
    (base : Nat) (e : TypeId) (i : TypeInfo) (z : Value) (size bytes : Nat) (ht : P.underlying t = some (.slice e)) (hi : P.info? e = some i) (hz : i.zero = some z)
    (hsize : i.size = size) (hby : i.bytes = bytes) (hzs : z.cells.size = size) (hsz : 0 < size)
    (v : Value) (n : Nat) (xs : List Value) (hs : a.eval s = v) (hown : w.ownsRow base e size v n xs)
    (ad : Addr) (m c : Nat) (news : List Value) (hx : a.eval x = .slice (some ad) m c) (hl : news.length = m * size) (hnews : ∀ j u, news[j]? = some u → w.cell? (ad.add j) = some u) (h1 : ∀ u ∈ news, u.oneCell' = true)
    (h63 : n + m ≤ maxLen) (hbytes : (n + m) * bytes ≤ 140737488355328) (hbase : base ≤ w.heap.size)
    (h : ∀ v' w', w'.ownsRow base e size v' (n + m) (xs ++ news) → w.grownBy w' v.ownBlock → (v'.ownBlock = v.ownBlock ∨ v'.ownBlock = some w.heap.size) → wpList P ops Q rest (a.put o.dst v') w') : wpList P ops Q (o :: rest) a w := by
  refine wpList_plain hgd fun K hK => ?_
  obtain ⟨v', w', hr, h2, h3, h4, h5⟩ := run_append_own_at (P := P) (w := w) base t o.type e i z size bytes ht hi hz hsize hby hzs hsz v n xs hown ad m c news hl hnews h1 h63 hbytes hbase
  unfold Oper.wp execOp
  simp only [ho, resolve, invoke, builtin, Sem.run_bind, Sem.run_pure, Result.andThen_ok, List.map_toArray, List.map_cons, List.map_nil, hs, hx, hr]
  exact hK _ _ (h v' w' h2 h3 h5)
set_option maxHeartbeats 4000000 in
set_option maxRecDepth 100000 in
theorem bld_wb_raw (L : Lays.n167 P ρ) (X : Builder.Extra P ρ) {b : Nat} {w : World} {p buf : Value} {n : Nat} {vs : List Value} (hp : p = .pointer none ∨ p = selfP b) (hbk : w.heap[b]? = some (.cells #[p, buf] (ρ.t 72) (0, 0))) (hown : w.ownsRow 0 (ρ.t 5) 1 buf n vs) (hne : buf.ownBlock ≠ some b) (c : Int) (hn : n + 1 ≤ cap47) :
    Calls P (ρ.f 167) #[selfP b, .int .u8 c] w fun e w' => e = .returned .nilIface ∧ ∃ w1 wA w2 v', Put w w1 b ∧ w1.heap[b]? = some (.cells #[selfP b, buf] (ρ.t 72) (0, 0)) ∧ Below w1.heap.size w1 wA ∧ w2.ownsRow 0 (ρ.t 5) 1 v' (n + 1) (vs ++ [.int .u8 c]) ∧ wA.grownBy w2 buf.ownBlock ∧ (v'.ownBlock = buf.ownBlock ∨ v'.ownBlock = some wA.heap.size) ∧ w2.heap[b]? = some (.cells #[selfP b, buf] (ρ.t 72) (0, 0)) ∧ w' = w2.setCell ⟨b, 1, none⟩ v' := by
  obtain ⟨i0, hi, hz0, hz1, hz2⟩ := info_parts X.infoByte
  have mixed := L.mixed
  have t72 := L.t72; have a72 := L.a72; have z72 := L.z72; have v72 := L.v72; have u72 := run_underlying L.t72
  have t70 := L.t70; have a70 := L.a70; have z70 := L.z70; have v70 := L.v70; have u70 := run_underlying L.t70
  have t5 := L.t5; have a5 := L.a5; have z5 := L.z5; have v5 := L.v5; have u5 := run_underlying L.t5
  have t37 := L.t37; have a37 := L.a37; have z37 := L.z37; have v37 := L.v37; have u37 := run_underlying L.t37
  have t9 := L.t9; have a9 := L.a9; have z9 := L.z9; have v9 := L.v9; have u9 := run_underlying L.t9
  have t4 := L.t4; have a4 := L.a4; have z4 := L.z4; have v4 := L.v4; have u4 := run_underlying L.t4
  have t164 := L.t164; have a164 := L.a164; have z164 := L.z164; have v164 := L.v164; have u164 := run_underlying L.t164
  have e240 : ∀ args w, (callFunc (ρ.f 240) args).run P w = .ok (.enter (ρ.f 240) args) w := enters_of L.f240 (by kernel_rfl) rfl
  go_enter L.f167, Body.n167_ntmps ρ
  go_wp2_with (go_at_fn (ρ.f 240); refine (bld_copy { L with } X.toX72 hp hbk).mono ?_)
  rintro e w1 ⟨rfl, hP, hbk1⟩
  have hown1 : w1.ownsRow 0 (ρ.t 5) 1 buf n vs := by
    refine ⟨hown.1, ?_⟩
    rcases hown.2 with h | ⟨g, cap, cur, rfl, h1, h2, h3⟩
    · exact .inl h
    · exact .inr ⟨g, cap, cur, rfl, h1, (hP.other g (by intro e; subst e; exact hne rfl)).trans h2, h3⟩
  have c0 : w1.cell? ⟨b, 0, none⟩ = some (selfP b) := by rw [Lib.cell_of_heap hbk1]; rfl
  have c1 : w1.cell? ⟨b, 1, none⟩ = some buf := by rw [Lib.cell_of_heap hbk1]; rfl
  go_wp2_with (at_builtin; refine wpList_append_at rfl _ _ (ρ.t 37) rfl 0 (ρ.t 5) i0 (.int .u8 0) 1 1 L.t37 hi hz0 hz1 hz2 rfl (by decide) _ _ _ rfl (hown1.alloc _) ⟨w1.heap.size, 0, none⟩ 1 1 [.int .u8 c] rfl rfl ?c1 ?c2 ?c3 ?c4 ?c5 ?_)
  case c1 =>
    intro j u hj
    match j, hj with
    | 0, hj => simp at hj; subst hj; simp [Addr.add]
  case c2 => intro u hu; simp at hu; subst hu; rfl
  case c3 => have h47 : cap47 = 140737488355328 := rfl; unfold maxLen; omega
  case c4 => have h47 : cap47 = 140737488355328 := rfl; omega
  case c5 => exact Nat.zero_le _
  intro v' w2 hown' hgrow hob
  have hlt : b < w1.heap.size := (Array.getElem?_eq_some_iff.1 hbk1).1
  have hb2 : w2.heap[b]? = some (.cells #[selfP b, buf] (ρ.t 72) (0, 0)) := by
    rw [hgrow.block b (by simp; omega) (fun e => hne e.symm), Lib.alloc_old w1 _ b hlt]
    exact hbk1
  have d0 : w2.cell? ⟨b, 0, none⟩ = some (selfP b) := by rw [Lib.cell_of_heap hb2]; rfl
  have d1 : w2.cell? ⟨b, 1, none⟩ = some buf := by rw [Lib.cell_of_heap hb2]; rfl
  have f1 : w2.frozen? ⟨b, 1, none⟩ = false := Lib.frozen_of_heap hb2 1
  obtain ⟨ao, n', cap, rfl⟩ : ∃ ao n' cap, v' = .slice ao n' cap := by
    rcases hown'.2 with ⟨hv, _⟩ | ⟨g, cap, cur, hv, _⟩
    · exact ⟨_, _, _, hv⟩
    · exact ⟨_, _, _, hv⟩
  go_wp2
  go_ret
  exact ⟨rfl, w1, _, w2, _, hP, hbk1, (Below.refl _ w1).alloc (Nat.le_refl _) _, hown', hgrow, by simpa using hob, hb2, rfl⟩

theorem bld_turn2 {e w w1 wA w2 : World} {m : Mem} {ρ : List Value} {F fb : Frag} {T E b : Nat} {p buf v' : Value} {n : Nat} {s1 : Str} (hs : SH e w m ((b, .cells #[p, buf] T (0, 0)) :: fb ++ F)) (hfb : (buf.ownBlock = none ∧ fb = []) ∨ ∃ b2 o, buf.ownBlock = some b2 ∧ fb = [(b2, o)]) (hfc : ∀ q ∈ fb, ctl q.2 = false)
    (hP : Put w w1 b) (hb1 : w1.heap[b]? = some (.cells #[selfP b, buf] T (0, 0))) (hA : Below w1.heap.size w1 wA) (hown : w2.ownsRow 0 E 1 v' n (Lib.strCells (bstr s1))) (hn : n = s1.length) (h0 : s1.length ≤ cap47) (hg : wA.grownBy w2 buf.ownBlock) (ho : v'.ownBlock = buf.ownBlock ∨ v'.ownBlock = some wA.heap.size) (hb2 : w2.heap[b]? = some (.cells #[selfP b, buf] T (0, 0))) :
    ∃ f', ORep m ρ (.bld T E s1) (selfP b) f' ∧ SH e (w2.setCell ⟨b, 1, none⟩ v') m (f' ++ F) ∧ DK nox w (w2.setCell ⟨b, 1, none⟩ v') ∧ w.heap.size ≤ (w2.setCell ⟨b, 1, none⟩ v').heap.size := by
  subst hn
  have h1' : SH e w1 m (fb ++ ((b, .cells #[selfP b, buf] T (0, 0)) :: F)) := (hs.put hP hb1 rfl).perm (by simpa using List.perm_middle.symm)
  have h1 : SH e wA m (fb ++ ((b, .cells #[selfP b, buf] T (0, 0)) :: F)) := h1'.ext hA
  obtain ⟨f', h2, h3⟩ := h1.grown hfb hg hown ho
  obtain ⟨hP2, hb3⟩ := setCell_put (j := 1) (v := v') hb2
  have h4 : SH e w2 m ((b, .cells #[selfP b, buf] T (0, 0)) :: (f' ++ F)) := h2.perm List.perm_middle
  have h5 := h4.put hP2 hb3 rfl
  refine ⟨_, bld_close h0 h3, h5, ?_, ?_⟩
  · intro k o hk hc _
    have hkb : k ≠ b := by
      rintro rfl
      have := hs.own (k, .cells #[p, buf] T (0, 0)) (by simp)
      simp only at this
      rw [hk] at this; cases this; cases hc
    have hk1 : w1.heap[k]? = some o := (hP.other k hkb).trans hk
    have hkA : wA.heap[k]? = some o := (hA.block k (Array.getElem?_eq_some_iff.1 hk1).1).trans hk1
    have hkn : some k ≠ buf.ownBlock := by
      intro he
      rcases hfb with ⟨q, _⟩ | ⟨b2, o2, q, rfl⟩
      · rw [q] at he; cases he
      · rw [q] at he; cases he
        have h6 := h1.own (k, o2) (by simp)
        have h7 := hfc (k, o2) (by simp)
        simp only at h6 h7
        rw [hkA] at h6; cases h6; rw [hc] at h7; cases h7
    exact (hP2.other k hkb).trans ((hg.block k (Array.getElem?_eq_some_iff.1 hkA).1 hkn).trans hkA)
  · have := hP.size; have := hA.size; have := hP2.size; have := hg.size; omega
theorem byte_cell {c : Int} (h0 : 0 ≤ c) (h1 : c < 256) : Value.int .u8 c = .int .u8 ((UInt8.ofNat c.toNat).toNat : Int) := by
  congr 1
  simp only [UInt8.toNat_ofNat']
  omega
/-- (*Builder).WriteByte. -/
theorem bld_wb (L : Lays.n167 P ρ) (X : Builder.Extra P ρ) {s0 : Str} {c : Int} (h0c : 0 ≤ c) (h1c : c < 256) (hn : strOk (s0.length + 1) = true) : Runs P (ρ.f 167) [.ptr 0 0, .int .u8 c] [.bld (ρ.t 72) (ρ.t 5) s0] (fun q H' => q = [.nili] ∧ H' = [.bld (ρ.t 72) (ρ.t 5) (s0 ++ [UInt8.ofNat c.toNat])]) := by
  intro e w m ρ' φ F vs hv ho hs
  obtain ⟨b, us, h1, rfl, h2⟩ := rep2_ptr hv
  obtain ⟨u, us', rfl, h3, h4⟩ := RepL.one1 h2
  simp only [RepA] at h3
  subst h3
  cases us' with
  | cons => simp [RepL] at h4
  | nil =>
    obtain ⟨f, rfl, rfl, hf⟩ := os_one ho h1
    have hs' : SH e w m (f ++ F) := by simpa using hs
    obtain ⟨h0, b', p, buf, fb, h5, hp, rfl, hown, hfb, hfc⟩ := bld_open hf (fun q hq => hs'.own q (by simp [hq]))
    cases h5
    have hbk := hs'.own (b, .cells #[p, buf] (ρ.t 72) (0, 0)) (by simp)
    have hne : buf.ownBlock ≠ some b := by
      intro he
      rcases hfb with ⟨q, _⟩ | ⟨b2, o2, q, rfl⟩
      · rw [q] at he; cases he
      · rw [q] at he; cases he
        have := hs'.nd
        simp at this
    have hle : s0.length + 1 ≤ cap47 := Nat.le_of_ble_eq_true hn
    refine Calls.mono (bld_wb_raw L X hp hbk hown hne c hle) ?_
    rintro ex w' ⟨rfl, w1, wA, w2, v', a1, a2, aA, a3, a4, a5, a6, rfl⟩
    have hcat : Lib.strCells (bstr s0) ++ [Value.int .u8 c] = Lib.strCells (bstr (s0 ++ [UInt8.ofNat c.toNat])) := by rw [strCells_bstr, strCells_bstr, List.map_append, byte_cell h0c h1c]; rfl
    rw [hcat] at a3
    obtain ⟨f', c1, c2, c3, c4⟩ := bld_turn2 (ρ := [selfP b]) hs' hfb hfc a1 a2 aA a3 (by simp) (by simpa using hle) a4 a5 a6
    exact ⟨_, rfl, ⟨c3, c4⟩, _, _, m, [selfP b], [f'], ⟨rfl, rfl⟩, Mem.le_refl _, fun _ _ h => h, Nat.le_refl _, os_mk c1, by simpa using c2, [.nilIface], by simp only [RepL, RepA]; exact ⟨trivial, trivial⟩, rfl⟩
end
end Go.Ab
namespace Go.Ab
open Go.RowKit Go.Shelf Go.Proofs Go.Eng
/-! structs of two texts as keys -/
def UndS (P : Program) (T : TypeId) : Prop := (match P.underlying T with | some (.struct _) => true | _ => false) = true
theorem UndS.und {P : Program} {T : TypeId} (h : UndS P T) : ∃ fs, P.underlying T = some (.struct fs) := by
  unfold UndS at h
  split at h
  · rename_i fs hm; exact ⟨fs, hm⟩
  · cases h
abbrev ST2 : Ty := .st (.pair .str .str)
theorem rv_st2 {m : Mem} {x : Str × Str} {v : Value} (h : RV m ST2 x v) : v = .agg #[.string (bstr x.1), .string (bstr x.2)] := by
  unfold RV at h
  rw [if_pos (show Ty.agg ST2 = true from rfl)] at h
  obtain ⟨cs, rfl, c, d, rfl, h1, h2⟩ := h
  have e1 : c = [.string (bstr x.1)] := h1
  have e2 : d = [.string (bstr x.2)] := h2
  subst e1 e2
  rfl
theorem eq_st2 {x y : Str × Str} : andAll (eqCells [.string (bstr x.1), .string (bstr x.2)] [.string (bstr y.1), .string (bstr y.2)]) = decide (x = y) := by
  obtain ⟨a, b⟩ := x
  obtain ⟨c, d⟩ := y
  have h1 : ∀ s t : Str, decide (bstr s = bstr t) = decide (s = t) := fun s t => by
    by_cases h : s = t
    · subst h; simp
    · have : bstr s ≠ bstr t := fun e => h (bstr_inj e)
      simp [h, this]
  simp only [eqCells, cellEq, andAll]
  by_cases h2 : a = c <;> by_cases h3 : b = d
  · subst h2 h3; simp
  · subst h2
    have : bstr b ≠ bstr d := fun e => h3 (bstr_inj e)
    simp [h3, this]
  · subst h3
    have : bstr a ≠ bstr c := fun e => h2 (bstr_inj e)
    simp [h2, this]
  · have e1 : bstr b ≠ bstr d := fun e => h3 (bstr_inj e)
    have e2 : bstr a ≠ bstr c := fun e => h2 (bstr_inj e)
    simp [h2, h3, e1, e2]
theorem keyT_st2 {P : Program} {kT : TypeId} [inst : DecidableEq ST2.den] (hU : UndS P kT) (hE : ∀ a0 b0 a1 b1 : ByteArray, EqT P kT [.string a0, .string a1] [.string b0, .string b1]) (hC : ∀ (em : Bool) (a b : ByteArray) (w : World), (Instr.checkKey em 10000 kT (.agg #[.string a, .string b])).run P w = .ok () w) : KeyT P kT ST2 := by
  obtain ⟨fs, hU⟩ := hU.und
  have heq : ∀ (w : World) (x y : Str × Str), (Op.equal kT (.agg #[.string (bstr x.1), .string (bstr x.2)]) (.agg #[.string (bstr y.1), .string (bstr y.2)])).run P w = .ok (decide (x = y)) w := fun w x y => by
    refine Eq.trans ((hE (bstr x.1) (bstr y.1) (bstr x.2) (bstr y.2)).2 w) ?_
    rw [eq_st2]
    congr
  refine ⟨fun m x v em w h => ?_, fun m x v tv xs es w hk he => ?_, fun m x u v w hu hv => ?_⟩
  · rw [rv_st2 h]; exact hC em _ _ w
  · obtain rfl := rv_st2 hk
    have ask : ∀ {xs : List ((Str × Str) × tv.den)} {es : List MapEntry} (i : Nat), EntL m ST2 tv xs es → ∃ r, (Instr.findAsking kT (.agg #[.string (bstr x.1), .string (bstr x.2)]) es i).run P w = .ok r w ∧ match r with
        | none => mget (α := ST2.den) xs x = none
        | some (q, u) => i ≤ q ∧ ∃ y, mget (α := ST2.den) xs x = some y ∧ RV m tv y u ∧ (xs[q - i]?).map (·.1) = some x ∧ (∃ e : MapEntry, es[q - i]? = some e) ∧ ∀ j, j < q - i → (xs[j]?).map (·.1) ≠ some x := by
      intro xs
      induction xs with
      | nil => intro es i h; cases es with
        | nil => exact ⟨none, by simp [Instr.findAsking], rfl⟩
        | cons => exact h.elim
      | cons p xs ih => intro es i h; cases es with
        | nil => exact h.elim
        | cons e es =>
          have hpe := rv_st2 h.1.1
          simp only [Instr.findAsking, Sem.run_bind, hpe, heq w x p.1, Result.andThen_ok]
          by_cases hkp : x = p.1
          · rw [decide_eq_true hkp]
            refine ⟨some (i, e.val), by simp, Nat.le_refl _, p.2, by simp [mget, hkp], h.1.2, by simp [hkp], ⟨e, by simp⟩, fun j hj => absurd hj (by omega)⟩
          · rw [decide_eq_false hkp]
            obtain ⟨r, h1, h2⟩ := ih (i + 1) h.2
            refine ⟨r, by simpa using h1, ?_⟩
            cases r with
            | none => simp only [mget, if_neg hkp]; exact h2
            | some q =>
              obtain ⟨q, u⟩ := q
              obtain ⟨h3, y, h4, h5, h6, ⟨e', h7⟩, h8⟩ := h2
              have hq : q - i = (q - (i + 1)) + 1 := by omega
              refine ⟨by omega, y, by simp only [mget, if_neg hkp]; exact h4, h5, by rw [hq]; simpa using h6, ⟨e', by rw [hq]; simpa using h7⟩, fun j hj => ?_⟩
              cases j with
              | zero => simp; exact fun e => hkp e.symm
              | succ j => simpa using h8 j (by omega)
    cases es with
    | nil =>
      refine ⟨none, by simp [Instr.findKey, run_underlying hU, Instr.findNow], ?_⟩
      cases xs with
      | nil => rfl
      | cons => exact he.elim
    | cons e es =>
      obtain ⟨r, h1, h2⟩ := ask 0 he
      refine ⟨r, ?_, ?_⟩
      · simp only [Instr.findKey, Sem.run_bind, run_underlying hU, Result.andThen_ok, Instr.findNow, Instr.sameNow]
        exact h1
      · cases r with
        | none => exact h2
        | some q =>
          obtain ⟨q, u⟩ := q
          obtain ⟨_, y, h3, h4, h5, h6, h7⟩ := h2
          exact ⟨y, h3, h4, by simpa using h5, by simpa using h6, by simpa using h7⟩
  · obtain rfl := rv_st2 hu
    obtain rfl := rv_st2 hv
    have hs : Instr.sameBits 10000 (.agg #[.string (bstr x.1), .string (bstr x.2)]) (.agg #[.string (bstr x.1), .string (bstr x.2)]) = true := by
      show Instr.sameBits (9999 + 1) _ _ = true
      simp only [Instr.sameBits, beq_self_eq_true, Bool.true_and, List.all_eq_true]
      intro p hp
      simp at hp
      rcases hp with rfl | rfl <;> simp [Instr.sameBits, bstr_beq]
    simp [Instr.keyThatStays, hs]
end Go.Ab
namespace Go.Ab
open Go.RowKit Go.Shelf Go.Proofs Go.Eng
section
variable {P : Program} {N : Ev} {X : Cx} {Q : APost} {st : AS}
variable {d : Nat} {T U T' : TypeId} {pos : String} {aft : Array Edge} {g : Option (Nat × Bool)} {x y : Operand}
/-- Whether there is an entry. -/
theorem av_look_any {i kT eT : Nat} {k : Ty} {v : OT} [DecidableEq k.den] {xs : List (k.den × v.den)} {hs : List (k.den × Nat)} {kx : k.den} {zv : Value} (hU : Und P T (.map kT eT)) (hK : KeyT P kT k) (hZ : Eng.Zero P eT zv) (hx : aev st.l x = some (.map i)) (hy : aev st.l y = some (whole k kx)) (hH : st.H.get i = .mpt k v xs hs) (hno : k.fit kx = true) (hN : Nat.blt d N.n = true := by rfl) :
    AOpV P N X ⟨some d, .lookup T x y true, U, pos, aft, g⟩ (.tup [.any, .bool (mget xs kx).isSome]) st :=
  av_of rfl fun Q fr w m ρ φ hc => by
    obtain ⟨v, h1, h2⟩ := hc.ev hx
    obtain ⟨u, h3, h4⟩ := hc.ev hy
    obtain ⟨_, hho, xs', hp, b, es, cl, fs, rfl, _, _, h5, h6, hn', _⟩ := own_mpt hc h2 hH
    obtain ⟨q, h7, h8⟩ := run_lookup3 (ok := true) hU hK hZ h5 h6 (whole_rv hno h4)
    rw [mget_perm hp hn'] at h7
    refine ⟨.tuple [q, .bool (mget xs kx).isSome].toArray, ?_, fun K hk => op_val rfl hN (fun ac ha => ?_) hk⟩
    · simp only [RepA]; exact ⟨_, rfl, by simp [RepL, RepA]⟩
    · simp only [execOp, ha.eval h1, ha.eval h3]
      rw [Sem.run_bind, h7]; rfl
end
end Go.Ab
namespace Go.Ab

/-! plain laws of printed functions -/
/-- A loop over an index, by an invariant; it may be left. -/
theorem rng_ex {S R : Type} {g : Int → S → Option (S ⊕ R)} (Inv : Nat → S → Prop) (Ex : R → Prop) {n : Nat} (h : ∀ i s, i < n → Inv i s → (∃ s', g (i : Int) s = some (.inl s') ∧ Inv (i + 1) s') ∨ ∃ r, g (i : Int) s = some (.inr r) ∧ Ex r) :
    ∀ (k i : Nat) (s : S), i + k = n → Inv i s → (∃ s', rng g k (i : Int) s = some (.inl s') ∧ Inv n s') ∨ ∃ r, rng g k (i : Int) s = some (.inr r) ∧ Ex r := by
  intro k
  induction k with
  | zero => intro i s hi hs; left; exact ⟨s, rfl, by rw [← hi]; simpa using hs⟩
  | succ k ih =>
    intro i s hi hs
    rcases h i s (by omega) hs with ⟨s', h1, h2⟩ | ⟨r, h1, h2⟩
    · simp only [rng, h1, Option.bind_some]
      have := ih (i + 1) s' (by omega) h2
      simpa using this
    · right
      exact ⟨r, by simp only [rng, h1, Option.bind_some], h2⟩
theorem rng_ex0 {S R : Type} {g : Int → S → Option (S ⊕ R)} (Inv : Nat → S → Prop) (Ex : R → Prop) {n : Nat} (h : ∀ i s, i < n → Inv i s → (∃ s', g (i : Int) s = some (.inl s') ∧ Inv (i + 1) s') ∨ ∃ r, g (i : Int) s = some (.inr r) ∧ Ex r) {s : S} (h0 : Inv 0 s) :
    (∃ s', rng g n 0 s = some (.inl s') ∧ Inv n s') ∨ ∃ r, rng g n 0 s = some (.inr r) ∧ Ex r := rng_ex Inv Ex h n 0 s (by omega) h0
/-- A loop that runs to its end. -/
theorem rng_inv {S R : Type} {g : Int → S → Option (S ⊕ R)} (Inv : Nat → S → Prop) {n : Nat} (h : ∀ i s, i < n → Inv i s → ∃ s', g (i : Int) s = some (.inl s') ∧ Inv (i + 1) s') {s : S} (h0 : Inv 0 s) : ∃ s', rng g n 0 s = some (.inl s') ∧ Inv n s' := by
  rcases rng_ex0 Inv (fun _ : R => False) (fun i s hi hs => .inl (h i s hi hs)) h0 with h | ⟨r, _, h⟩
  · exact h
  · exact h.elim
theorem ix_nat {α : Type} {x : List α} {i : Nat} (h : i < x.length) : ix x (i : Int) = some x[i] := by
  unfold ix
  rw [if_pos (by omega)]
  simp [h]
theorem toNat_len {α : Type} (x : List α) : Int.toNat (List.length x : Int) = x.length := by simp
end Go.Ab
namespace Go.Ab
open Go.RowKit Go.Shelf Go.Proofs Go.Eng

/-! plain laws: more of loops, indexes, ranges -/
/-- It gives something of which this is true. -/
def Tot {α : Type} (p : Option α) (Q : α → Prop) : Prop := ∃ r, p = some r ∧ Q r
theorem tot_some {α : Type} {r : α} {Q : α → Prop} (h : Q r) : Tot (some r) Q := ⟨r, rfl, h⟩
theorem Tot.bind {α β : Type} {p : Option α} {f : α → Option β} {Q : α → Prop} {R : β → Prop} (h : Tot p Q) (k : ∀ r, Q r → Tot (f r) R) : Tot (p.bind f) R := by
  obtain ⟨r, rfl, hq⟩ := h
  exact k r hq
theorem Tot.mono {α : Type} {p : Option α} {Q R : α → Prop} (h : Tot p Q) (k : ∀ r, Q r → R r) : Tot p R := let ⟨r, h1, h2⟩ := h; ⟨r, h1, k r h2⟩
theorem Tot.eq {α : Type} {p : Option α} {r : α} (h : Tot p (· = r)) : p = some r := by obtain ⟨q, h1, rfl⟩ := h; exact h1
theorem tot_if {α : Type} {c : Bool} {p q : Option α} {Q : α → Prop} (ht : c = true → Tot p Q) (hf : c = false → Tot q Q) : Tot (bif c then p else q) Q := by
  cases c
  · exact hf rfl
  · exact ht rfl
/-- A loop over an index that is not left. -/
theorem tot_rng {S R : Type} {g : Int → S → Option (S ⊕ R)} {n : Nat} {s : S} (Inv : Nat → S → Prop) (h0 : Inv 0 s) (h : ∀ i s, i < n → Inv i s → Tot (g (i : Int) s) fun o => ∃ s', o = .inl s' ∧ Inv (i + 1) s') : Tot (rng g n 0 s) fun o => ∃ s', o = .inl s' ∧ Inv n s' := by
  obtain ⟨s', h1, h2⟩ := rng_inv (g := g) (n := n) (s := s) Inv (fun i s hi hs => by
    obtain ⟨r, h1, s', rfl, h2⟩ := h i s hi hs
    exact ⟨s', h1, h2⟩) h0
  exact ⟨_, h1, s', rfl, h2⟩
/-- A loop over an index that may be left. -/
theorem tot_rngx {S R : Type} {g : Int → S → Option (S ⊕ R)} {n : Nat} {s : S} (Inv : Nat → S → Prop) (Ex : R → Prop) (h0 : Inv 0 s) (h : ∀ i s, i < n → Inv i s → Tot (g (i : Int) s) fun o => (∃ s', o = .inl s' ∧ Inv (i + 1) s') ∨ ∃ r, o = .inr r ∧ Ex r) : Tot (rng g n 0 s) fun o => (∃ s', o = .inl s' ∧ Inv n s') ∨ ∃ r, o = .inr r ∧ Ex r := by
  rcases rng_ex0 (g := g) (n := n) (s := s) Inv Ex (fun i s hi hs => by
    obtain ⟨r, h1, ⟨s', rfl, h2⟩ | ⟨r, rfl, h2⟩⟩ := h i s hi hs
    · exact .inl ⟨s', h1, h2⟩
    · exact .inr ⟨r, h1, h2⟩) h0 with ⟨s', h1, h2⟩ | ⟨r, h1, h2⟩
  · exact ⟨_, h1, .inl ⟨s', rfl, h2⟩⟩
  · exact ⟨_, h1, .inr ⟨r, rfl, h2⟩⟩

/-! indexes -/
theorem ix_getD {α : Type} [Inhabited α] {x : List α} {i : Nat} (h : i < x.length) : ix x (i : Int) = some (x.getD i default) := by
  rw [ix_nat h, List.getD_eq_getElem?_getD, List.getElem?_eq_getElem h]; rfl
theorem tot_ix {α : Type} [Inhabited α] {x : List α} {i : Nat} (h : i < x.length) {β : Type} {f : α → Option β} {Q : β → Prop} (k : Tot (f (x.getD i default)) Q) : Tot ((ix x (i : Int)).bind f) Q := by rw [ix_getD h]; exact k
theorem getD_mem {α : Type} {x : List α} {j : Nat} {d : α} (h : j < x.length) : x.getD j d ∈ x := by
  rw [List.getD_eq_getElem?_getD, List.getElem?_eq_getElem h]; simp
theorem take_snoc {α : Type} {x : List α} {i : Nat} (d : α) (h : i < x.length) : x.take (i + 1) = x.take i ++ [x.getD i d] := by
  rw [List.take_add_one, List.getElem?_eq_getElem h, List.getD_eq_getElem?_getD, List.getElem?_eq_getElem h]; rfl

/-! whole numbers of the machine -/
/-- A number of 64 bits. -/
def R64 (z : Int) : Prop := -9223372036854775808 ≤ z ∧ z ≤ 9223372036854775807
theorem w64_id {z : Int} (h : R64 z) : w64 z = z := wrap_i64 h
theorem apOk_t {b n : Nat} (h : n * b ≤ 140737488355328) : apOk b n = true := by
  simp only [apOk, Nat.ble_eq]; exact h
theorem strOk_t {n : Nat} (h : n ≤ 140737488355328) : strOk n = true := by simp only [strOk, Nat.ble_eq]; exact h
theorem slOk_t {lo hi : Int} {n : Nat} (h0 : 0 ≤ lo) (h1 : lo ≤ hi) (h2 : hi ≤ n) : slOk lo hi n = true := by
  simp only [slOk, Bool.and_eq_true, decide_eq_true_eq]; exact ⟨⟨h0, h1⟩, h2⟩

/-! maps -/
end Go.Ab
namespace Go.Ab

/-! lists of numbers, in order -/
/-! lists in order by a key -/
end Go.Ab
namespace Go.Ab
open Go
/-! what the library does, in plain words -/
def nonP (x : Nat) : Bool := decide ((x : Int) ≤ 32) || decide (126 < (x : Int))
def f34 (p0 : Int) : Option (Bool) :=
some ((decide (p0 ≤ 32)) || (decide (126 < p0)))
def fCF (s : Str) : Option Bool := some (decide (0 ≤ Lib.idxFunc nonP true (bstr s)))
def fWB (s : Str) (c : Int) : Option Str := bif decide (0 ≤ c) && decide (c < 256) && strOk (s.length + 1) then some (s ++ [UInt8.ofNat c.toNat]) else none
def fBS (s : Str) : Option Str := some s
def fJoin (xs : List Str) (sep : Str) : Option Str := bif Nat.ble xs.length 140737488355328 && Nat.ble (Lib.join xs sep).length 140737488355328 then some (Lib.join xs sep) else none
def fCmp (a b : Str) : Option Int := some (Lib.compareBytes a b)
end Go.Ab
namespace Go.Proofs
open Go.Shelf
def Try.laysJoin_ren : Go.Shelf.Ren := ⟨fun | 156 => 30 | 165 => 41 | 166 => 42 | 169 => 40 | 240 => 46 | 241 => 47 | 276 => 49 | 277 => 50 | n => n, fun | 31 => 67 | 9 => 9 | 3 => 3 | 4 => 4 | 0 => 0 | 20 => 20 | 72 => 80 | 76 => 88 | 70 => 77 | 37 => 78 | 75 => 83 | 127 => 93 | 164 => 95 | 5 => 5 | 80 => 86 | n => n, fun | n => n⟩
theorem Try.laysJoin : Go.Proofs.Lays.n156 Try.prog Try.laysJoin_ren := {
  mixed := by kernel_rfl
  f156 := Try.func30.trans (congrArg some (by kernel_rfl))
  f165 := Try.func41.trans (congrArg some (by kernel_rfl))
  f166 := Try.func42.trans (congrArg some (by kernel_rfl))
  f169 := Try.func40.trans (congrArg some (by kernel_rfl))
  f240 := Try.func46.trans (congrArg some (by kernel_rfl))
  f241 := Try.func47.trans (congrArg some (by kernel_rfl))
  f276 := Try.func49.trans (congrArg some (by kernel_rfl))
  f277 := Try.func50.trans (congrArg some (by kernel_rfl))
  t0 := Try.underlying0
  a0 := Try.isAgg0
  z0 := Try.sizeOf0
  v0 := Try.zeroValue0
  t3 := Try.underlying3
  a3 := Try.isAgg3
  z3 := Try.sizeOf3
  v3 := Try.zeroValue3
  t4 := Try.underlying4
  a4 := Try.isAgg4
  z4 := Try.sizeOf4
  v4 := Try.zeroValue4
  t9 := Try.underlying9
  a9 := Try.isAgg9
  z9 := Try.sizeOf9
  v9 := Try.zeroValue9
  t20 := Try.underlying20
  a20 := Try.isAgg20
  z20 := Try.sizeOf20
  v20 := Try.zeroValue20
  t31 := Try.underlying67
  a31 := Try.isAgg67
  z31 := Try.sizeOf67
  v31 := Try.zeroValue67
  t37 := Try.underlying78
  a37 := Try.isAgg78
  z37 := Try.sizeOf78
  v37 := Try.zeroValue78
  t70 := Try.underlying77
  a70 := Try.isAgg77
  z70 := Try.sizeOf77
  v70 := Try.zeroValue77
  t72 := Try.underlying80
  a72 := Try.isAgg80
  z72 := Try.sizeOf80
  v72 := Try.zeroValue80
  t75 := Try.underlying83
  a75 := Try.isAgg83
  z75 := Try.sizeOf83
  v75 := Try.zeroValue83
  t76 := Try.underlying88
  a76 := Try.isAgg88
  z76 := Try.sizeOf88
  v76 := Try.zeroValue88
  t127 := Try.underlying93
  a127 := Try.isAgg93
  z127 := Try.sizeOf93
  v127 := Try.zeroValue93
  t164 := Try.underlying95
  a164 := Try.isAgg95
  z164 := Try.sizeOf95
  v164 := Try.zeroValue95 }
def Try.laysBS_ren : Go.Shelf.Ren := ⟨fun | 169 => 40 | n => n, fun | 70 => 77 | 9 => 9 | 0 => 0 | 72 => 80 | 37 => 78 | 127 => 93 | 3 => 3 | 5 => 5 | n => n, fun | n => n⟩
theorem Try.laysBS : Go.Proofs.Lays.n169 Try.prog Try.laysBS_ren := {
  mixed := by kernel_rfl
  f169 := Try.func40.trans (congrArg some (by kernel_rfl))
  t0 := Try.underlying0
  a0 := Try.isAgg0
  z0 := Try.sizeOf0
  v0 := Try.zeroValue0
  t3 := Try.underlying3
  a3 := Try.isAgg3
  z3 := Try.sizeOf3
  v3 := Try.zeroValue3
  t9 := Try.underlying9
  a9 := Try.isAgg9
  z9 := Try.sizeOf9
  v9 := Try.zeroValue9
  t37 := Try.underlying78
  a37 := Try.isAgg78
  z37 := Try.sizeOf78
  v37 := Try.zeroValue78
  t70 := Try.underlying77
  a70 := Try.isAgg77
  z70 := Try.sizeOf77
  v70 := Try.zeroValue77
  t72 := Try.underlying80
  a72 := Try.isAgg80
  z72 := Try.sizeOf80
  v72 := Try.zeroValue80
  t127 := Try.underlying93
  a127 := Try.isAgg93
  z127 := Try.sizeOf93
  v127 := Try.zeroValue93 }
def Try.laysCmp_ren : Go.Shelf.Ren := ⟨fun | 106 => 24 | 213 => 36 | 265 => 45 | n => n, fun | 9 => 9 | 3 => 3 | n => n, fun | n => n⟩
theorem Try.laysCmp : Go.Proofs.Lays.n106 Try.prog Try.laysCmp_ren := {
  mixed := by kernel_rfl
  f106 := Try.func24.trans (congrArg some (by kernel_rfl))
  f213 := Try.func36.trans (congrArg some (by kernel_rfl))
  f265 := Try.func45.trans (congrArg some (by kernel_rfl))
  t3 := Try.underlying3
  a3 := Try.isAgg3
  z3 := Try.sizeOf3
  v3 := Try.zeroValue3
  t9 := Try.underlying9
  a9 := Try.isAgg9
  z9 := Try.sizeOf9
  v9 := Try.zeroValue9 }
def Try.laysCF_ren : Go.Shelf.Ren := ⟨fun | 17 => 33 | 15 => 44 | 20 => 48 | n => n, fun | 9 => 9 | 23 => 73 | 4 => 4 | 3 => 3 | 0 => 0 | 21 => 21 | n => n, fun | n => n⟩
theorem Try.laysCF : Go.Proofs.LaysGw.n17 Try.prog Try.laysCF_ren := {
  mixed := by kernel_rfl
  f15 := Try.func44.trans (congrArg some (by kernel_rfl))
  f17 := Try.func33.trans (congrArg some (by kernel_rfl))
  f20 := Try.func48.trans (congrArg some (by kernel_rfl))
  t0 := Try.underlying0
  a0 := Try.isAgg0
  z0 := Try.sizeOf0
  v0 := Try.zeroValue0
  i0 := by kernel_rfl
  t3 := Try.underlying3
  a3 := Try.isAgg3
  z3 := Try.sizeOf3
  v3 := Try.zeroValue3
  i3 := by kernel_rfl
  t4 := Try.underlying4
  a4 := Try.isAgg4
  z4 := Try.sizeOf4
  v4 := Try.zeroValue4
  i4 := by kernel_rfl
  t9 := Try.underlying9
  a9 := Try.isAgg9
  z9 := Try.sizeOf9
  v9 := Try.zeroValue9
  i9 := by kernel_rfl
  t21 := Try.underlying21
  a21 := Try.isAgg21
  z21 := Try.sizeOf21
  v21 := Try.zeroValue21
  i21 := by kernel_rfl
  t23 := Try.underlying73
  a23 := Try.isAgg73
  z23 := Try.sizeOf73
  v23 := Try.zeroValue73
  i23 := by kernel_rfl }
def Try.laysWB_ren : Go.Shelf.Ren := ⟨fun | 167 => 39 | 240 => 46 | 276 => 49 | n => n, fun | 9 => 9 | 3 => 3 | 4 => 4 | 0 => 0 | 20 => 20 | 72 => 80 | 70 => 77 | 37 => 78 | 75 => 83 | 164 => 95 | 5 => 5 | 80 => 86 | n => n, fun | n => n⟩
theorem Try.laysWB : Go.Proofs.Lays.n167 Try.prog Try.laysWB_ren := {
  mixed := by kernel_rfl
  f167 := Try.func39.trans (congrArg some (by kernel_rfl))
  f240 := Try.func46.trans (congrArg some (by kernel_rfl))
  f276 := Try.func49.trans (congrArg some (by kernel_rfl))
  t0 := Try.underlying0
  a0 := Try.isAgg0
  z0 := Try.sizeOf0
  v0 := Try.zeroValue0
  t4 := Try.underlying4
  a4 := Try.isAgg4
  z4 := Try.sizeOf4
  v4 := Try.zeroValue4
  t5 := Try.underlying5
  a5 := Try.isAgg5
  z5 := Try.sizeOf5
  v5 := Try.zeroValue5
  t9 := Try.underlying9
  a9 := Try.isAgg9
  z9 := Try.sizeOf9
  v9 := Try.zeroValue9
  t20 := Try.underlying20
  a20 := Try.isAgg20
  z20 := Try.sizeOf20
  v20 := Try.zeroValue20
  t37 := Try.underlying78
  a37 := Try.isAgg78
  z37 := Try.sizeOf78
  v37 := Try.zeroValue78
  t70 := Try.underlying77
  a70 := Try.isAgg77
  z70 := Try.sizeOf77
  v70 := Try.zeroValue77
  t72 := Try.underlying80
  a72 := Try.isAgg80
  z72 := Try.sizeOf80
  v72 := Try.zeroValue80
  t75 := Try.underlying83
  a75 := Try.isAgg83
  z75 := Try.sizeOf83
  v75 := Try.zeroValue83
  t164 := Try.underlying95
  a164 := Try.isAgg95
  z164 := Try.sizeOf95
  v164 := Try.zeroValue95 }
theorem Try.bxJoin : Builder.Extra Try.prog Try.laysJoin_ren := {
  sizeBuilder := by kernel_rfl
  liesBuilder := by kernel_rfl
  t5 := Try.underlying5
  a5 := Try.isAgg5
  z5 := Try.sizeOf5
  v5 := Try.zeroValue5
  infoByte := by kernel_rfl
  cellsByte := by kernel_rfl
  sizeByte := by kernel_rfl
  neB5 := by decide }
theorem Try.bxWB : Builder.Extra Try.prog Try.laysWB_ren := {
  sizeBuilder := by kernel_rfl
  liesBuilder := by kernel_rfl
  t5 := Try.underlying5
  a5 := Try.isAgg5
  z5 := Try.sizeOf5
  v5 := Try.zeroValue5
  infoByte := by kernel_rfl
  cellsByte := by kernel_rfl
  sizeByte := by kernel_rfl
  neB5 := by decide }
theorem Try.bxBS : Builder.Extra Try.prog Try.laysBS_ren := {
  sizeBuilder := by kernel_rfl
  liesBuilder := by kernel_rfl
  t5 := Try.underlying5
  a5 := Try.isAgg5
  z5 := Try.sizeOf5
  v5 := Try.zeroValue5
  infoByte := by kernel_rfl
  cellsByte := by kernel_rfl
  sizeByte := by kernel_rfl
  neB5 := by decide }
end Go.Proofs
namespace Go.Ab
open Go.RowKit Go.Shelf Go.Proofs Go.Eng
theorem f34_runs {p0 : Int} {r : Bool} (hr : f34 p0 = some r) : RunsP Try.prog 34 [.int .i32 p0] [.bool r] := by
  refine runs_w Try.func34 Try.ntmps34 rfl (rs := [.tmp 2]) rfl rfl fun w0 X hX => ?_
  refine awc_seq ?_
  refine awc_region ?_
  refine awl_v (av_assign rfl) ?_
  refine awl_nil (athen_norm (awc_seq ?_))
  refine awc_text [0] [(true, .int .i32 p0), (true, .bool (decide (p0 ≤ 32))), (true, .bool (decide (p0 ≤ 32))), (!(decide (p0 ≤ 32)), .int .i32 p0), (!(decide (p0 ≤ 32)), .bool (decide (126 < p0))), (true, .bool ((decide (p0 ≤ 32)) || (decide (126 < p0)))), (true, .bool ((decide (p0 ≤ 32)) || (decide (126 < p0))))] [[], [0], [1], [2], [3, 2], [4, 2], [5]] [6] rfl rfl rfl rfl rfl ⟨?_, ?_, ?_, ?_, ?_, ?_, ?_, trivial⟩ (allT_of ⟨rfl, trivial⟩) ?_
  · exact ob_v rfl (fun hg => allT_of trivial) (fun hg => av_move rfl)
  · exact ob_v rfl (fun hg => allT_of ⟨rfl, trivial⟩) (fun hg => av_leq rfl rfl)
  · exact ob_v rfl (fun hg => allT_of ⟨rfl, trivial⟩) (fun hg => av_move rfl)
  · exact ob_v ⟨rfl, rfl, rfl, _, rfl, rfl⟩ (fun hg => allT_of ⟨rfl, trivial⟩) (fun hg => av_move rfl)
  · exact ob_v ⟨rfl, rfl, rfl, _, rfl, rfl⟩ (fun hg => allT_of ⟨hg, rfl, trivial⟩) (fun hg => av_gtr rfl rfl)
  · exact ob_pick (b := false) (p := decide (p0 ≤ 32)) (q := decide (126 < p0)) rfl rfl rfl (fun hg => allT_of ⟨rfl, trivial⟩) rfl rfl rfl rfl rfl
  · exact ob_v rfl (fun hg => allT_of ⟨rfl, trivial⟩) (fun hg => av_assign rfl)
  have hr := Option.some.inj hr
  subst hr
  exact athen_norm (awc_ret (ret_q (l' := [(2, .bool ((decide (p0 ≤ 32)) || (decide (126 < p0))))]) (wk_of hX [] 4 rfl rfl ⟨⟨_, rfl, cv0⟩, trivial⟩ trivial) rfl ⟨rfl, trivial⟩))
theorem nonP_runs (x : Nat) : RunsP Try.prog 34 [.int .i32 (x : Int)] [.bool (nonP x)] := f34_runs rfl
theorem fWB_runs {p0_0 : Str} {p1 : Int} {r : Str} (hr : fWB p0_0 p1 = some r) : Runs Try.prog 39 [.ptr 0 0, .int .u8 p1] [.bld 80 5 p0_0] (fun q Hq => q = [.nili] ∧ Hq = [.bld 80 5 r]) := by
  unfold fWB at hr
  obtain ⟨h, hr⟩ := chk_some hr
  have hr := Option.some.inj hr
  subst hr
  simp only [Bool.and_eq_true, decide_eq_true_eq] at h
  exact bld_wb Try.laysWB Try.bxWB h.1.1 h.1.2 h.2
theorem fBS_runs {p0_0 : Str} {r : Str} (hr : fBS p0_0 = some r) : Runs Try.prog 40 [.ptr 0 0] [.bld 80 5 p0_0] (fun q Hq => q = [.str r] ∧ Hq = [.dead]) := by
  obtain rfl : p0_0 = r := Option.some.inj hr
  exact bld_str Try.laysBS Try.bxBS
theorem fCmp_runs {a b : Str} {r : Int} (hr : fCmp a b = some r) : RunsP Try.prog 24 [.str a, .str b] [.int .i64 r] := by
  obtain rfl := Option.some.inj hr
  refine runs_flat rfl rfl fun w => ?_
  refine Calls.mono (Any.strings_Compare Try.laysCmp (bstr a) (bstr b) w) ?_
  rintro e w' ⟨rfl, rfl⟩
  refine ⟨?_, Below.refl _ _⟩
  simp [bstr, tupleOf, flatV]
theorem fCF_runs {p0 : Str} {r : Bool} (hr : fCF p0 = some r) : RunsP Try.prog 33 [.str p0, .fn 34 [] []] [.bool r] := by
  obtain rfl := Option.some.inj hr
  intro e w m ρ φ F vs hv ho hs
  match vs, hv with
  | [v, u], ⟨hv1, hv2, _⟩ =>
    obtain rfl : v = .string (bstr p0) := hv1
    simp only [RepA] at hv2
    obtain ⟨us, ws, rfl, h1, h2⟩ := hv2
    cases us with
    | cons => simp [RepL] at h1
    | nil => cases ws with
      | cons => simp [RepL] at h2
      | nil =>
        refine Calls.mono (Any.strings_ContainsFunc_grows Try.laysCF 34 #[] (enters_of Try.func34 (by kernel_rfl) rfl) nonP (bstr p0) w fun W x hx hb => ?_) ?_
        · have := law_calls (W := W) (vs := [.int .i32 (x : Int)]) (nonP_runs x) (by simp [RepL, RepA])
          refine Calls.mono this ?_
          rintro e' w' ⟨v, rfl, _, rfl, hb'⟩
          exact ⟨rfl, hb'⟩
        · rintro ex w' ⟨rfl, hb⟩
          exact ⟨_, rfl, ⟨DK.of_below hb, hb.size⟩, _, [], m, ρ, φ, ⟨rfl, rfl⟩, Mem.le_refl _, fun _ _ h => h, Nat.le_refl _, ho, hs.ext hb, [_], ⟨rfl, trivial⟩, rfl⟩
theorem map_bstr (xs : List Str) : (xs.map bstr).map (fun b : ByteArray => b.data.toList) = xs := by
  induction xs with
  | nil => rfl
  | cons x xs ih => simp only [List.map_cons, ih]; simp [bstr]
theorem join_calls {m : Mem} {w : World} {xs : List Str} {sep : Str} {v : Value} (hfz : ∀ b o, m b = some o → w.heap[b]? = some o) (h : RC m (.slice .str) xs [v]) (h1 : xs.length ≤ 140737488355328) (h2 : (Lib.join xs sep).length ≤ 140737488355328) :
    Calls Try.prog 30 #[v, .string (bstr sep)] w fun e w' => e = .returned (.string (bstr (Lib.join xs sep))) ∧ Below w.heap.size w w' := by
  have hd : (bstr sep).data.toList = sep := by simp [bstr]
  obtain ⟨A, n, c, hv, hl, hc, _, b, o, hA, hx⟩ := h
  obtain rfl := List.cons.inj hv |>.1
  by_cases h0 : xs = []
  · subst h0
    obtain rfl : 0 = n := by simpa using hl
    refine Calls.mono (Any.strings_Join_none Try.laysJoin Try.bxJoin A c (bstr sep) w) ?_
    rintro e w' ⟨rfl, rfl⟩
    exact ⟨rfl, Below.refl _ _⟩
  · have hp : 0 < n := by rw [← hl]; exact List.length_pos_iff.2 h0
    obtain rfl := hA hp
    have hcell : ∀ (i : Nat) y, xs[i]? = some y → ∃ cs T fr, m b = some (.cells cs T fr) ∧ cs[o + i]? = some (.string (bstr y)) := by
      intro i y hy
      obtain ⟨us, hu, hcm⟩ := hx i y hy
      obtain rfl : us = [.string (bstr y)] := hu
      simpa [Ty.cells] using hcm 0 _ rfl
    have e1 : n = (xs.map bstr).length := by simp [hl]
    rw [e1]
    refine Calls.mono (Any.strings_Join Try.laysJoin Try.bxJoin b o c (xs.map bstr) (bstr sep) w ?_ ?_ (by simpa using h1) (by omega) (by rw [map_bstr, hd]; exact h2)) ?_
    · intro j x hj
      rw [List.getElem?_map] at hj
      obtain ⟨y, hy, rfl⟩ := Option.map_eq_some_iff.1 hj
      obtain ⟨cs, T, fr, g1, g2⟩ := hcell j y hy
      simp [World.cell?, hfz _ _ g1, g2]
    · obtain ⟨y, ys, rfl⟩ := List.exists_cons_of_ne_nil h0
      obtain ⟨cs, T, fr, g1, g2⟩ := hcell 0 y rfl
      exact (Array.getElem?_eq_some_iff.1 (hfz _ _ g1)).1
    · rintro e w' ⟨rfl, hb⟩
      rw [map_bstr, hd]
      exact ⟨rfl, hb⟩
theorem fJoin_runs {s : List Str} {t : Str} {r : Str} (hr : fJoin s t = some r) : RunsP Try.prog 30 [.sl .str s, .str t] [.str r] := by
  unfold fJoin at hr
  obtain ⟨h, hr⟩ := chk_some hr
  have hr := Option.some.inj hr
  subst hr
  simp only [Bool.and_eq_true, Nat.ble_eq] at h
  intro e w m ρ φ F vs hv ho hs
  match vs, hv with
  | [v, u], ⟨hv1, hv2, _⟩ =>
    obtain rfl : u = .string (bstr t) := hv2
    refine Calls.mono (join_calls hs.fz hv1 h.1 h.2) ?_
    rintro ex w' ⟨rfl, hb⟩
    exact ⟨_, rfl, ⟨DK.of_below hb, hb.size⟩, _, [], m, ρ, φ, ⟨rfl, rfl⟩, Mem.le_refl _, fun _ _ h => h, Nat.le_refl _, ho, hs.ext hb, [_], ⟨rfl, trivial⟩, rfl⟩
end Go.Ab
set_option maxRecDepth 100000
namespace Go.Ab
def f69  : Option (Int) :=
some 2
def f68  : Option (Int) :=
some 3
def f32_b0 (p0 : List (Str × Str)) (q1 : (Str × Str) → Option Bool) (i1 : Int) (s : Unit) : Option (Unit ⊕ Int) :=
(ix p0 i1).bind fun x7 =>
(q1 x7).bind fun x9 =>
bif x9 then
(some (.inr i1))
else
(some (.inl ()))
def f32 (p0 : List (Str × Str)) (q1 : (Str × Str) → Option Bool) : Option (Int) :=
(rng (f32_b0 p0 q1) (Int.toNat (List.length p0 : Int)) 0 ()).bind fun o4 => match o4 with
| .inl () => (some (-1))
| .inr s3 => (some s3)
def f19 (p0 : List (Str × Str)) (q1 : (Str × Str) → Option Bool) : Option (Bool) :=
(f32 p0 q1).bind fun x1 =>
some (decide (0 ≤ x1))
def f21_b0 (p0 : Str × Str) (i1 : Int) (s : Unit) : Option (Unit ⊕ Unit) :=
(ix ([p0.1, p0.2] : List Str) i1).bind fun x6 =>
bif (!(!(decide (32 < (List.length x6 : Int)))) || Option.isSome (fCF x6)) then
bif (decide (32 < (List.length x6 : Int))) || ((fCF x6).getD default) then
(some (.inr ()))
else
(some (.inl ()))
else none
def f21 (p0 : Str × Str) : Option (Bool) :=
(rng (f21_b0 p0) (Int.toNat 2) 0 ()).bind fun o3 => match o3 with
| .inl () => (some (!((decide (bstr p0.1 = bstr ([] : Str))) && (decide (bstr p0.2 = bstr ([] : Str))))))
| .inr () => (some false)
def f20 (p0 : Str × Str) : Option (Bool) :=
(f21 p0).bind fun x1 =>
some (!x1)
def f9 (p0 : List (Str × Str)) : Option (Bool) :=
bif (!((decide (1 ≤ (List.length p0 : Int))) && (decide ((List.length p0 : Int) ≤ 20))) || Option.isSome (f19 p0 (fun y1 => f20 y1))) then
some (((decide (1 ≤ (List.length p0 : Int))) && (decide ((List.length p0 : Int) ≤ 20))) && (!((f19 p0 (fun y1 => f20 y1)).getD default)))
else none
def f38 (p0 : Int) : Option (Bool) :=
some (((decide (p0 = 46)) || (decide (p0 = 47))) || (decide (p0 = 92)))
def f37_b0 (p0 : Str) (i2 : Int) (s4 : Str) : Option (Str ⊕ Unit) :=
(((ix p0 i2).bind fun x14 =>
(f38 ((UInt8.toNat x14 : Nat) : Int)).bind fun x16 =>
bif x16 then
((fWB s4 92).bind fun x19 =>
some (.inl x19))
else
(some (.inl s4))) : Option (Str ⊕ Unit)).bind fun o12 => match o12 with
| .inl s11 => ((ix p0 i2).bind fun x21 =>
(fWB s11 ((UInt8.toNat x21 : Nat) : Int)).bind fun x23 =>
some (.inl x23))
| .inr _ => none
def f37 (p0 : Str) (p1_0 : Str) : Option (Str) :=
bif decide ((List.length p0 : Int) ≤ 9223372036854775807) then
(rng (f37_b0 p0) (Int.toNat (List.length p0 : Int)) 0 p1_0).bind fun o8 => match o8 with
| .inl s4 => (some s4)
| .inr _ => none
else none
def f29 (p0 : Str × Str) : Option (Str) :=
(f37 p0.1 ([] : Str)).bind fun x1 =>
((bif !decide (p0.2 = ([] : Str)) then
((fWB x1 46).bind fun x7 =>
(f37 p0.2 x7).bind fun x9 =>
some (.inl x9))
else
(some (.inl x1))) : Option (Str ⊕ Unit)).bind fun o4 => match o4 with
| .inl s3 => ((fBS s3).bind fun x11 =>
some x11)
| .inr _ => none
def f17_b0 (p0 : List (Str × Str)) (i1 : Int) (s3 : List Str) : Option ((List Str) ⊕ Unit) :=
(ix p0 i1).bind fun x11 =>
(f29 x11).bind fun x13 =>
bif apOk 16 (List.length s3 + List.length [x13]) then
some (.inl (s3 ++ [x13]))
else none
def f17 (p0 : List (Str × Str)) : Option (Str) :=
(rng (f17_b0 p0) (Int.toNat (List.length p0 : Int)) 0 ([] : List Str)).bind fun o6 => match o6 with
| .inl s3 => ((fJoin s3 ([47] : Str)).bind fun x8 =>
some x8)
| .inr _ => none
def f7_b0 (p0 : Str) (s : Nat × Bool × Int × (List (Str × Str))) : Option ((Nat × Bool × Int × (List (Str × Str))) ⊕ (Unit ⊕ ((List (Str × Str))))) :=
match s with
| (s4, s5, s6, s7) => (bif decide (s6 < (List.length p0 : Int)) then
((((ix p0 s6).bind fun x29 =>
bif decide (((UInt8.toNat x29 : Nat) : Int) = 47) then
(bif apOk 32 (List.length s7 + List.length [(([] : Str), ([] : Str))]) then
(ix (s7 ++ [(([] : Str), ([] : Str))]) (w64 ((List.length (s7 ++ [(([] : Str), ([] : Str))]) : Int) - 1))).bind fun x33 =>
some (.inl ((Int.toNat (w64 ((List.length (s7 ++ [(([] : Str), ([] : Str))]) : Int) - 1))), false, s6, (s7 ++ [(([] : Str), ([] : Str))])))
else none)
else
(bif (!(decide (((UInt8.toNat x29 : Nat) : Int) = 46)) || Option.isSome (ix s7 (w64 ((List.length s7 : Int) - 1)))) then
bif (decide (((UInt8.toNat x29 : Nat) : Int) = 46)) && (decide (s4 * 2 + (bif s5 then 1 else 0) = (Int.toNat (w64 ((List.length s7 : Int) - 1))) * 2 + 0)) then
((ix s7 (w64 ((List.length s7 : Int) - 1))).bind fun x37 =>
some (.inl ((Int.toNat (w64 ((List.length s7 : Int) - 1))), true, s6, s7)))
else
(bif (decide (((UInt8.toNat x29 : Nat) : Int) = 92)) && (decide ((w64 (s6 + 1)) < (List.length p0 : Int))) then
((ix s7 (s4 : Int)).bind fun x40 =>
bif slOk (w64 (s6 + 1)) (w64 ((w64 (s6 + 1)) + 1)) (List.length p0) then
bif strOk (List.length (bif s5 then x40.2 else x40.1) + List.length ((p0.take (Int.toNat (w64 ((w64 (s6 + 1)) + 1)))).drop (Int.toNat (w64 (s6 + 1))))) then
some (.inl (s4, s5, (w64 (s6 + 1)), (s7.set s4 (two_set x40 s5 ((bif s5 then x40.2 else x40.1) ++ ((p0.take (Int.toNat (w64 ((w64 (s6 + 1)) + 1)))).drop (Int.toNat (w64 (s6 + 1)))))))))
else none
else none)
else
((ix s7 (s4 : Int)).bind fun x44 =>
bif slOk s6 (w64 (s6 + 1)) (List.length p0) then
bif strOk (List.length (bif s5 then x44.2 else x44.1) + List.length ((p0.take (Int.toNat (w64 (s6 + 1)))).drop (Int.toNat s6))) then
some (.inl (s4, s5, s6, (s7.set s4 (two_set x44 s5 ((bif s5 then x44.2 else x44.1) ++ ((p0.take (Int.toNat (w64 (s6 + 1)))).drop (Int.toNat s6)))))))
else none
else none))
else none)) : Option ((Nat × Bool × Int × (List (Str × Str))) ⊕ Unit)).bind fun o27 => match o27 with
| .inl (s23, s24, s25, s26) => (bif (!(!(decide (20 < (List.length s26 : Int)))) || Option.isSome (ix s26 (s23 : Int))) then
bif (decide (20 < (List.length s26 : Int))) || (decide (32 < (List.length (bif s24 then (((ix s26 (s23 : Int)).getD default)).2 else (((ix s26 (s23 : Int)).getD default)).1) : Int))) then
(some (.inr (.inl ())))
else
(some (.inl (s23, s24, (w64 (s25 + 1)), s26)))
else none)
| .inr _ => none)
else
(some (.inr (.inr s7))))
def f7 (p0 : Str) : Option ((List (Str × Str)) × Int) :=
bif decide (65536 < (List.length p0 : Int)) then
(some (([] : List (Str × Str)), 3))
else
((ix [(([] : Str), ([] : Str))] 0).bind fun x2 =>
(lrun (f7_b0 p0) (List.length p0 + 1) ((Int.toNat 0), false, 0, [(([] : Str), ([] : Str))])).bind fun o16 => match o16 with
| .inl () => (some (([] : List (Str × Str)), 2))
| .inr s15 => ((f9 s15).bind fun x18 =>
bif (!(!(!x18)) || Option.isSome (f17 s15)) then
bif (!x18) || (!decide (((f17 s15).getD default) = p0)) then
(some (([] : List (Str × Str)), 2))
else
(some (s15, 0))
else none))
def f14  : Option (Unit) :=
some ()
def f26 (p0 : List (Int × (List ((Str × Str) × Cell1))) × Int × Int) (p1 : Int) (p2 : List (Str × Str)) : Option (Int) :=
bif (!(!false) || Option.isSome (f9 p2)) then
bif false || (!((f9 p2).getD default)) then
(some 1)
else
(bif !((mget p0.1 p1).isSome) then
(some 7)
else
(some 0))
else none
def f27_b0 (p0 : List (Int × (List ((Str × Str) × Cell1))) × Int × Int) (p2 : List (Str × Str)) (i2 : Int) (s3 : (List ((Str × Str) × Cell1))) : Option (((List ((Str × Str) × Cell1))) ⊕ (Int × Int × Int)) :=
(((ix ((p2.take (Int.toNat (w64 ((List.length p2 : Int) - 1)))).drop (Int.toNat 0)) i2).bind fun x18 =>
bif isIf ((mget s3 x18).getD ifN) then
bif (isN ((mget s3 x18).getD ifN)) then
(some (.inr (8, 1)))
else
((asS 75 ((mget s3 x18).getD ifN)).bind fun x22 =>
bif x22.2 then
(some (.inr (10, 2)))
else
((asI 57 .i64 ((mget s3 x18).getD ifN)).bind fun x25 =>
bif x25.2 then
(bif !((mget p0.1 x25.1).isSome) then
(some (.inr (8, 1)))
else
(some (.inl ((mget p0.1 x25.1).getD []))))
else
(some (.inl s3))))
else none) : Option (((List ((Str × Str) × Cell1))) ⊕ (Int × Int))).bind fun o16 => match o16 with
| .inl s13 => (some (.inl s13))
| .inr (s14, s15) => (some (.inr (s14, i2, s15)))
def f27 (p0 : List (Int × (List ((Str × Str) × Cell1))) × Int × Int) (p1 : Int) (p2 : List (Str × Str)) : Option ((List ((Str × Str) × Cell1)) × (Int × Int) × Int) :=
bif slOk 0 (w64 ((List.length p2 : Int) - 1)) (List.length p2) then
(rng (f27_b0 p0 p2) (Int.toNat (List.length ((p2.take (Int.toNat (w64 ((List.length p2 : Int) - 1)))).drop (Int.toNat 0)) : Int)) 0 ((mget p0.1 p1).getD [])).bind fun o10 => match o10 with
| .inl s3 => (some (s3, (0, 0), 0))
| .inr (s7, s8, s9) => (some ([], (s8, s9), s7))
else none
def f27o (p0 : List (Int × (List ((Str × Str) × Cell1))) × Int × Int) (p1 : Int) (p2 : List (Str × Str)) : Option (List ((Str × Str) × Cell1)) := bif Nat.beq p2.length 1 then mget p0.1 p1 else none
def f25 (p0_0 : List (Int × (List ((Str × Str) × Cell1))) × Int × Int) (p1 : Int) (p2 : List (Str × Str)) (p3 : Cell1) (p4 : Bool) : Option ((Int × Int) × Int × (List (Int × (List ((Str × Str) × Cell1))) × Int × Int)) :=
(f26 p0_0 p1 p2).bind fun x2 =>
bif !decide (x2 = 0) then
(some ((0, 0), x2, p0_0))
else
((((asS 75 p3).bind fun x8 =>
bif x8.2 then
(bif decide (65536 < (List.length x8.1 : Int)) then
(some (.inr 1))
else
(some (.inl ())))
else
((asI 57 .i64 p3).bind fun x12 =>
bif x12.2 then
(bif !((mget p0_0.1 x12.1).isSome) then
(some (.inr 7))
else
(some (.inl ())))
else
(some (.inl ())))) : Option (Unit ⊕ Int)).bind fun o6 => match o6 with
| .inl () => ((f27o p0_0 p1 p2).bind fun x16 =>
bif !decide (0 = 0) then
(some ((0, 0), 0, ((mset p0_0.1 p1 x16), p0_0.2.1, p0_0.2.2)))
else
((ix p2 (w64 ((List.length p2 : Int) - 1))).bind fun x19 =>
((bif ((mget x16 x19).isSome) && (!p4) then
(some (.inr (6, 0, 0)))
else
(bif (!((mget x16 x19).isSome) || Option.isSome (inv2 75 57 (2 : Int) 3 ((mget x16 x19).getD ifN))) then
bif (!((mget x16 x19).isSome) || Option.isSome (inv2 75 57 (2 : Int) 3 p3)) then
bif ((mget x16 x19).isSome) && (!decide (((inv2 75 57 (2 : Int) 3 ((mget x16 x19).getD ifN)).getD default) = ((inv2 75 57 (2 : Int) 3 p3).getD default))) then
((inv2 75 57 (2 : Int) 3 ((mget x16 x19).getD ifN)).bind fun x31 =>
some (.inr (10, (w64 ((List.length p2 : Int) - 1)), x31)))
else
(bif (!((mget x16 x19).isSome)) && (decide (p0_0.2.2 = 2000)) then
(some (.inr (4, 0, 0)))
else
(bif !((mget x16 x19).isSome) then
(some (.inl (w64 (p0_0.2.2 + 1))))
else
(some (.inl p0_0.2.2))))
else none
else none)) : Option (Int ⊕ (Int × Int × Int))).bind fun o25 => match o25 with
| .inl s21 => (some ((0, 0), 0, ((mset p0_0.1 p1 (mset x16 x19 p3)), p0_0.2.1, s21)))
| .inr (s22, s23, s24) => (some ((s23, s24), s22, ((mset p0_0.1 p1 x16), p0_0.2.1, p0_0.2.2)))))
| .inr s5 => (some ((0, 0), s5, p0_0)))
def f15 (p0_0 : List (Int × (List ((Str × Str) × Cell1))) × Int × Int) (p1 : Int) (p2 : List (Str × Str)) (p3 : Int) : Option ((Int × Int) × Int × (List (Int × (List ((Str × Str) × Cell1))) × Int × Int)) :=
(f25 p0_0 p1 p2 (ifI 57 .i64 p3) false).bind fun x2 =>
some (x2.1, x2.2.1, x2.2.2)
def f28 (p0 : Str × Str) (p1 : Cell1) : Option (((Str × Str) × Str × Int × Bool)) :=
(((asS 75 p1).bind fun x6 =>
bif x6.2 then
(some (.inl (x6.1, 0, false)))
else
((asI 57 .i64 p1).bind fun x9 =>
bif x9.2 then
(some (.inl (([] : Str), x9.1, true)))
else
(some (.inl (([] : Str), 0, false))))) : Option ((Str × Int × Bool) ⊕ Unit)).bind fun o4 => match o4 with
| .inl (s1, s2, s3) => (some (p0, s1, s2, s3))
| .inr _ => none
def f16 (p0 : List (Int × (List ((Str × Str) × Cell1))) × Int × Int) (p1 : Int) (p2 : List (Str × Str)) : Option (((Str × Str) × Str × Int × Bool) × (Int × Int) × Int) :=
(f26 p0 p1 p2).bind fun x1 =>
bif !decide (x1 = 0) then
(some (((([] : Str), ([] : Str)), ([] : Str), 0, false), (0, 0), x1))
else
((f27 p0 p1 p2).bind fun x4 =>
bif !decide (x4.2.2 = 0) then
(some (((([] : Str), ([] : Str)), ([] : Str), 0, false), x4.2.1, x4.2.2))
else
((ix p2 (w64 ((List.length p2 : Int) - 1))).bind fun x7 =>
(((asI 57 .i64 ((mget x4.1 x7).getD ifN)).bind fun x12 =>
bif x12.2 then
(some (.inl ((mget p0.1 x12.1).isSome)))
else
(some (.inl ((mget x4.1 x7).isSome)))) : Option (Bool ⊕ Unit)).bind fun o10 => match o10 with
| .inl s9 => (bif !s9 then
(some (((([] : Str), ([] : Str)), ([] : Str), 0, false), ((w64 ((List.length p2 : Int) - 1)), 1), 8))
else
((f28 x7 ((mget x4.1 x7).getD ifN)).bind fun x16 =>
some (x16, (0, 0), 0)))
| .inr _ => none))
def f4  : Option (Bool) :=
(f7 ([97, 46, 98, 47, 99, 92, 46, 100] : Str)).bind fun x1 =>
(f14).bind fun x3 =>
(f15 ((mset [] 0 []), 1, 0) 0 [(([120] : Str), ([] : Str))] 0).bind fun x5 =>
(f16 x5.2.2 0 [(([120] : Str), ([] : Str)), (([120] : Str), ([] : Str))]).bind fun x7 =>
bif (!((decide (x1.2 = 0)) && (decide ((List.length x1.1 : Int) = 2))) || Option.isSome (ix x1.1 0)) then
bif (!(((decide (x1.2 = 0)) && (decide ((List.length x1.1 : Int) = 2))) && ((decide (bstr ((((ix x1.1 0).getD default)).1) = bstr ([97] : Str))) && (decide (bstr ((((ix x1.1 0).getD default)).2) = bstr ([98] : Str))))) || Option.isSome (ix x1.1 1)) then
some ((((((((decide (x1.2 = 0)) && (decide ((List.length x1.1 : Int) = 2))) && ((decide (bstr ((((ix x1.1 0).getD default)).1) = bstr ([97] : Str))) && (decide (bstr ((((ix x1.1 0).getD default)).2) = bstr ([98] : Str))))) && ((decide (bstr ((((ix x1.1 1).getD default)).1) = bstr ([99, 46, 100] : Str))) && (decide (bstr ((((ix x1.1 1).getD default)).2) = bstr ([] : Str))))) && (decide (x5.2.1 = 0))) && (decide (x7.2.2 = 0))) && x7.1.2.2.2) && (decide (x7.1.2.2.1 = 0)))
else none
else none
def f5 (p0 : List (Str × Str)) : Option (Str × Int) :=
(f9 p0).bind fun x1 =>
bif !x1 then
(some (([] : Str), 1))
else
((f17 p0).bind fun x4 =>
some (x4, 0))
def f22_b1 (x6 : Str) (i9 : Int) (s : Unit) : Option (Unit ⊕ Unit) :=
(ix x6 i9).bind fun x15 =>
bif (!(!(decide (((UInt8.toNat x15 : Nat) : Int) < 33))) || Option.isSome (ix x6 i9)) then
bif (decide (((UInt8.toNat x15 : Nat) : Int) < 33)) || (decide (126 < ((UInt8.toNat ((ix x6 i9).getD default) : Nat) : Int))) then
(some (.inr ()))
else
(some (.inl ()))
else none
def f22_b0 (p0 : Str × Str) (i1 : Int) (s : Unit) : Option (Unit ⊕ Unit) :=
(ix [p0.1, p0.2] i1).bind fun x6 =>
bif decide (32 < (List.length x6 : Int)) then
(some (.inr ()))
else
(bif decide ((List.length x6 : Int) ≤ 9223372036854775807) then
(rng (f22_b1 x6) (Int.toNat (List.length x6 : Int)) 0 ()).bind fun o12 => match o12 with
| .inl () => (some (.inl ()))
| .inr () => (some (.inr ()))
else none)
def f22 (p0 : Str × Str) : Option (Bool) :=
(rng (f22_b0 p0) (Int.toNat (List.length [p0.1, p0.2] : Int)) 0 ()).bind fun o3 => match o3 with
| .inl () => (some ((!decide (p0.1 = ([] : Str))) || (!decide (p0.2 = ([] : Str)))))
| .inr () => (some false)
def f10_b0 (p0 : List (Str × Str)) (i1 : Int) (s : Unit) : Option (Unit ⊕ Unit) :=
(ix p0 i1).bind fun x6 =>
(f22 x6).bind fun x8 =>
bif !x8 then
(some (.inr ()))
else
(some (.inl ()))
def f10 (p0 : List (Str × Str)) : Option (Bool) :=
(rng (f10_b0 p0) (Int.toNat (List.length p0 : Int)) 0 ()).bind fun o3 => match o3 with
| .inl () => (some ((decide (1 ≤ (List.length p0 : Int))) && (decide ((List.length p0 : Int) ≤ 20))))
| .inr () => (some false)
def f43_b0 (p0 : Str) (i1 : Int) (s2 : Str) : Option (Str ⊕ Unit) :=
(((ix p0 i1).bind fun x13 =>
bif (!(!(decide (((UInt8.toNat x13 : Nat) : Int) = 46))) || Option.isSome (ix p0 i1)) then
bif (!(!((decide (((UInt8.toNat x13 : Nat) : Int) = 46)) || (decide (((UInt8.toNat ((ix p0 i1).getD default) : Nat) : Int) = 47)))) || Option.isSome (ix p0 i1)) then
bif ((decide (((UInt8.toNat x13 : Nat) : Int) = 46)) || (decide (((UInt8.toNat ((ix p0 i1).getD default) : Nat) : Int) = 47))) || (decide (((UInt8.toNat ((ix p0 i1).getD default) : Nat) : Int) = 92)) then
(bif strOk (List.length s2 + List.length ([92] : Str)) then
some (.inl (s2 ++ ([92] : Str)))
else none)
else
(some (.inl s2))
else none
else none) : Option (Str ⊕ Unit)).bind fun o11 => match o11 with
| .inl s10 => (bif slOk i1 (w64 (i1 + 1)) (List.length p0) then
bif strOk (List.length s10 + List.length ((p0.take (Int.toNat (w64 (i1 + 1)))).drop (Int.toNat i1))) then
some (.inl (s10 ++ ((p0.take (Int.toNat (w64 (i1 + 1)))).drop (Int.toNat i1))))
else none
else none)
| .inr _ => none
def f43 (p0 : Str) : Option (Str) :=
bif decide ((List.length p0 : Int) ≤ 9223372036854775807) then
(rng (f43_b0 p0) (Int.toNat (List.length p0 : Int)) 0 ([] : Str)).bind fun o7 => match o7 with
| .inl s2 => (some s2)
| .inr _ => none
else none
def f31 (p0 : Str × Str) : Option (Str) :=
bif decide (p0.2 = ([] : Str)) then
((f43 p0.1).bind fun x2 =>
some x2)
else
((f43 p0.1).bind fun x4 =>
bif strOk (List.length x4 + List.length ([46] : Str)) then
(f43 p0.2).bind fun x7 =>
bif strOk (List.length (x4 ++ ([46] : Str)) + List.length x7) then
some ((x4 ++ ([46] : Str)) ++ x7)
else none
else none)
def f18_b0 (p0 : List (Str × Str)) (i1 : Int) (s3 : List Str) : Option ((List Str) ⊕ Unit) :=
(ix p0 i1).bind fun x11 =>
(f31 x11).bind fun x13 =>
bif apOk 16 (List.length s3 + List.length [x13]) then
some (.inl (s3 ++ [x13]))
else none
def f18 (p0 : List (Str × Str)) : Option (Str) :=
(rng (f18_b0 p0) (Int.toNat (List.length p0 : Int)) 0 ([] : List Str)).bind fun o6 => match o6 with
| .inl s3 => ((fJoin s3 ([47] : Str)).bind fun x8 =>
some x8)
| .inr _ => none
def f6 (p0 : List (Str × Str)) : Option (Str × Int) :=
(f10 p0).bind fun x1 =>
bif !x1 then
(some (([] : Str), 1))
else
((f18 p0).bind fun x4 =>
some (x4, 0))
def f8_b0 (p0 : Str) (s : Bool × Int × (List (Str × Str))) : Option ((Bool × Int × (List (Str × Str))) ⊕ ((List (Str × Str)))) :=
match s with
| (s2, s3, s4) => (bif decide (s3 < (List.length p0 : Int)) then
((((ix s4 (w64 ((List.length s4 : Int) - 1))).bind fun x23 =>
bif slOk s3 (w64 (s3 + 1)) (List.length p0) then
((bif decide (((p0.take (Int.toNat (w64 (s3 + 1)))).drop (Int.toNat s3)) = ([47] : Str)) then
(bif apOk 32 (List.length s4 + List.length [(([] : Str), ([] : Str))]) then
some (.inr (false, (s4 ++ [(([] : Str), ([] : Str))])))
else none)
else
(bif (decide (((p0.take (Int.toNat (w64 (s3 + 1)))).drop (Int.toNat s3)) = ([46] : Str))) && (!s2) then
(some (.inr (true, s4)))
else
(bif (decide (((p0.take (Int.toNat (w64 (s3 + 1)))).drop (Int.toNat s3)) = ([92] : Str))) && (decide ((w64 (s3 + 1)) < (List.length p0 : Int))) then
(bif slOk (w64 (s3 + 1)) (w64 ((w64 (s3 + 1)) + 1)) (List.length p0) then
some (.inl ((w64 (s3 + 1)), ((p0.take (Int.toNat (w64 ((w64 (s3 + 1)) + 1)))).drop (Int.toNat (w64 (s3 + 1))))))
else none)
else
(some (.inl (s3, ((p0.take (Int.toNat (w64 (s3 + 1)))).drop (Int.toNat s3)))))))) : Option ((Int × Str) ⊕ (Bool × (List (Str × Str))))).bind fun o30 => match o30 with
| .inl (s26, s27) => (bif s2 then
((ix s4 (w64 ((List.length s4 : Int) - 1))).bind fun x38 =>
bif strOk (List.length x38.2 + List.length s27) then
some (.inl (s2, s26, (s4.set (Int.toNat (w64 ((List.length s4 : Int) - 1))) (x38.1, (x38.2 ++ s27)))))
else none)
else
((ix s4 (w64 ((List.length s4 : Int) - 1))).bind fun x41 =>
bif strOk (List.length x41.1 + List.length s27) then
some (.inl (s2, s26, (s4.set (Int.toNat (w64 ((List.length s4 : Int) - 1))) ((x41.1 ++ s27), x41.2))))
else none))
| .inr (s28, s29) => (some (.inl (s28, s3, s29)))
else none) : Option ((Bool × Int × (List (Str × Str))) ⊕ Unit)).bind fun o21 => match o21 with
| .inl (s18, s19, s20) => (some (.inl (s18, (w64 (s19 + 1)), s20)))
| .inr _ => none)
else
(some (.inr s4)))
def f8 (p0 : Str) : Option ((List (Str × Str)) × Int) :=
bif decide (65536 < (List.length p0 : Int)) then
(some (([] : List (Str × Str)), 3))
else
((lrun (f8_b0 p0) (List.length p0 + 1) (false, 0, [(([] : Str), ([] : Str))])).bind fun s10 => match s10 with
| s10 => ((f10 s10).bind fun x13 =>
bif (!(!(!x13)) || Option.isSome (f18 s10)) then
bif (!x13) || (!decide (((f18 s10).getD default) = p0)) then
(some (([] : List (Str × Str)), 2))
else
(some (s10, 0))
else none))
def f11_b0 (p0 : List (Str × Str)) (p1 : List (Str × Str)) (i2 : Int) (s : Unit) : Option (Unit ⊕ Unit) :=
(ix p0 i2).bind fun x7 =>
(ix p1 i2).bind fun x9 =>
bif !((decide (bstr x7.1 = bstr x9.1)) && (decide (bstr x7.2 = bstr x9.2))) then
(some (.inr ()))
else
(some (.inl ()))
def f11 (p0 : List (Str × Str)) (p1 : List (Str × Str)) : Option (Bool) :=
bif !decide ((List.length p0 : Int) = (List.length p1 : Int)) then
(some false)
else
((rng (f11_b0 p0 p1) (Int.toNat (List.length p0 : Int)) 0 ()).bind fun o4 => match o4 with
| .inl () => (some true)
| .inr () => (some false))
def f35_b0 (p0 : List Int) (i1 : Int) (s : Unit) : Option (Unit ⊕ Int) :=
(ix p0 i1).bind fun x7 =>
bif !decide (x7 = 0) then
(some (.inr x7))
else
(some (.inl ()))
def f35 (p0 : List Int) : Option (Int) :=
(rng (f35_b0 p0) (Int.toNat (List.length p0 : Int)) 0 ()).bind fun o4 => match o4 with
| .inl () => (some 0)
| .inr s3 => (some s3)
def f23 (p0 : Str × Str) (p1 : Str × Str) : Option (Int) :=
(fCmp p0.1 p1.1).bind fun x1 =>
(fCmp p0.2 p1.2).bind fun x3 =>
(f35 [x1, x3]).bind fun x5 =>
some x5
def f12 (p0 : Str × Str) (p1 : Str × Str) : Option (Int) :=
(f21 p0).bind fun x1 =>
bif (!(!(!x1)) || Option.isSome (f21 p1)) then
bif (!x1) || (!((f21 p1).getD default)) then
(some 0)
else
((f23 p0 p1).bind fun x5 =>
some x5)
else none
def f13 (p0 : Str × Str) (p1 : Str × Str) : Option (Int) :=
(f22 p0).bind fun x1 =>
bif (!(!(!x1)) || Option.isSome (f22 p1)) then
bif (!x1) || (!((f22 p1).getD default)) then
(some 0)
else
((fCmp p0.1 p1.1).bind fun x5 =>
bif !decide (x5 = 0) then
(some x5)
else
((fCmp p0.2 p1.2).bind fun x8 =>
some x8))
else none
def f3_b1 (p0 : List (Str × Str)) (s36 : Int) : Option (Int ⊕ (Unit ⊕ Unit)) :=
bif decide (s36 < (List.length p0 : Int)) then
((ix p0 (w64 (s36 - 1))).bind fun x44 =>
(ix p0 s36).bind fun x46 =>
(f12 x44 x46).bind fun x48 =>
(f13 x44 x46).bind fun x50 =>
bif !decide (x48 = x50) then
(some (.inr (.inl ())))
else
(some (.inl (w64 (s36 + 1)))))
else
(some (.inr (.inr ())))
def f3_b0 (p0 : List (Str × Str)) (i4 : Int) (s : Unit) : Option (Unit ⊕ Bool) :=
(ix p0 i4).bind fun x54 =>
bif (decide (60 < (List.length x54.1 : Int))) || (decide (60 < (List.length x54.2 : Int))) then
((f4).bind fun x57 =>
some (.inr x57))
else
(some (.inl ()))
def f3 (p0 : List (Str × Str)) (p1 : Str) : Option (Bool) :=
bif (decide (40 < (List.length p0 : Int))) || (decide (2000 < (List.length p1 : Int))) then
((f4).bind fun x2 =>
some x2)
else
((rng (f3_b0 p0) (Int.toNat (List.length p0 : Int)) 0 ()).bind fun o7 => match o7 with
| .inl () => ((f5 p0).bind fun x9 =>
(f6 p0).bind fun x11 =>
(f7 p1).bind fun x13 =>
(f8 p1).bind fun x15 =>
(f9 p0).bind fun x17 =>
(f10 p0).bind fun x19 =>
bif (!(!(((!decide (x17 = x19)) || (!decide (x9.1 = x11.1))) || (!decide (x9.2 = x11.2)))) || Option.isSome (f11 x13.1 x15.1)) then
bif ((((!decide (x17 = x19)) || (!decide (x9.1 = x11.1))) || (!decide (x9.2 = x11.2))) || (!((f11 x13.1 x15.1).getD default))) || (!decide (x13.2 = x15.2)) then
(some false)
else
(((bif decide (x9.2 = 0) then
((f7 x9.1).bind fun x26 =>
bif (!(!(!decide (x26.2 = 0))) || Option.isSome (f11 x26.1 p0)) then
bif (!decide (x26.2 = 0)) || (!((f11 x26.1 p0).getD default)) then
(some (.inr ()))
else
(some (.inl ()))
else none)
else
(some (.inl ()))) : Option (Unit ⊕ Unit)).bind fun o23 => match o23 with
| .inl () => (((bif decide (x13.2 = 0) then
((f5 x13.1).bind fun x33 =>
bif (!decide (x33.2 = 0)) || (!decide (x33.1 = p1)) then
(some (.inr ()))
else
(some (.inl ())))
else
(some (.inl ()))) : Option (Unit ⊕ Unit)).bind fun o30 => match o30 with
| .inl () => ((lrun (f3_b1 p0) (List.length p0 + 1) 1).bind fun o39 => match o39 with
| .inl () => (some false)
| .inr () => ((f4).bind fun x41 =>
some x41))
| .inr () => (some false))
| .inr () => (some false))
else none)
| .inr s6 => (some s6))
end Go.Ab
set_option maxHeartbeats 4000000
namespace Go.Ab
open Go.RowKit Go.Shelf Go.Proofs Go.Eng
abbrev Y1 : Ty := .st (.pair .str .str)
theorem und22 : Und Try.prog 22 (.slice 25) := by unfold Und; kernel_rfl
theorem sz25 : Sz Try.prog 25 2 := fun w => by kernel_rfl
theorem ts25 : TyS Try.prog 25 true 2 := ⟨fun w => by kernel_rfl, fun w => by kernel_rfl⟩
theorem ent32 : Enters Try.prog 32 := enters_of Try.func32 (by kernel_rfl) rfl
theorem fa25_0 : FieldAt Try.prog 25 0 0 := fun b o w => by kernel_rfl
theorem ts9 : TyS Try.prog 9 false 1 := ⟨fun w => by kernel_rfl, fun w => by kernel_rfl⟩
theorem fa25_1 : FieldAt Try.prog 25 1 1 := fun b o w => by kernel_rfl
theorem zero71 : Eng.Zero Try.prog 71 (.agg #[.string ByteArray.empty, .string ByteArray.empty]) := fun w => by kernel_rfl
theorem sz9 : Sz Try.prog 9 1 := fun w => by kernel_rfl
theorem bt71 : BuildT Try.prog 71 (.agg #[.string ByteArray.empty, .string ByteArray.empty]) (fun i => some (i * 1, 1)) := buildT_array (n := 2) zero71 (by kernel_rfl) sz9
theorem und71 : Und Try.prog 71 (.array 2 9) := by unfold Und; kernel_rfl
theorem und9 : Und Try.prog 9 .string := by unfold Und; kernel_rfl
theorem ent33 : Enters Try.prog 33 := enters_of Try.func33 (by kernel_rfl) rfl
theorem zero25 : Eng.Zero Try.prog 25 (.agg #[.string ByteArray.empty, .string ByteArray.empty]) := fun w => by kernel_rfl
theorem bt25 : BuildT Try.prog 25 (.agg #[.string ByteArray.empty, .string ByteArray.empty]) (fun i => [(0, 1), (1, 1)][i]?) := buildT_struct zero25 (fs := Try.prog.fieldsOf 25) (by kernel_rfl) (fun w => by kernel_rfl)
theorem eq25 {a0 b0 : ByteArray} {a1 b1 : ByteArray} : EqT Try.prog 25 [.string a0, .string a1] [.string b0, .string b1] := ⟨by kernel_rfl, fun w => run_eqFlat (fs := (Try.prog.fieldsOf 25).toList) (by kernel_rfl) (by kernel_rfl) (by kernel_rfl) (by kernel_rfl)⟩
theorem ent21 : Enters Try.prog 21 := enters_of Try.func21 (by kernel_rfl) rfl
theorem ent20 : Enters Try.prog 20 := enters_of Try.func20 (by kernel_rfl) rfl
theorem ent19 : Enters Try.prog 19 := enters_of Try.func19 (by kernel_rfl) rfl
theorem ent38 : Enters Try.prog 38 := enters_of Try.func38 (by kernel_rfl) rfl
theorem ent39 : Enters Try.prog 39 := enters_of Try.func39 (by kernel_rfl) rfl
theorem zero80 : Eng.Zero Try.prog 80 (.agg #[.pointer none, .slice none 0 0]) := fun w => by kernel_rfl
theorem ent37 : Enters Try.prog 37 := enters_of Try.func37 (by kernel_rfl) rfl
theorem ent40 : Enters Try.prog 40 := enters_of Try.func40 (by kernel_rfl) rfl
theorem ent29 : Enters Try.prog 29 := enters_of Try.func29 (by kernel_rfl) rfl
theorem bs67 : BuildS Try.prog 67 9 .str := buildS_of (z := .string ByteArray.empty) (by kernel_rfl) (by kernel_rfl) rfl
theorem app67 : AppT Try.prog 67 9 (Ty.cells .str) 16 := appT_of (z := .string ByteArray.empty) (by kernel_rfl) (by kernel_rfl) rfl rfl
theorem ent30 : Enters Try.prog 30 := enters_of Try.func30 (by kernel_rfl) rfl
theorem bs22 : BuildS Try.prog 22 25 Y1 := buildS_of (z := .agg #[.string ByteArray.empty, .string ByteArray.empty]) (by kernel_rfl) (by kernel_rfl) rfl
theorem app22 : AppT Try.prog 22 25 (Ty.cells Y1) 32 := appT_of (z := .agg #[.string ByteArray.empty, .string ByteArray.empty]) (by kernel_rfl) (by kernel_rfl) rfl rfl
theorem und46 : Und Try.prog 46 (.pointer 9) := by unfold Und; kernel_rfl
theorem mixed : Try.prog.follows .mixedOrders = true := by kernel_rfl
theorem ent9 : Enters Try.prog 9 := enters_of Try.func9 (by kernel_rfl) rfl
theorem ent17 : Enters Try.prog 17 := enters_of Try.func17 (by kernel_rfl) rfl
theorem f69_runs {r : Int} (hr : f69 = some r) : RunsP Try.prog 69 [.any] [.int .i64 r] := by
  refine runs_w Try.func69 Try.ntmps69 rfl (rs := [.tmp 2]) rfl rfl fun w0 X hX => ?_
  refine awc_seq ?_
  refine awc_region ?_
  refine awl_v (av_assign rfl) ?_
  refine awl_nil (athen_norm (awc_seq ?_))
  refine awc_region ?_
  refine awl_v (av_assign rfl) ?_
  have hr := Option.some.inj hr
  subst hr
  exact awl_nil (athen_norm (awc_ret (ret_q (l' := [(2, .int .i64 2)]) (wk_of hX [] 4 rfl rfl ⟨⟨_, rfl, cv0⟩, trivial⟩ trivial) rfl ⟨rfl, trivial⟩)))
theorem f68_runs {r : Int} (hr : f68 = some r) : RunsP Try.prog 68 [.any] [.int .i64 r] := by
  refine runs_w Try.func68 Try.ntmps68 rfl (rs := [.tmp 2]) rfl rfl fun w0 X hX => ?_
  refine awc_seq ?_
  refine awc_region ?_
  refine awl_v (av_assign rfl) ?_
  refine awl_nil (athen_norm (awc_seq ?_))
  refine awc_region ?_
  refine awl_v (av_assign rfl) ?_
  have hr := Option.some.inj hr
  subst hr
  exact awl_nil (athen_norm (awc_ret (ret_q (l' := [(2, .int .i64 3)]) (wk_of hX [] 4 rfl rfl ⟨⟨_, rfl, cv0⟩, trivial⟩ trivial) rfl ⟨rfl, trivial⟩)))
theorem f32_runs {p0 : List (Str × Str)} {q1 : (Str × Str) → Option Bool} {r : Int} {g1 : FuncId} {c1s : List AV} (h_q1 : ∀ (y1 : Str × Str) (r : Bool), q1 y1 = some r → RunsP Try.prog g1 ([.agg [.str y1.1, .str y1.2]] ++ c1s) [.bool r]) (k_q1 : FnIn Try.prog g1 c1s) (hr : f32 p0 q1 = some r) : RunsP Try.prog 32 [.sl Y1 p0, .clo (.fn g1 [] c1s)] [.int .i64 r] := by
  refine runs_w Try.func32 Try.ntmps32 rfl (rs := [.tmp 4]) rfl rfl fun w0 X hX => ?_
  refine awc_seq ?_
  refine awc_region ?_
  refine awl_v (av_assign rfl) ?_
  refine awl_nil (athen_norm (awc_seq (awc_seq ?_)))
  refine awc_region ?_
  refine awl_v (av_move rfl) ?_
  refine awl_v (av_len_sl (t := Y1) rfl rfl und22 rfl) ?_
  refine awl_v (av_move rfl) ?_
  refine awl_nil (athen_norm (awc_block ?_))
  obtain ⟨o4, e5, hr⟩ := bnd_some hr
  refine awc_len (t := 0) rfl (fun hl => ?_)
  refine awc_range (S := Unit) (R := Int) (List.length p0 : Int) (f32_b0 p0 q1) (fun p => match p with | (i1, ()) => (⟨[(0, .sl Y1 p0), (1, .clo (.fn g1 [] c1s)), (4, .int .i64 0), (7, .int .i64 (List.length p0 : Int)), (8, .int .i64 i1)], [], 0⟩ : AS)) (fun o e st => match o with | .inl () => e = .exit 0 ∧ Wk X st ⟨[(4, .int .i64 0)], [], 0⟩ | .inr s3 => e = .ret ∧ Wk X st ⟨[(4, .int .i64 s3)], [], 0⟩) (len_ok hl) e5 (wk_of hX [] 4 rfl rfl ⟨⟨_, rfl, cv0⟩, ⟨_, rfl, cv0⟩, ⟨_, rfl, cv0⟩, ⟨_, rfl, cv0⟩, ⟨_, rfl, cv0⟩, trivial⟩ trivial) ?_ ?_
  · intro e st hx
    rcases o4 with _ | s3
    · obtain ⟨rfl, hw⟩ := hx
      refine ablock_here (athen_norm ((awc_wk hw) (awc_seq ?_)))
      refine awc_region ?_
      refine awl_v (av_assign rfl) ?_
      have hr := Option.some.inj hr
      subst hr
      exact awl_nil (athen_norm (awc_ret (ret_q (l' := [(4, .int .i64 (-1))]) (wk_of hX [] 4 rfl rfl ⟨⟨_, rfl, cv0⟩, trivial⟩ trivial) rfl ⟨rfl, trivial⟩)))
    · obtain ⟨rfl, hw⟩ := hx
      have hr := Option.some.inj hr
      subst hr
      exact ablock_ret (athen_ret (ret_q (l' := [(4, .int .i64 s3)]) (Wk.trans hw (wk_of hX [] 4 rfl rfl ⟨⟨_, rfl, cv0⟩, trivial⟩ trivial)) rfl ⟨rfl, trivial⟩))
  · rintro i1 _ o ho
    refine awc_seq ?_
    refine awc_region ?_
    refine awl_v (av_lss rfl rfl) ?_
    refine awl_nil (athen_norm (awc_seq ?_))
    refine awc_cond (b := decide (i1 < (List.length p0 : Int))) rfl (fun hc6 => ?_) (fun hc6 => ?_)
    · obtain ⟨q, hr, rfl⟩ := rb_t hc6 ho
      refine awc_skip (athen_norm (awc_seq (awc_block (awc_seq ?_))))
      refine awc_region ?_
      refine awl_v (av_move rfl) ?_
      refine awl_v (av_assign rfl) ?_
      refine awl_nil (athen_norm (awc_seq ?_))
      refine awc_region ?_
      refine awl_v (av_move rfl) ?_
      refine awl_v (av_move rfl) ?_
      refine awl_v (av_move rfl) ?_
      obtain ⟨x7, e8, hr⟩ := bnd_some hr
      refine awl_v (av_ia_sl (t := Y1) (e := x7) und22 sz25 rfl rfl e8) ?_
      refine awl_v (av_load_rpN ts25 rfl rfl rfl) ?_
      obtain ⟨x9, e10, hr⟩ := bnd_some hr
      refine awl_v (av_callq rfl (h_q1 x7 x9 e10).x k_q1 rfl rfl rfl) ?_
      refine awl_nil (athen_norm ?_)
      refine awc_cond (b := x9) rfl (fun hc11 => ?_) (fun hc11 => ?_)
      · have hr := if_t hc11 hr
        refine awc_seq ?_
        refine awc_region ?_
        refine awl_v (av_move rfl) ?_
        refine awl_v (av_assign rfl) ?_
        have hr := Option.some.inj hr
        subst hr
        exact awl_nil (athen_norm (awc_ret (ablock_ret (athen_ret (⟨rfl, (wk_of hX [] 4 rfl rfl ⟨⟨_, rfl, cv0⟩, trivial⟩ trivial)⟩)))))
      · have hr := if_f hc11 hr
        refine awc_skip (ablock_norm (athen_norm ?_))
        refine awc_region ?_
        refine awl_v (av_add rfl rfl) ?_
        refine awl_v (av_move rfl) ?_
        have hr := Option.some.inj hr
        subst hr
        exact awl_nil ((wk_of hX [] 4 rfl rfl ⟨⟨_, rfl, cv0⟩, ⟨_, rfl, cv0⟩, ⟨_, rfl, cv0⟩, ⟨_, rfl, cv0⟩, ⟨_, rfl, cv0⟩, trivial⟩ trivial))
    · obtain rfl := rb_f hc6 ho
      exact awc_exit (athen_exit (⟨rfl, (wk_of hX [] 4 rfl rfl ⟨⟨_, rfl, cv0⟩, trivial⟩ trivial)⟩))
theorem f19_runs {p0 : List (Str × Str)} {q1 : (Str × Str) → Option Bool} {r : Bool} {g1 : FuncId} {c1s : List AV} (h_q1 : ∀ (y1 : Str × Str) (r : Bool), q1 y1 = some r → RunsP Try.prog g1 ([.agg [.str y1.1, .str y1.2]] ++ c1s) [.bool r]) (k_q1 : FnIn Try.prog g1 c1s) (hr : f19 p0 q1 = some r) : RunsP Try.prog 19 [.sl Y1 p0, .clo (.fn g1 [] c1s)] [.bool r] := by
  refine runs_w Try.func19 Try.ntmps19 rfl (rs := [.tmp 4]) rfl rfl fun w0 X hX => ?_
  refine awc_seq ?_
  refine awc_region ?_
  refine awl_v (av_assign rfl) ?_
  refine awl_nil (athen_norm (awc_seq ?_))
  refine awc_region ?_
  refine awl_v (av_move rfl) ?_
  refine awl_v (av_move rfl) ?_
  obtain ⟨x1, e2, hr⟩ := bnd_some hr
  refine awl_v (av_call (f32_runs (g1 := g1) (c1s := c1s) h_q1 k_q1 e2).x ent32 rfl rfl) ?_
  refine awl_v (av_geq rfl rfl) ?_
  refine awl_v (av_assign rfl) ?_
  have hr := Option.some.inj hr
  subst hr
  exact awl_nil (athen_norm (awc_ret (ret_q (l' := [(4, .bool (decide (0 ≤ x1)))]) (wk_of hX [] 4 rfl rfl ⟨⟨_, rfl, cv0⟩, trivial⟩ trivial) rfl ⟨rfl, trivial⟩)))
theorem f21_runs {p0 : Str × Str} {r : Bool} (hr : f21 p0 = some r) : RunsP Try.prog 21 [.agg [.str p0.1, .str p0.2]] [.bool r] := by
  refine runs_w Try.func21 Try.ntmps21 rfl (rs := [.tmp 2]) rfl rfl fun w0 X hX => ?_
  refine awc_seq ?_
  refine awc_region ?_
  refine awl_op (aop_box rfl rfl ?_)
  refine awl_v (av_assign rfl) ?_
  refine awl_nil (athen_norm (awc_seq (awc_seq ?_)))
  refine awc_region ?_
  refine awl_v (av_fa_ptr fa25_0 rfl rfl) ?_
  refine awl_v (av_load_ptr ts9 rfl rfl rfl) ?_
  refine awl_v (av_fa_ptr fa25_1 rfl rfl) ?_
  refine awl_v (av_load_ptr ts9 rfl rfl rfl) ?_
  refine awl_v (av_build (qs := [(0, [.str p0.1]), (1, [.str p0.2])]) (cs := [.str p0.1, .str p0.2]) bt71 rfl rfl rfl) ?_
  refine awl_v (av_move rfl) ?_
  refine awl_nil (athen_norm (awc_block ?_))
  obtain ⟨o3, e4, hr⟩ := bnd_some hr
  refine awc_range (S := Unit) (R := Unit) 2 (f21_b0 p0) (fun p => match p with | (i1, ()) => (⟨[(1, .ptr 0 0), (2, .bool false), (9, .agg [.str p0.1, .str p0.2]), (10, .int .i64 i1)], [(0, .var 25 [.str p0.1, .str p0.2])], 1⟩ : AS)) (fun o e st => match o with | .inl () => e = .exit 0 ∧ Wk X st ⟨[(1, .ptr 0 0), (2, .bool false)], [(0, .var 25 [.str p0.1, .str p0.2])], 1⟩ | .inr () => e = .ret ∧ Wk X st ⟨[(2, .bool false)], [], 0⟩) (by decide) e4 (wk_of hX [0] 4 rfl rfl ⟨⟨_, rfl, cv0⟩, ⟨_, rfl, cv0⟩, ⟨_, rfl, cv0⟩, ⟨_, rfl, cv0⟩, trivial⟩ ⟨cvo0, trivial⟩) ?_ ?_
  · intro e st hx
    rcases o3 with _ | _
    · obtain ⟨rfl, hw⟩ := hx
      refine ablock_here (athen_norm ((awc_wk hw) (awc_seq ?_)))
      refine awc_region ?_
      refine awl_v (av_load_ptrN ts25 rfl rfl rfl rfl) ?_
      refine awl_v (av_build (qs := []) (cs := [.str ([] : Str), .str ([] : Str)]) bt25 rfl rfl rfl) ?_
      refine awl_v (av_neqA (r := (decide (bstr p0.1 = bstr ([] : Str))) && (decide (bstr p0.2 = bstr ([] : Str)))) eq25 rfl rfl rfl rfl rfl rfl) ?_
      refine awl_v (av_assign rfl) ?_
      have hr := Option.some.inj hr
      subst hr
      exact awl_nil (athen_norm (awc_ret (ret_q (l' := [(2, .bool (!((decide (bstr p0.1 = bstr ([] : Str))) && (decide (bstr p0.2 = bstr ([] : Str))))))]) (wk_of hX [] 4 rfl rfl ⟨⟨_, rfl, cv0⟩, trivial⟩ trivial) rfl ⟨rfl, trivial⟩)))
    · obtain ⟨rfl, hw⟩ := hx
      have hr := Option.some.inj hr
      subst hr
      exact ablock_ret (athen_ret (ret_q (l' := [(2, .bool false)]) (Wk.trans hw (wk_of hX [] 4 rfl rfl ⟨⟨_, rfl, cv0⟩, trivial⟩ trivial)) rfl ⟨rfl, trivial⟩))
  · rintro i1 _ o ho
    refine awc_seq ?_
    refine awc_region ?_
    refine awl_v (av_lss rfl rfl) ?_
    refine awl_nil (athen_norm (awc_seq ?_))
    refine awc_cond (b := decide (i1 < 2)) rfl (fun hc5 => ?_) (fun hc5 => ?_)
    · obtain ⟨q, hr, rfl⟩ := rb_t hc5 ho
      refine awc_skip (athen_norm (awc_seq (awc_block (awc_seq ?_))))
      refine awc_region ?_
      obtain ⟨x6, e7, hr⟩ := bnd_some hr
      refine awl_v (av_index_aggS (l := ([p0.1, p0.2] : List Str)) und71 ts9 rfl rfl rfl e7) ?_
      refine awl_v (av_assign rfl) ?_
      refine awl_nil (athen_norm (awc_seq ?_))
      obtain ⟨h8, hr⟩ := chk_some hr
      refine awc_text [1, 2, 9, 10, 4] [(true, .str x6), (true, .int .i64 (List.length x6 : Int)), (true, .bool (decide (32 < (List.length x6 : Int)))), (true, .bool (decide (32 < (List.length x6 : Int)))), (!(decide (32 < (List.length x6 : Int))), .str x6), (!(decide (32 < (List.length x6 : Int))), .bool ((fCF x6).getD default)), (true, .bool ((decide (32 < (List.length x6 : Int))) || ((fCF x6).getD default)))] [[], [0], [1], [2], [3], [4, 3], [5, 3]] [6] rfl rfl rfl rfl rfl ⟨?_, ?_, ?_, ?_, ?_, ?_, ?_, trivial⟩ (allT_of ⟨rfl, trivial⟩) ?_
      · exact ob_v rfl (fun hg => allT_of trivial) (fun hg => av_move rfl)
      · exact ob_v rfl (fun hg => allT_of ⟨rfl, trivial⟩) (fun hg => av_len_str rfl rfl und9 rfl)
      · exact ob_v rfl (fun hg => allT_of ⟨rfl, trivial⟩) (fun hg => av_gtr rfl rfl)
      · exact ob_v rfl (fun hg => allT_of ⟨rfl, trivial⟩) (fun hg => av_move rfl)
      · exact ob_v ⟨rfl, rfl, rfl, _, rfl, rfl⟩ (fun hg => allT_of ⟨rfl, trivial⟩) (fun hg => av_move rfl)
      · exact ob_v ⟨rfl, rfl, rfl, _, rfl, rfl⟩ (fun hg => allT_of ⟨hg, rfl, trivial⟩) (fun hg => av_call (fCF_runs (get_g h8 hg)).x ent33 rfl rfl)
      · exact ob_pick (b := false) (p := decide (32 < (List.length x6 : Int))) (q := ((fCF x6).getD default)) rfl rfl rfl (fun hg => allT_of ⟨rfl, trivial⟩) rfl rfl rfl rfl rfl
      refine athen_norm ?_
      refine awc_cond (b := (decide (32 < (List.length x6 : Int))) || ((fCF x6).getD default)) rfl (fun hc9 => ?_) (fun hc9 => ?_)
      · have hr := if_t hc9 hr
        refine awc_seq ?_
        refine awc_region ?_
        refine awl_v (av_assign rfl) ?_
        have hr := Option.some.inj hr
        subst hr
        exact awl_nil (athen_norm (awc_ret (ablock_ret (athen_ret (⟨rfl, (wk_of hX [] 4 rfl rfl ⟨⟨_, rfl, cv0⟩, trivial⟩ trivial)⟩)))))
      · have hr := if_f hc9 hr
        refine awc_skip (ablock_norm (athen_norm ?_))
        refine awc_region ?_
        refine awl_v (av_add rfl rfl) ?_
        refine awl_v (av_move rfl) ?_
        have hr := Option.some.inj hr
        subst hr
        exact awl_nil ((wk_of hX [0] 4 rfl rfl ⟨⟨_, rfl, cv0⟩, ⟨_, rfl, cv0⟩, ⟨_, rfl, cv0⟩, ⟨_, rfl, cv0⟩, trivial⟩ ⟨cvo0, trivial⟩))
    · obtain rfl := rb_f hc5 ho
      exact awc_exit (athen_exit (⟨rfl, (wk_of hX [0] 4 rfl rfl ⟨⟨_, rfl, cv0⟩, ⟨_, rfl, cv0⟩, trivial⟩ ⟨cvo0, trivial⟩)⟩))
theorem f20_runs {p0 : Str × Str} {r : Bool} (hr : f20 p0 = some r) : RunsP Try.prog 20 [.agg [.str p0.1, .str p0.2]] [.bool r] := by
  refine runs_w Try.func20 Try.ntmps20 rfl (rs := [.tmp 2]) rfl rfl fun w0 X hX => ?_
  refine awc_seq ?_
  refine awc_region ?_
  refine awl_op (aop_box rfl rfl ?_)
  refine awl_v (av_assign rfl) ?_
  refine awl_nil (athen_norm (awc_seq ?_))
  refine awc_region ?_
  refine awl_v (av_load_ptrN ts25 rfl rfl rfl rfl) ?_
  obtain ⟨x1, e2, hr⟩ := bnd_some hr
  refine awl_v (av_call (f21_runs e2).x ent21 rfl rfl) ?_
  refine awl_v (av_not rfl) ?_
  refine awl_v (av_assign rfl) ?_
  have hr := Option.some.inj hr
  subst hr
  exact awl_nil (athen_norm (awc_ret (ret_q (l' := [(2, .bool (!x1))]) (wk_of hX [] 4 rfl rfl ⟨⟨_, rfl, cv0⟩, trivial⟩ trivial) rfl ⟨rfl, trivial⟩)))
theorem f9_runs {p0 : List (Str × Str)} {r : Bool} (hr : f9 p0 = some r) : RunsP Try.prog 9 [.sl Y1 p0] [.bool r] := by
  refine runs_w Try.func9 Try.ntmps9 rfl (rs := [.tmp 2]) rfl rfl fun w0 X hX => ?_
  refine awc_seq ?_
  refine awc_region ?_
  refine awl_v (av_assign rfl) ?_
  refine awl_nil (athen_norm (awc_seq ?_))
  obtain ⟨h1, hr⟩ := chk_some hr
  refine awc_text [0] [(true, .sl Y1 p0), (true, .int .i64 (List.length p0 : Int)), (true, .bool (decide (1 ≤ (List.length p0 : Int)))), (true, .bool (decide (1 ≤ (List.length p0 : Int)))), (decide (1 ≤ (List.length p0 : Int)), .sl Y1 p0), (decide (1 ≤ (List.length p0 : Int)), .int .i64 (List.length p0 : Int)), (decide (1 ≤ (List.length p0 : Int)), .bool (decide ((List.length p0 : Int) ≤ 20))), (true, .bool ((decide (1 ≤ (List.length p0 : Int))) && (decide ((List.length p0 : Int) ≤ 20)))), (true, .bool ((decide (1 ≤ (List.length p0 : Int))) && (decide ((List.length p0 : Int) ≤ 20)))), ((decide (1 ≤ (List.length p0 : Int))) && (decide ((List.length p0 : Int) ≤ 20)), .sl Y1 p0), ((decide (1 ≤ (List.length p0 : Int))) && (decide ((List.length p0 : Int) ≤ 20)), .bool ((f19 p0 (fun y1 => f20 y1)).getD default)), ((decide (1 ≤ (List.length p0 : Int))) && (decide ((List.length p0 : Int) ≤ 20)), .bool (!((f19 p0 (fun y1 => f20 y1)).getD default))), (true, .bool (((decide (1 ≤ (List.length p0 : Int))) && (decide ((List.length p0 : Int) ≤ 20))) && (!((f19 p0 (fun y1 => f20 y1)).getD default)))), (true, .bool (((decide (1 ≤ (List.length p0 : Int))) && (decide ((List.length p0 : Int) ≤ 20))) && (!((f19 p0 (fun y1 => f20 y1)).getD default))))] [[], [0], [1], [2], [3], [4, 3], [5, 3], [6, 3], [7], [8], [9, 8], [10, 8], [11, 8], [12]] [13] rfl rfl rfl rfl rfl ⟨?_, ?_, ?_, ?_, ?_, ?_, ?_, ?_, ?_, ?_, ?_, ?_, ?_, ?_, trivial⟩ (allT_of ⟨rfl, trivial⟩) ?_
  · exact ob_v rfl (fun hg => allT_of trivial) (fun hg => av_move rfl)
  · exact ob_v rfl (fun hg => allT_of ⟨rfl, trivial⟩) (fun hg => av_len_sl (t := Y1) rfl rfl und22 rfl)
  · exact ob_v rfl (fun hg => allT_of ⟨rfl, trivial⟩) (fun hg => av_geq rfl rfl)
  · exact ob_v rfl (fun hg => allT_of ⟨rfl, trivial⟩) (fun hg => av_move rfl)
  · exact ob_v ⟨rfl, rfl, rfl, _, rfl, rfl⟩ (fun hg => allT_of ⟨rfl, trivial⟩) (fun hg => av_move rfl)
  · exact ob_v ⟨rfl, rfl, rfl, _, rfl, rfl⟩ (fun hg => allT_of ⟨hg, rfl, trivial⟩) (fun hg => av_len_sl (t := Y1) rfl rfl und22 rfl)
  · exact ob_v ⟨rfl, rfl, rfl, _, rfl, rfl⟩ (fun hg => allT_of ⟨hg, rfl, trivial⟩) (fun hg => av_leq rfl rfl)
  · exact ob_pick (b := true) (p := decide (1 ≤ (List.length p0 : Int))) (q := decide ((List.length p0 : Int) ≤ 20)) rfl rfl rfl (fun hg => allT_of ⟨rfl, trivial⟩) rfl rfl rfl rfl rfl
  · exact ob_v rfl (fun hg => allT_of ⟨rfl, trivial⟩) (fun hg => av_move rfl)
  · exact ob_v ⟨rfl, rfl, rfl, _, rfl, rfl⟩ (fun hg => allT_of ⟨rfl, trivial⟩) (fun hg => av_move rfl)
  · exact ob_v ⟨rfl, rfl, rfl, _, rfl, rfl⟩ (fun hg => allT_of ⟨hg, rfl, trivial⟩) (fun hg => av_callN (as' := [.sl Y1 p0, .fn 20 [] []]) (f19_runs (q1 := (fun y1 => f20 y1)) (g1 := 20) (c1s := []) (fun _ r h => (have h2 := f20_runs h; h2)) ⟨ent20⟩ (get_g h1 hg)).x ent19 rfl ⟨cv0, (cv3 rfl), trivial⟩ rfl)
  · exact ob_v ⟨rfl, rfl, rfl, _, rfl, rfl⟩ (fun hg => allT_of ⟨hg, rfl, trivial⟩) (fun hg => av_not rfl)
  · exact ob_pick (b := true) (p := (decide (1 ≤ (List.length p0 : Int))) && (decide ((List.length p0 : Int) ≤ 20))) (q := !((f19 p0 (fun y1 => f20 y1)).getD default)) rfl rfl rfl (fun hg => allT_of ⟨rfl, trivial⟩) rfl rfl rfl rfl rfl
  · exact ob_v rfl (fun hg => allT_of ⟨rfl, trivial⟩) (fun hg => av_assign rfl)
  have hr := Option.some.inj hr
  subst hr
  exact athen_norm (awc_ret (ret_q (l' := [(2, .bool (((decide (1 ≤ (List.length p0 : Int))) && (decide ((List.length p0 : Int) ≤ 20))) && (!((f19 p0 (fun y1 => f20 y1)).getD default))))]) (wk_of hX [] 4 rfl rfl ⟨⟨_, rfl, cv0⟩, trivial⟩ trivial) rfl ⟨rfl, trivial⟩))
theorem f38_runs {p0 : Int} {r : Bool} (hr : f38 p0 = some r) : RunsP Try.prog 38 [.int .u8 p0] [.bool r] := by
  refine runs_w Try.func38 Try.ntmps38 rfl (rs := [.tmp 2]) rfl rfl fun w0 X hX => ?_
  refine awc_seq ?_
  refine awc_region ?_
  refine awl_v (av_assign rfl) ?_
  refine awl_nil (athen_norm (awc_seq ?_))
  refine awc_text [0] [(true, .int .u8 p0), (true, .bool (decide (p0 = 46))), (true, .bool (decide (p0 = 46))), (!(decide (p0 = 46)), .int .u8 p0), (!(decide (p0 = 46)), .bool (decide (p0 = 47))), (true, .bool ((decide (p0 = 46)) || (decide (p0 = 47)))), (true, .bool ((decide (p0 = 46)) || (decide (p0 = 47)))), (!((decide (p0 = 46)) || (decide (p0 = 47))), .int .u8 p0), (!((decide (p0 = 46)) || (decide (p0 = 47))), .bool (decide (p0 = 92))), (true, .bool (((decide (p0 = 46)) || (decide (p0 = 47))) || (decide (p0 = 92)))), (true, .bool (((decide (p0 = 46)) || (decide (p0 = 47))) || (decide (p0 = 92))))] [[], [0], [1], [2], [3, 2], [4, 2], [5], [6], [7, 6], [8, 6], [9]] [10] rfl rfl rfl rfl rfl ⟨?_, ?_, ?_, ?_, ?_, ?_, ?_, ?_, ?_, ?_, ?_, trivial⟩ (allT_of ⟨rfl, trivial⟩) ?_
  · exact ob_v rfl (fun hg => allT_of trivial) (fun hg => av_move rfl)
  · exact ob_v rfl (fun hg => allT_of ⟨rfl, trivial⟩) (fun hg => av_eql rfl rfl)
  · exact ob_v rfl (fun hg => allT_of ⟨rfl, trivial⟩) (fun hg => av_move rfl)
  · exact ob_v ⟨rfl, rfl, rfl, _, rfl, rfl⟩ (fun hg => allT_of ⟨rfl, trivial⟩) (fun hg => av_move rfl)
  · exact ob_v ⟨rfl, rfl, rfl, _, rfl, rfl⟩ (fun hg => allT_of ⟨hg, rfl, trivial⟩) (fun hg => av_eql rfl rfl)
  · exact ob_pick (b := false) (p := decide (p0 = 46)) (q := decide (p0 = 47)) rfl rfl rfl (fun hg => allT_of ⟨rfl, trivial⟩) rfl rfl rfl rfl rfl
  · exact ob_v rfl (fun hg => allT_of ⟨rfl, trivial⟩) (fun hg => av_move rfl)
  · exact ob_v ⟨rfl, rfl, rfl, _, rfl, rfl⟩ (fun hg => allT_of ⟨rfl, trivial⟩) (fun hg => av_move rfl)
  · exact ob_v ⟨rfl, rfl, rfl, _, rfl, rfl⟩ (fun hg => allT_of ⟨hg, rfl, trivial⟩) (fun hg => av_eql rfl rfl)
  · exact ob_pick (b := false) (p := (decide (p0 = 46)) || (decide (p0 = 47))) (q := decide (p0 = 92)) rfl rfl rfl (fun hg => allT_of ⟨rfl, trivial⟩) rfl rfl rfl rfl rfl
  · exact ob_v rfl (fun hg => allT_of ⟨rfl, trivial⟩) (fun hg => av_assign rfl)
  have hr := Option.some.inj hr
  subst hr
  exact athen_norm (awc_ret (ret_q (l' := [(2, .bool (((decide (p0 = 46)) || (decide (p0 = 47))) || (decide (p0 = 92))))]) (wk_of hX [] 4 rfl rfl ⟨⟨_, rfl, cv0⟩, trivial⟩ trivial) rfl ⟨rfl, trivial⟩))
theorem f37_runs {p0 : Str} {p1_0 : Str} {r : Str} (hr : f37 p0 p1_0 = some r) : Runs Try.prog 37 [.str p0, .ptr 0 0] [.bld 80 5 p1_0] (fun q Hq => q = [] ∧ Hq = [.bld 80 5 r]) := by
  refine runs_w Try.func37 Try.ntmps37 rfl (rs := []) rfl rfl fun w0 X hX => ?_
  refine awc_seq ?_
  refine awc_region ?_
  refine awl_v (av_move rfl) ?_
  refine awl_v (av_len_str rfl rfl und9 rfl) ?_
  refine awl_v (av_move rfl) ?_
  refine awl_nil (athen_norm (awc_block ?_))
  obtain ⟨h7, hr⟩ := chk_some hr
  obtain ⟨o8, e9, hr⟩ := bnd_some hr
  refine awc_range (S := Str) (R := Unit) (List.length p0 : Int) (f37_b0 p0) (fun p => match p with | (i2, s4) => (⟨[(0, .str p0), (1, .ptr 0 0), (5, .int .i64 (List.length p0 : Int)), (6, .int .i64 i2)], [(0, .bld 80 5 s4)], 1⟩ : AS)) (fun o e st => match o with | .inr _ => False | .inl s4 => e = .exit 0 ∧ Wk X st ⟨[], [(0, .bld 80 5 s4)], 1⟩) (of_decide_eq_true h7) e9 (wk_of hX [0] 4 rfl rfl ⟨⟨_, rfl, cv0⟩, ⟨_, rfl, cv0⟩, ⟨_, rfl, cv0⟩, ⟨_, rfl, cv0⟩, trivial⟩ ⟨cvo0, trivial⟩) ?_ ?_
  · intro e st hx
    rcases o8 with s4 | _
    · obtain ⟨rfl, hw⟩ := hx
      have hr := Option.some.inj hr
      subst hr
      exact ablock_here (retW_norm (ret_o (l' := []) (Hs := [(0, .bld 80 5 s4)]) (n := 1) (Wk.trans hw (wk_of hX [0] 4 rfl rfl trivial ⟨cvo0, trivial⟩)) rfl rfl rfl trivial))
    · exact hx.elim
  · rintro i2 s4 o ho
    refine awc_seq ?_
    refine awc_region ?_
    refine awl_v (av_lss rfl rfl) ?_
    refine awl_nil (athen_norm (awc_seq ?_))
    refine awc_cond (b := decide (i2 < (List.length p0 : Int))) rfl (fun hc10 => ?_) (fun hc10 => ?_)
    · obtain ⟨q, hr, rfl⟩ := rb_t hc10 ho
      refine awc_skip (athen_norm (awc_seq (awc_block (awc_seq ?_))))
      refine awc_region ?_
      refine awl_v (av_move rfl) ?_
      refine awl_v (av_assign rfl) ?_
      refine awl_nil (athen_norm ?_)
      obtain ⟨o12, e13, hr⟩ := bnd_some hr
      refine awc_join (S := Str) (R := Unit) (fun s => match s with | s11 => (⟨[(0, .str p0), (1, .ptr 0 0), (3, .int .i64 i2), (5, .int .i64 (List.length p0 : Int)), (6, .int .i64 i2)], [(0, .bld 80 5 s11)], 1⟩ : AS)) (fun _ _ _ => False) e13 (fun hr => ?_) ?_ ?_
      · refine awc_seq ?_
        refine awc_region ?_
        refine awl_wk (wk_of (st' := ⟨[(0, .str p0), (1, .ptr 0 0), (5, .int .i64 (List.length p0 : Int)), (6, .int .i64 i2), (3, .int .i64 i2)], [(0, .bld 80 5 s4)], 1⟩) hX [0] 4 rfl rfl ⟨⟨_, rfl, cv0⟩, ⟨_, rfl, cv0⟩, ⟨_, rfl, cv0⟩, ⟨_, rfl, cv0⟩, ⟨_, rfl, cv0⟩, trivial⟩ ⟨cvo0, trivial⟩) ?_
        refine awl_v (av_move rfl) ?_
        refine awl_v (av_move rfl) ?_
        obtain ⟨x14, e15, hr⟩ := bnd_some hr
        refine awl_v (av_index_str und9 rfl rfl e15) ?_
        obtain ⟨x16, e17, hr⟩ := bnd_some hr
        refine awl_v (av_call (f38_runs e17).x ent38 rfl rfl) ?_
        refine awl_nil (athen_norm ?_)
        refine awc_cond (b := x16) rfl (fun hc18 => ?_) (fun hc18 => ?_)
        · have hr := if_t hc18 hr
          refine awc_region ?_
          obtain ⟨x19, e20, hr⟩ := bnd_some hr
          refine awl_op (aop_callO (σ := [0]) (as' := [.ptr 0 0, .int .u8 92]) (fWB_runs e20).x ent39 rfl ⟨cv0, cv0, trivial⟩ rfl rfl rfl ?_)
          have hr := Option.some.inj hr
          subst hr
          exact awl_nil ((wk_of hX [0] 4 rfl rfl ⟨⟨_, rfl, cv0⟩, ⟨_, rfl, cv0⟩, ⟨_, rfl, cv0⟩, ⟨_, rfl, cv0⟩, ⟨_, rfl, cv0⟩, trivial⟩ ⟨cvo0, trivial⟩))
        · have hr := if_f hc18 hr
          have hr := Option.some.inj hr
          subst hr
          exact awc_skip ((wk_of hX [0] 4 rfl rfl ⟨⟨_, rfl, cv0⟩, ⟨_, rfl, cv0⟩, ⟨_, rfl, cv0⟩, ⟨_, rfl, cv0⟩, ⟨_, rfl, cv0⟩, trivial⟩ ⟨cvo0, trivial⟩))
      · rintro s11 rfl
        refine awc_region ?_
        refine awl_v (av_move rfl) ?_
        refine awl_v (av_move rfl) ?_
        obtain ⟨x21, e22, hr⟩ := bnd_some hr
        refine awl_v (av_index_str und9 rfl rfl e22) ?_
        obtain ⟨x23, e24, hr⟩ := bnd_some hr
        refine awl_op (aop_callO (σ := [0]) (as' := [.ptr 0 0, .int .u8 ((UInt8.toNat x21 : Nat) : Int)]) (fWB_runs e24).x ent39 rfl ⟨cv0, cv0, trivial⟩ rfl rfl rfl ?_)
        refine awl_nil (ablock_norm (athen_norm ?_))
        refine awc_region ?_
        refine awl_wk (wk_of (st' := ⟨[(0, .str p0), (1, .ptr 0 0), (5, .int .i64 (List.length p0 : Int)), (6, .int .i64 i2)], [(0, .bld 80 5 x23)], 1⟩) hX [0] 4 rfl rfl ⟨⟨_, rfl, cv0⟩, ⟨_, rfl, cv0⟩, ⟨_, rfl, cv0⟩, ⟨_, rfl, cv0⟩, trivial⟩ ⟨cvo0, trivial⟩) ?_
        refine awl_v (av_add rfl rfl) ?_
        refine awl_v (av_move rfl) ?_
        have hr := Option.some.inj hr
        subst hr
        exact awl_nil ((wk_of hX [0] 4 rfl rfl ⟨⟨_, rfl, cv0⟩, ⟨_, rfl, cv0⟩, ⟨_, rfl, cv0⟩, ⟨_, rfl, cv0⟩, trivial⟩ ⟨cvo0, trivial⟩))
      · exact fun r h e st hne hx => hx.elim
    · obtain rfl := rb_f hc10 ho
      exact awc_exit (athen_exit (⟨rfl, (wk_of hX [0] 4 rfl rfl trivial ⟨cvo0, trivial⟩)⟩))
theorem f29_runs {p0 : Str × Str} {r : Str} (hr : f29 p0 = some r) : RunsP Try.prog 29 [.agg [.str p0.1, .str p0.2]] [.str r] := by
  refine runs_w Try.func29 Try.ntmps29 rfl (rs := [.tmp 2]) rfl rfl fun w0 X hX => ?_
  refine awc_seq ?_
  refine awc_region ?_
  refine awl_op (aop_box rfl rfl ?_)
  refine awl_v (av_assign rfl) ?_
  refine awl_nil (athen_norm (awc_seq ?_))
  refine awc_region ?_
  refine awl_op (aop_alloc zero80 rfl ?_)
  refine awl_wk (wk_bld (i := 1) 5 rfl rfl) ?_
  refine awl_nil (athen_norm (awc_seq ?_))
  refine awc_region ?_
  refine awl_v (av_makeFunc (us := []) (vs := [.ptr 1 0]) rfl rfl) ?_
  refine awl_v (av_assign rfl) ?_
  refine awl_nil (athen_norm (awc_seq ?_))
  refine awc_region ?_
  refine awl_v (av_move rfl) ?_
  refine awl_v (av_fa_ptr fa25_0 rfl rfl) ?_
  refine awl_v (av_load_ptr ts9 rfl rfl rfl) ?_
  obtain ⟨x1, e2, hr⟩ := bnd_some hr
  refine awl_op (aop_callOv (σ := [1]) (as' := [.str p0.1]) rfl (f37_runs e2).x ent37 rfl ⟨cv0, cv0, trivial⟩ rfl rfl rfl ?_)
  refine awl_nil (athen_norm ?_)
  obtain ⟨o4, e5, hr⟩ := bnd_some hr
  refine awc_join (S := Str) (R := Unit) (fun s => match s with | s3 => (⟨[(2, .str ([] : Str)), (3, .ptr 0 0)], [(0, .bld 80 5 s3)], 1⟩ : AS)) (fun _ _ _ => False) e5 (fun hr => ?_) ?_ ?_
  · refine awc_seq ?_
    refine awc_region ?_
    refine awl_v (av_fa_ptr fa25_1 rfl rfl) ?_
    refine awl_v (av_load_ptr ts9 rfl rfl rfl) ?_
    refine awl_v (av_neqs rfl rfl) ?_
    refine awl_nil (athen_norm ?_)
    refine awc_cond (b := !decide (p0.2 = ([] : Str))) rfl (fun hc6 => ?_) (fun hc6 => ?_)
    · have hr := if_t hc6 hr
      refine awc_seq ?_
      refine awc_region ?_
      obtain ⟨x7, e8, hr⟩ := bnd_some hr
      refine awl_op (aop_callO (σ := [1]) (as' := [.ptr 1 0, .int .u8 46]) (fWB_runs e8).x ent39 rfl ⟨cv0, cv0, trivial⟩ rfl rfl rfl ?_)
      refine awl_nil (athen_norm ?_)
      refine awc_region ?_
      refine awl_wk (wk_of (st' := ⟨[(1, .ptr 0 0), (2, .str ([] : Str)), (3, .ptr 1 0), (4, .fn 37 [] [.ptr 1 0])], [(0, .var 25 [.str p0.1, .str p0.2]), (1, .bld 80 5 x7)], 2⟩) hX [0, 1] 4 rfl rfl ⟨⟨_, rfl, cv0⟩, ⟨_, rfl, cv0⟩, ⟨_, rfl, cv0⟩, ⟨_, rfl, cv0⟩, trivial⟩ ⟨cvo0, cvo0, trivial⟩) ?_
      refine awl_v (av_move rfl) ?_
      refine awl_v (av_fa_ptr fa25_1 rfl rfl) ?_
      refine awl_v (av_load_ptr ts9 rfl rfl rfl) ?_
      obtain ⟨x9, e10, hr⟩ := bnd_some hr
      refine awl_op (aop_callOv (σ := [1]) (as' := [.str p0.2]) rfl (f37_runs e10).x ent37 rfl ⟨cv0, cv0, trivial⟩ rfl rfl rfl ?_)
      have hr := Option.some.inj hr
      subst hr
      exact awl_nil ((wk_of hX [1] 4 rfl rfl ⟨⟨_, rfl, cv0⟩, ⟨_, rfl, cv0⟩, trivial⟩ ⟨cvo0, trivial⟩))
    · have hr := if_f hc6 hr
      have hr := Option.some.inj hr
      subst hr
      exact awc_skip ((wk_of hX [1] 4 rfl rfl ⟨⟨_, rfl, cv0⟩, ⟨_, rfl, cv0⟩, trivial⟩ ⟨cvo0, trivial⟩))
  · rintro s3 rfl
    refine awc_seq ?_
    refine awc_region ?_
    obtain ⟨x11, e12, hr⟩ := bnd_some hr
    refine awl_op (aop_callO (σ := [0]) (as' := [.ptr 0 0]) (fBS_runs e12).x ent40 rfl ⟨cv0, trivial⟩ rfl rfl rfl ?_)
    refine awl_wk (wk_of (st' := ⟨[(2, .str ([] : Str)), (3, .ptr 0 0), (18, .str x11)], [(0, .dead)], 1⟩) hX [0] 4 rfl rfl ⟨⟨_, rfl, cv0⟩, ⟨_, rfl, cv0⟩, ⟨_, rfl, cv0⟩, trivial⟩ ⟨cvo0, trivial⟩) ?_
    refine awl_v (av_assign rfl) ?_
    have hr := Option.some.inj hr
    subst hr
    exact awl_nil (athen_norm (awc_ret (ret_q (l' := [(2, .str x11)]) (wk_of hX [] 4 rfl rfl ⟨⟨_, rfl, cv0⟩, trivial⟩ trivial) rfl ⟨rfl, trivial⟩)))
  · exact fun r h e st hne hx => hx.elim
theorem f17_runs {p0 : List (Str × Str)} {r : Str} (hr : f17 p0 = some r) : RunsP Try.prog 17 [.sl Y1 p0] [.str r] := by
  refine runs_w Try.func17 Try.ntmps17 rfl (rs := [.tmp 2]) rfl rfl fun w0 X hX => ?_
  refine awc_seq ?_
  refine awc_region ?_
  refine awl_v (av_assign rfl) ?_
  refine awl_nil (athen_norm (awc_seq ?_))
  refine awc_region ?_
  refine awl_v (av_assign rfl) ?_
  refine awl_nil (athen_norm (awc_seq (awc_seq ?_)))
  refine awc_region ?_
  refine awl_v (av_move rfl) ?_
  refine awl_v (av_len_sl (t := Y1) rfl rfl und22 rfl) ?_
  refine awl_v (av_move rfl) ?_
  refine awl_nil (athen_norm (awc_block ?_))
  obtain ⟨o6, e7, hr⟩ := bnd_some hr
  refine awc_len (t := 0) rfl (fun hl => ?_)
  refine awc_range (S := List Str) (R := Unit) (List.length p0 : Int) (f17_b0 p0) (fun p => match p with | (i1, s3) => (⟨[(2, .str ([] : Str)), (3, .osl 0), (6, .sl Y1 p0), (7, .int .i64 (List.length p0 : Int)), (8, .int .i64 i1)], [(0, .sl 9 .str s3)], 1⟩ : AS)) (fun o e st => match o with | .inr _ => False | .inl s3 => e = .exit 0 ∧ Wk X st ⟨[(2, .str ([] : Str)), (3, .osl 0)], [(0, .sl 9 .str s3)], 1⟩) (len_ok hl) e7 (Wk.trans (wk_own (t := 3) 9 .str rfl) (wk_of hX [0] 4 rfl rfl ⟨⟨_, rfl, cv0⟩, ⟨_, rfl, cv0⟩, ⟨_, rfl, cv0⟩, ⟨_, rfl, cv0⟩, ⟨_, rfl, cv0⟩, trivial⟩ ⟨cvo0, trivial⟩)) ?_ ?_
  · intro e st hx
    rcases o6 with s3 | _
    · obtain ⟨rfl, hw⟩ := hx
      refine ablock_here (athen_norm ((awc_wk hw) (awc_seq ?_)))
      refine awc_region ?_
      refine awl_v (av_move rfl) ?_
      obtain ⟨x8, e9, hr⟩ := bnd_some hr
      refine awl_v (av_callB (as' := [.osl 0, .str ([47] : Str)]) (fJoin_runs e9).x ent30 rfl ⟨cv0, cv0, trivial⟩ rfl rfl) ?_
      refine awl_v (av_assign rfl) ?_
      have hr := Option.some.inj hr
      subst hr
      exact awl_nil (athen_norm (awc_ret (ret_q (l' := [(2, .str x8)]) (wk_of hX [] 4 rfl rfl ⟨⟨_, rfl, cv0⟩, trivial⟩ trivial) rfl ⟨rfl, trivial⟩)))
    · exact hx.elim
  · rintro i1 s3 o ho
    refine awc_seq ?_
    refine awc_region ?_
    refine awl_v (av_lss rfl rfl) ?_
    refine awl_nil (athen_norm (awc_seq ?_))
    refine awc_cond (b := decide (i1 < (List.length p0 : Int))) rfl (fun hc10 => ?_) (fun hc10 => ?_)
    · obtain ⟨q, hr, rfl⟩ := rb_t hc10 ho
      refine awc_skip (athen_norm (awc_seq (awc_block (awc_seq ?_))))
      refine awc_region ?_
      obtain ⟨x11, e12, hr⟩ := bnd_some hr
      refine awl_v (av_ia_sl (t := Y1) (e := x11) und22 sz25 rfl rfl e12) ?_
      refine awl_v (av_load_rpN ts25 rfl rfl rfl) ?_
      refine awl_op (aop_alloc zero25 rfl ?_)
      refine awl_op (aop_store sz25 rfl rfl rfl rfl rfl rfl rfl ?_)
      refine awl_nil (athen_norm ?_)
      refine awc_region ?_
      refine awl_v (av_move rfl) ?_
      refine awl_v (av_load_ptrN ts25 rfl rfl rfl rfl) ?_
      obtain ⟨x13, e14, hr⟩ := bnd_some hr
      refine awl_v (av_call (f29_runs e14).x ent29 rfl rfl) ?_
      refine awl_v (av_buildSlice (t := .str) (qs := [(0, [.str x13])]) (ys := [x13]) bs67 rfl rfl rfl rfl rfl rfl rfl rfl) ?_
      obtain ⟨h15, hr⟩ := chk_some hr
      refine awl_op (aop_append rfl rfl app67 rfl rfl rfl h15 rfl ?_)
      refine awl_v (av_assign rfl) ?_
      refine awl_nil (ablock_norm (athen_norm ?_))
      refine awc_region ?_
      refine awl_v (av_add rfl rfl) ?_
      refine awl_v (av_move rfl) ?_
      have hr := Option.some.inj hr
      subst hr
      exact awl_nil ((wk_of hX [2] 4 rfl rfl ⟨⟨_, rfl, cv0⟩, ⟨_, rfl, cv0⟩, ⟨_, rfl, cv0⟩, ⟨_, rfl, cv0⟩, ⟨_, rfl, cv0⟩, trivial⟩ ⟨cvo0, trivial⟩))
    · obtain rfl := rb_f hc10 ho
      exact awc_exit (athen_exit (⟨rfl, (wk_of hX [0] 4 rfl rfl ⟨⟨_, rfl, cv0⟩, ⟨_, rfl, cv0⟩, trivial⟩ ⟨cvo0, trivial⟩)⟩))
theorem f7_runs {p0 : Str} {r : (List (Str × Str)) × Int} (hr : f7 p0 = some r) : RunsP Try.prog 7 [.str p0] [.sl Y1 r.1, .int .i64 r.2] := by
  refine runs_w Try.func7 Try.ntmps7 rfl (rs := [.tmp 2, .tmp 3]) rfl rfl fun w0 X hX => ?_
  refine awc_seq ?_
  refine awc_region ?_
  refine awl_v (av_assign rfl) ?_
  refine awl_v (av_assign rfl) ?_
  refine awl_nil (athen_norm (awc_seq (awc_seq ?_)))
  refine awc_region ?_
  refine awl_v (av_move rfl) ?_
  refine awl_v (av_len_str rfl rfl und9 rfl) ?_
  refine awl_v (av_gtr rfl rfl) ?_
  refine awl_nil (athen_norm ?_)
  refine awc_cond (b := decide (65536 < (List.length p0 : Int))) rfl (fun hc1 => ?_) (fun hc1 => ?_)
  · have hr := if_t hc1 hr
    refine awc_seq ?_
    refine awc_region ?_
    refine awl_v (av_assign rfl) ?_
    refine awl_v (av_assign rfl) ?_
    have hr := Option.some.inj hr
    subst hr
    exact awl_nil (athen_norm (awc_ret (athen_ret (ret_q (l' := [(2, .sl Y1 ([] : List (Str × Str))), (3, .int .i64 3)]) (wk_of hX [] 4 rfl rfl ⟨⟨_, rfl, cv2⟩, ⟨_, rfl, cv0⟩, trivial⟩ trivial) rfl ⟨rfl, rfl, trivial⟩))))
  · have hr := if_f hc1 hr
    refine awc_skip (athen_norm (awc_seq ?_))
    refine awc_region ?_
    refine awl_v (av_build (qs := []) (cs := [.str ([] : Str), .str ([] : Str)]) bt25 rfl rfl rfl) ?_
    refine awl_op (aop_buildSlice (t := Y1) (qs := [(0, [.str ([] : Str), .str ([] : Str)])]) (ys := [(([] : Str), ([] : Str))]) bs22 rfl rfl rfl rfl rfl rfl rfl rfl ?_)
    refine awl_v (av_assign rfl) ?_
    refine awl_nil (athen_norm (awc_seq ?_))
    refine awc_region ?_
    refine awl_v (av_move rfl) ?_
    obtain ⟨x2, e3, hr⟩ := bnd_some hr
    refine awl_v (av_ia_osl (t := Y1) und22 sz25 rfl rfl rfl e3) ?_
    refine awl_v (av_fa_ep fa25_0 rfl rfl) ?_
    refine awl_v (av_assign rfl) ?_
    refine awl_nil (athen_norm (awc_seq (awc_seq ?_)))
    refine awc_region ?_
    refine awl_v (av_assign rfl) ?_
    refine awl_nil (athen_norm (awc_block ?_))
    obtain ⟨o16, e17, hr⟩ := bnd_some hr
    refine awc_loop (S := Nat × Bool × Int × (List (Str × Str))) (R := Unit ⊕ ((List (Str × Str)))) (fun p => match p with | (s4, s5, s6, s7) => (⟨[(0, .str p0), (2, .nils), (3, .int .i64 0), (4, .osl 0), (5, .ep 0 2 s4 (bif s5 then 1 else 0)), (6, .int .i64 s6)], [(0, .sl 25 Y1 s7)], 1⟩ : AS)) (f7_b0 p0) (fun r e st => match r with | .inl () => e = .ret ∧ Wk X st ⟨[(2, .nils), (3, .int .i64 2)], [], 0⟩ | .inr s15 => e = .exit 0 ∧ Wk X st ⟨[(0, .str p0), (2, .nils), (3, .int .i64 0), (4, .osl 0)], [(0, .sl 25 Y1 s15)], 1⟩) e17 (wk_of hX [0] 4 rfl rfl ⟨⟨_, rfl, cv0⟩, ⟨_, rfl, cv0⟩, ⟨_, rfl, cv0⟩, ⟨_, rfl, cv0⟩, ⟨_, rfl, cv0⟩, ⟨_, rfl, cv0⟩, trivial⟩ ⟨cvo0, trivial⟩) ?_ ?_
    · intro e st hx
      rcases o16 with _ | s15
      · obtain ⟨rfl, hw⟩ := hx
        have hr := Option.some.inj hr
        subst hr
        exact ablock_ret (athen_ret (ret_q (l' := [(2, .sl Y1 ([] : List (Str × Str))), (3, .int .i64 2)]) (Wk.trans hw (wk_of hX [] 4 rfl rfl ⟨⟨_, rfl, cv2⟩, ⟨_, rfl, cv0⟩, trivial⟩ trivial)) rfl ⟨rfl, rfl, trivial⟩))
      · obtain ⟨rfl, hw⟩ := hx
        refine ablock_here (athen_norm ((awc_wk hw) (awc_seq (awc_seq ?_))))
        obtain ⟨x18, e19, hr⟩ := bnd_some hr
        obtain ⟨h20, hr⟩ := chk_some hr
        refine awc_text [0, 2, 3, 4] [(true, .osl 0), (true, .bool x18), (true, .bool (!x18)), (true, .bool (!x18)), (!(!x18), .osl 0), (!(!x18), .str ((f17 s15).getD default)), (!(!x18), .str p0), (!(!x18), .bool (!decide (((f17 s15).getD default) = p0))), (true, .bool ((!x18) || (!decide (((f17 s15).getD default) = p0))))] [[], [0], [1], [2], [3], [4, 3], [3], [5, 6, 3], [7, 3]] [8] rfl rfl rfl rfl rfl ⟨?_, ?_, ?_, ?_, ?_, ?_, ?_, ?_, ?_, trivial⟩ (allT_of ⟨rfl, trivial⟩) ?_
        · exact ob_v rfl (fun hg => allT_of trivial) (fun hg => av_move rfl)
        · exact ob_v rfl (fun hg => allT_of ⟨rfl, trivial⟩) (fun hg => av_callB (as' := [.osl 0]) (f9_runs e19).x ent9 rfl ⟨cv0, trivial⟩ rfl rfl)
        · exact ob_v rfl (fun hg => allT_of ⟨rfl, trivial⟩) (fun hg => av_not rfl)
        · exact ob_v rfl (fun hg => allT_of ⟨rfl, trivial⟩) (fun hg => av_move rfl)
        · exact ob_v ⟨rfl, rfl, rfl, _, rfl, rfl⟩ (fun hg => allT_of ⟨rfl, trivial⟩) (fun hg => av_move rfl)
        · exact ob_v ⟨rfl, rfl, rfl, _, rfl, rfl⟩ (fun hg => allT_of ⟨hg, rfl, trivial⟩) (fun hg => av_callB (as' := [.osl 0]) (f17_runs (get_g h20 hg)).x ent17 rfl ⟨cv0, trivial⟩ rfl rfl)
        · exact ob_v ⟨rfl, rfl, rfl, _, rfl, rfl⟩ (fun hg => allT_of ⟨rfl, trivial⟩) (fun hg => av_move rfl)
        · exact ob_v ⟨rfl, rfl, rfl, _, rfl, rfl⟩ (fun hg => allT_of ⟨hg, hg, rfl, trivial⟩) (fun hg => av_neqs rfl rfl)
        · exact ob_pick (b := false) (p := !x18) (q := !decide (((f17 s15).getD default) = p0)) rfl rfl rfl (fun hg => allT_of ⟨rfl, trivial⟩) rfl rfl rfl rfl rfl
        refine athen_norm ?_
        refine awc_cond (b := (!x18) || (!decide (((f17 s15).getD default) = p0))) rfl (fun hc21 => ?_) (fun hc21 => ?_)
        · have hr := if_t hc21 hr
          refine awc_seq ?_
          refine awc_region ?_
          refine awl_v (av_assign rfl) ?_
          refine awl_v (av_assign rfl) ?_
          have hr := Option.some.inj hr
          subst hr
          exact awl_nil (athen_norm (awc_ret (athen_ret (ret_q (l' := [(2, .sl Y1 ([] : List (Str × Str))), (3, .int .i64 2)]) (wk_of hX [] 4 rfl rfl ⟨⟨_, rfl, cv2⟩, ⟨_, rfl, cv0⟩, trivial⟩ trivial) rfl ⟨rfl, rfl, trivial⟩))))
        · have hr := if_f hc21 hr
          refine awc_skip (athen_norm (awc_seq ?_))
          refine awc_region ?_
          refine awl_v (av_move rfl) ?_
          refine awl_v (av_assign rfl) ?_
          refine awl_v (av_assign rfl) ?_
          have hr := Option.some.inj hr
          subst hr
          exact awl_nil (athen_norm (awc_ret (ret_q (l' := [(2, .sl Y1 s15), (3, .int .i64 0)]) (wk_of hX [] 4 rfl rfl ⟨⟨_, rfl, cv0⟩, ⟨_, rfl, cv0⟩, trivial⟩ trivial) rfl ⟨rfl, rfl, trivial⟩)))
    · rintro ⟨s4, s5, s6, s7⟩ o hr
      refine awc_seq (awc_seq ?_)
      refine awc_region ?_
      refine awl_v (av_move rfl) ?_
      refine awl_v (av_move rfl) ?_
      refine awl_v (av_len_str rfl rfl und9 rfl) ?_
      refine awl_v (av_lss rfl rfl) ?_
      refine awl_nil (athen_norm ?_)
      refine awc_cond (b := decide (s6 < (List.length p0 : Int))) rfl (fun hc22 => ?_) (fun hc22 => ?_)
      · have hr := if_t hc22 hr
        refine awc_skip (athen_norm (awc_seq (awc_block ?_)))
        obtain ⟨o27, e28, hr⟩ := bnd_some hr
        refine awc_join (S := Nat × Bool × Int × (List (Str × Str))) (R := Unit) (fun s => match s with | (s23, s24, s25, s26) => (⟨[(0, .str p0), (2, .nils), (3, .int .i64 0), (4, .osl 0), (5, .ep 0 2 s23 (bif s24 then 1 else 0)), (6, .int .i64 s25)], [(0, .sl 25 Y1 s26)], 1⟩ : AS)) (fun _ _ _ => False) e28 (fun hr => ?_) ?_ ?_
        · refine awc_seq ?_
          refine awc_region ?_
          refine awl_v (av_move rfl) ?_
          refine awl_v (av_move rfl) ?_
          obtain ⟨x29, e30, hr⟩ := bnd_some hr
          refine awl_v (av_index_str und9 rfl rfl e30) ?_
          refine awl_v (av_assign rfl) ?_
          refine awl_nil (athen_norm (awc_block (awc_seq ?_)))
          refine awc_region ?_
          refine awl_v (av_move rfl) ?_
          refine awl_v (av_eql rfl rfl) ?_
          refine awl_v (av_assign rfl) ?_
          refine awl_nil (athen_norm ?_)
          refine awc_cond (b := decide (((UInt8.toNat x29 : Nat) : Int) = 47)) rfl (fun hc31 => ?_) (fun hc31 => ?_)
          · have hr := if_t hc31 hr
            refine awc_seq ?_
            refine awc_region ?_
            refine awl_v (av_move rfl) ?_
            refine awl_v (av_build (qs := []) (cs := [.str ([] : Str), .str ([] : Str)]) bt25 rfl rfl rfl) ?_
            refine awl_v (av_buildSlice (t := Y1) (qs := [(0, [.str ([] : Str), .str ([] : Str)])]) (ys := [(([] : Str), ([] : Str))]) bs22 rfl rfl rfl rfl rfl rfl rfl rfl) ?_
            obtain ⟨h32, hr⟩ := chk_some hr
            refine awl_op (aop_append rfl rfl app22 rfl rfl rfl h32 rfl ?_)
            refine awl_v (av_assign rfl) ?_
            refine awl_nil (athen_norm ?_)
            refine awc_region ?_
            refine awl_v (av_move rfl) ?_
            refine awl_v (av_move rfl) ?_
            refine awl_v (av_len_osl (t := Y1) rfl rfl und22 rfl rfl) ?_
            refine awl_v (av_sub rfl rfl) ?_
            obtain ⟨x33, e34, hr⟩ := bnd_some hr
            refine awl_v (av_ia_osl (t := Y1) und22 sz25 rfl rfl rfl e34) ?_
            refine awl_v (av_fa_ep fa25_0 rfl rfl) ?_
            refine awl_v (av_assign rfl) ?_
            have hr := Option.some.inj hr
            subst hr
            exact awl_nil (ablock_norm ((wk_of hX [1] 4 rfl rfl ⟨⟨_, rfl, cv0⟩, ⟨_, rfl, cv0⟩, ⟨_, rfl, cv0⟩, ⟨_, rfl, cv0⟩, ⟨_, rfl, cv0⟩, ⟨_, rfl, cv0⟩, trivial⟩ ⟨cvo0, trivial⟩)))
          · have hr := if_f hc31 hr
            refine awc_seq ?_
            obtain ⟨h35, hr⟩ := chk_some hr
            refine awc_text [0, 2, 3, 4, 5, 6, 7] [(true, .int .u8 ((UInt8.toNat x29 : Nat) : Int)), (true, .bool (decide (((UInt8.toNat x29 : Nat) : Int) = 46))), (true, .bool (decide (((UInt8.toNat x29 : Nat) : Int) = 46))), (decide (((UInt8.toNat x29 : Nat) : Int) = 46), .ep 0 2 s4 (bif s5 then 1 else 0)), (decide (((UInt8.toNat x29 : Nat) : Int) = 46), .osl 0), (decide (((UInt8.toNat x29 : Nat) : Int) = 46), .osl 0), (decide (((UInt8.toNat x29 : Nat) : Int) = 46), .int .i64 (List.length s7 : Int)), (decide (((UInt8.toNat x29 : Nat) : Int) = 46), .int .i64 (w64 ((List.length s7 : Int) - 1))), (decide (((UInt8.toNat x29 : Nat) : Int) = 46), .ep 0 2 (Int.toNat (w64 ((List.length s7 : Int) - 1))) 0), (decide (((UInt8.toNat x29 : Nat) : Int) = 46), .ep 0 2 (Int.toNat (w64 ((List.length s7 : Int) - 1))) 0), (decide (((UInt8.toNat x29 : Nat) : Int) = 46), .bool (decide (s4 * 2 + (bif s5 then 1 else 0) = (Int.toNat (w64 ((List.length s7 : Int) - 1))) * 2 + 0))), (true, .bool ((decide (((UInt8.toNat x29 : Nat) : Int) = 46)) && (decide (s4 * 2 + (bif s5 then 1 else 0) = (Int.toNat (w64 ((List.length s7 : Int) - 1))) * 2 + 0)))), (true, .bool ((decide (((UInt8.toNat x29 : Nat) : Int) = 46)) && (decide (s4 * 2 + (bif s5 then 1 else 0) = (Int.toNat (w64 ((List.length s7 : Int) - 1))) * 2 + 0))))] [[], [0], [1], [2], [2], [2], [5, 2], [6, 2], [4, 7, 2], [8, 2], [3, 9, 2], [10, 2], [11]] [12] rfl rfl rfl rfl rfl ⟨?_, ?_, ?_, ?_, ?_, ?_, ?_, ?_, ?_, ?_, ?_, ?_, ?_, trivial⟩ (allT_of ⟨rfl, trivial⟩) ?_
            · exact ob_v rfl (fun hg => allT_of trivial) (fun hg => av_move rfl)
            · exact ob_v rfl (fun hg => allT_of ⟨rfl, trivial⟩) (fun hg => av_eql rfl rfl)
            · exact ob_v rfl (fun hg => allT_of ⟨rfl, trivial⟩) (fun hg => av_move rfl)
            · exact ob_v ⟨rfl, rfl, rfl, _, rfl, rfl⟩ (fun hg => allT_of ⟨rfl, trivial⟩) (fun hg => av_move rfl)
            · exact ob_v ⟨rfl, rfl, rfl, _, rfl, rfl⟩ (fun hg => allT_of ⟨rfl, trivial⟩) (fun hg => av_move rfl)
            · exact ob_v ⟨rfl, rfl, rfl, _, rfl, rfl⟩ (fun hg => allT_of ⟨rfl, trivial⟩) (fun hg => av_move rfl)
            · exact ob_v ⟨rfl, rfl, rfl, _, rfl, rfl⟩ (fun hg => allT_of ⟨hg, rfl, trivial⟩) (fun hg => av_len_osl (t := Y1) rfl rfl und22 rfl rfl)
            · exact ob_v ⟨rfl, rfl, rfl, _, rfl, rfl⟩ (fun hg => allT_of ⟨hg, rfl, trivial⟩) (fun hg => av_sub rfl rfl)
            · exact ob_v ⟨rfl, rfl, rfl, _, rfl, rfl⟩ (fun hg => allT_of ⟨hg, hg, rfl, trivial⟩) (fun hg => av_ia_osl (t := Y1) und22 sz25 rfl rfl rfl (get_g h35 hg))
            · exact ob_v ⟨rfl, rfl, rfl, _, rfl, rfl⟩ (fun hg => allT_of ⟨hg, rfl, trivial⟩) (fun hg => av_fa_ep fa25_0 rfl rfl)
            · exact ob_v ⟨rfl, rfl, rfl, _, rfl, rfl⟩ (fun hg => allT_of ⟨hg, hg, rfl, trivial⟩) (fun hg => av_epeq (n := 0) und46 sz9 rfl rfl)
            · exact ob_pick (b := true) (p := decide (((UInt8.toNat x29 : Nat) : Int) = 46)) (q := decide (s4 * 2 + (bif s5 then 1 else 0) = (Int.toNat (w64 ((List.length s7 : Int) - 1))) * 2 + 0)) rfl rfl rfl (fun hg => allT_of ⟨rfl, trivial⟩) rfl rfl rfl rfl rfl
            · exact ob_v rfl (fun hg => allT_of ⟨rfl, trivial⟩) (fun hg => av_assign rfl)
            refine athen_norm ?_
            refine awc_cond (b := (decide (((UInt8.toNat x29 : Nat) : Int) = 46)) && (decide (s4 * 2 + (bif s5 then 1 else 0) = (Int.toNat (w64 ((List.length s7 : Int) - 1))) * 2 + 0))) rfl (fun hc36 => ?_) (fun hc36 => ?_)
            · have hr := if_t hc36 hr
              refine awc_region ?_
              refine awl_v (av_move rfl) ?_
              refine awl_v (av_move rfl) ?_
              refine awl_v (av_len_osl (t := Y1) rfl rfl und22 rfl rfl) ?_
              refine awl_v (av_sub rfl rfl) ?_
              obtain ⟨x37, e38, hr⟩ := bnd_some hr
              refine awl_v (av_ia_osl (t := Y1) und22 sz25 rfl rfl rfl e38) ?_
              refine awl_v (av_fa_ep fa25_1 rfl rfl) ?_
              refine awl_v (av_assign rfl) ?_
              have hr := Option.some.inj hr
              subst hr
              exact awl_nil (ablock_norm ((wk_of hX [0] 4 rfl rfl ⟨⟨_, rfl, cv0⟩, ⟨_, rfl, cv0⟩, ⟨_, rfl, cv0⟩, ⟨_, rfl, cv0⟩, ⟨_, rfl, cv0⟩, ⟨_, rfl, cv0⟩, trivial⟩ ⟨cvo0, trivial⟩)))
            · have hr := if_f hc36 hr
              refine awc_seq ?_
              refine awc_text [0, 2, 3, 4, 5, 6, 7] [(true, .int .u8 ((UInt8.toNat x29 : Nat) : Int)), (true, .bool (decide (((UInt8.toNat x29 : Nat) : Int) = 92))), (true, .bool (decide (((UInt8.toNat x29 : Nat) : Int) = 92))), (decide (((UInt8.toNat x29 : Nat) : Int) = 92), .int .i64 s6), (decide (((UInt8.toNat x29 : Nat) : Int) = 92), .int .i64 (w64 (s6 + 1))), (decide (((UInt8.toNat x29 : Nat) : Int) = 92), .str p0), (decide (((UInt8.toNat x29 : Nat) : Int) = 92), .int .i64 (List.length p0 : Int)), (decide (((UInt8.toNat x29 : Nat) : Int) = 92), .bool (decide ((w64 (s6 + 1)) < (List.length p0 : Int)))), (true, .bool ((decide (((UInt8.toNat x29 : Nat) : Int) = 92)) && (decide ((w64 (s6 + 1)) < (List.length p0 : Int))))), (true, .bool ((decide (((UInt8.toNat x29 : Nat) : Int) = 92)) && (decide ((w64 (s6 + 1)) < (List.length p0 : Int)))))] [[], [0], [1], [2], [3, 2], [2], [5, 2], [4, 6, 2], [7, 2], [8]] [9] rfl rfl rfl rfl rfl ⟨?_, ?_, ?_, ?_, ?_, ?_, ?_, ?_, ?_, ?_, trivial⟩ (allT_of ⟨rfl, trivial⟩) ?_
              · exact ob_v rfl (fun hg => allT_of trivial) (fun hg => av_move rfl)
              · exact ob_v rfl (fun hg => allT_of ⟨rfl, trivial⟩) (fun hg => av_eql rfl rfl)
              · exact ob_v rfl (fun hg => allT_of ⟨rfl, trivial⟩) (fun hg => av_move rfl)
              · exact ob_v ⟨rfl, rfl, rfl, _, rfl, rfl⟩ (fun hg => allT_of ⟨rfl, trivial⟩) (fun hg => av_move rfl)
              · exact ob_v ⟨rfl, rfl, rfl, _, rfl, rfl⟩ (fun hg => allT_of ⟨hg, rfl, trivial⟩) (fun hg => av_add rfl rfl)
              · exact ob_v ⟨rfl, rfl, rfl, _, rfl, rfl⟩ (fun hg => allT_of ⟨rfl, trivial⟩) (fun hg => av_move rfl)
              · exact ob_v ⟨rfl, rfl, rfl, _, rfl, rfl⟩ (fun hg => allT_of ⟨hg, rfl, trivial⟩) (fun hg => av_len_str rfl rfl und9 rfl)
              · exact ob_v ⟨rfl, rfl, rfl, _, rfl, rfl⟩ (fun hg => allT_of ⟨hg, hg, rfl, trivial⟩) (fun hg => av_lss rfl rfl)
              · exact ob_pick (b := true) (p := decide (((UInt8.toNat x29 : Nat) : Int) = 92)) (q := decide ((w64 (s6 + 1)) < (List.length p0 : Int))) rfl rfl rfl (fun hg => allT_of ⟨rfl, trivial⟩) rfl rfl rfl rfl rfl
              · exact ob_v rfl (fun hg => allT_of ⟨rfl, trivial⟩) (fun hg => av_assign rfl)
              refine athen_norm ?_
              refine awc_cond (b := (decide (((UInt8.toNat x29 : Nat) : Int) = 92)) && (decide ((w64 (s6 + 1)) < (List.length p0 : Int)))) rfl (fun hc39 => ?_) (fun hc39 => ?_)
              · have hr := if_t hc39 hr
                refine awc_seq ?_
                refine awc_region ?_
                refine awl_v (av_move rfl) ?_
                refine awl_v (av_add rfl rfl) ?_
                refine awl_v (av_assign rfl) ?_
                refine awl_nil (athen_norm ?_)
                obtain ⟨x40, e41, hr⟩ := bnd_some hr
                obtain ⟨h42, hr⟩ := chk_some hr
                obtain ⟨h43, hr⟩ := chk_some hr
                refine awc_draw_tail2 10 [10, 10, 10, 10, 10, 10, 10, 10, 10, 10] mixed [0, 2, 3, 4, 5, 6] [(true, .ep 0 2 s4 (bif s5 then 1 else 0)), (true, .ep 0 2 s4 (bif s5 then 1 else 0)), (true, .str (bif s5 then x40.2 else x40.1)), (true, .str p0), (true, .int .i64 (w64 (s6 + 1))), (true, .int .i64 (w64 (s6 + 1))), (true, .int .i64 (w64 ((w64 (s6 + 1)) + 1))), (true, .str ((p0.take (Int.toNat (w64 ((w64 (s6 + 1)) + 1)))).drop (Int.toNat (w64 (s6 + 1))))), (true, .str ((bif s5 then x40.2 else x40.1) ++ ((p0.take (Int.toNat (w64 ((w64 (s6 + 1)) + 1)))).drop (Int.toNat (w64 (s6 + 1)))))), (true, .ep 0 2 s4 (bif s5 then 1 else 0))] [[], [0], [1], [], [], [], [5], [3, 4, 6], [2, 7], [0]] [8, 9] rfl rfl rfl rfl rfl rfl rfl rfl ⟨?_, ?_, ?_, ?_, ?_, ?_, ?_, ?_, ?_, ?_, trivial⟩ (allT_of ⟨rfl, rfl, trivial⟩) ?_
                · exact ob_v rfl (fun hg => allT_of trivial) (fun hg => av_move rfl)
                · exact ob_v rfl (fun hg => allT_of ⟨rfl, trivial⟩) (fun hg => av_nilCheck_ep rfl)
                · exact ob_v rfl (fun hg => allT_of ⟨rfl, trivial⟩) (fun hg => av_load_ep ts9 rfl rfl rfl (ix_at e41) two_drop)
                · exact ob_v rfl (fun hg => allT_of trivial) (fun hg => av_move rfl)
                · exact ob_v rfl (fun hg => allT_of trivial) (fun hg => av_move rfl)
                · exact ob_v rfl (fun hg => allT_of trivial) (fun hg => av_move rfl)
                · exact ob_v rfl (fun hg => allT_of ⟨rfl, trivial⟩) (fun hg => av_add rfl rfl)
                · exact ob_v rfl (fun hg => allT_of ⟨rfl, rfl, rfl, trivial⟩) (fun hg => av_slice_str (l := (w64 (s6 + 1))) (h := (w64 ((w64 (s6 + 1)) + 1))) und9 rfl ⟨_, rfl⟩ ⟨_, rfl⟩ h42)
                · exact ob_v rfl (fun hg => allT_of ⟨rfl, rfl, trivial⟩) (fun hg => av_adds rfl rfl h43)
                · exact ob_v rfl (fun hg => allT_of ⟨rfl, trivial⟩) (fun hg => av_nilCheck_ep rfl)
                refine awl_op (aop_store_ep (e' := (two_set x40 s5 ((bif s5 then x40.2 else x40.1) ++ ((p0.take (Int.toNat (w64 ((w64 (s6 + 1)) + 1)))).drop (Int.toNat (w64 (s6 + 1))))))) sz9 rfl rfl rfl rfl (ix_at e41) rfl rfl two_le rfl two_over ?_)
                have hr := Option.some.inj hr
                subst hr
                exact awl_nil (ablock_norm ((wk_of hX [0] 4 rfl rfl ⟨⟨_, rfl, cv0⟩, ⟨_, rfl, cv0⟩, ⟨_, rfl, cv0⟩, ⟨_, rfl, cv0⟩, ⟨_, rfl, cv0⟩, ⟨_, rfl, cv0⟩, trivial⟩ ⟨cvo0, trivial⟩)))
              · have hr := if_f hc39 hr
                obtain ⟨x44, e45, hr⟩ := bnd_some hr
                obtain ⟨h46, hr⟩ := chk_some hr
                obtain ⟨h47, hr⟩ := chk_some hr
                refine awc_draw_tail2 10 [10, 10, 10, 10, 10, 10, 10, 10, 10, 10] mixed [0, 2, 3, 4, 5, 6] [(true, .ep 0 2 s4 (bif s5 then 1 else 0)), (true, .ep 0 2 s4 (bif s5 then 1 else 0)), (true, .str (bif s5 then x44.2 else x44.1)), (true, .str p0), (true, .int .i64 s6), (true, .int .i64 s6), (true, .int .i64 (w64 (s6 + 1))), (true, .str ((p0.take (Int.toNat (w64 (s6 + 1)))).drop (Int.toNat s6))), (true, .str ((bif s5 then x44.2 else x44.1) ++ ((p0.take (Int.toNat (w64 (s6 + 1)))).drop (Int.toNat s6)))), (true, .ep 0 2 s4 (bif s5 then 1 else 0))] [[], [0], [1], [], [], [], [5], [3, 4, 6], [2, 7], [0]] [8, 9] rfl rfl rfl rfl rfl rfl rfl rfl ⟨?_, ?_, ?_, ?_, ?_, ?_, ?_, ?_, ?_, ?_, trivial⟩ (allT_of ⟨rfl, rfl, trivial⟩) ?_
                · exact ob_v rfl (fun hg => allT_of trivial) (fun hg => av_move rfl)
                · exact ob_v rfl (fun hg => allT_of ⟨rfl, trivial⟩) (fun hg => av_nilCheck_ep rfl)
                · exact ob_v rfl (fun hg => allT_of ⟨rfl, trivial⟩) (fun hg => av_load_ep ts9 rfl rfl rfl (ix_at e45) two_drop)
                · exact ob_v rfl (fun hg => allT_of trivial) (fun hg => av_move rfl)
                · exact ob_v rfl (fun hg => allT_of trivial) (fun hg => av_move rfl)
                · exact ob_v rfl (fun hg => allT_of trivial) (fun hg => av_move rfl)
                · exact ob_v rfl (fun hg => allT_of ⟨rfl, trivial⟩) (fun hg => av_add rfl rfl)
                · exact ob_v rfl (fun hg => allT_of ⟨rfl, rfl, rfl, trivial⟩) (fun hg => av_slice_str (l := s6) (h := (w64 (s6 + 1))) und9 rfl ⟨_, rfl⟩ ⟨_, rfl⟩ h46)
                · exact ob_v rfl (fun hg => allT_of ⟨rfl, rfl, trivial⟩) (fun hg => av_adds rfl rfl h47)
                · exact ob_v rfl (fun hg => allT_of ⟨rfl, trivial⟩) (fun hg => av_nilCheck_ep rfl)
                refine awl_op (aop_store_ep (e' := (two_set x44 s5 ((bif s5 then x44.2 else x44.1) ++ ((p0.take (Int.toNat (w64 (s6 + 1)))).drop (Int.toNat s6))))) sz9 rfl rfl rfl rfl (ix_at e45) rfl rfl two_le rfl two_over ?_)
                have hr := Option.some.inj hr
                subst hr
                exact awl_nil (ablock_norm ((wk_of hX [0] 4 rfl rfl ⟨⟨_, rfl, cv0⟩, ⟨_, rfl, cv0⟩, ⟨_, rfl, cv0⟩, ⟨_, rfl, cv0⟩, ⟨_, rfl, cv0⟩, ⟨_, rfl, cv0⟩, trivial⟩ ⟨cvo0, trivial⟩)))
        · rintro ⟨s23, s24, s25, s26⟩ rfl
          refine awc_seq ?_
          obtain ⟨h48, hr⟩ := chk_some hr
          refine awc_text [0, 2, 3, 4, 5, 6] [(true, .osl 0), (true, .int .i64 (List.length s26 : Int)), (true, .bool (decide (20 < (List.length s26 : Int)))), (true, .bool (decide (20 < (List.length s26 : Int)))), (!(decide (20 < (List.length s26 : Int))), .ep 0 2 s23 (bif s24 then 1 else 0)), (!(decide (20 < (List.length s26 : Int))), .ep 0 2 s23 (bif s24 then 1 else 0)), (!(decide (20 < (List.length s26 : Int))), .str (bif s24 then (((ix s26 (s23 : Int)).getD default)).2 else (((ix s26 (s23 : Int)).getD default)).1)), (!(decide (20 < (List.length s26 : Int))), .int .i64 (List.length (bif s24 then (((ix s26 (s23 : Int)).getD default)).2 else (((ix s26 (s23 : Int)).getD default)).1) : Int)), (!(decide (20 < (List.length s26 : Int))), .bool (decide (32 < (List.length (bif s24 then (((ix s26 (s23 : Int)).getD default)).2 else (((ix s26 (s23 : Int)).getD default)).1) : Int)))), (true, .bool ((decide (20 < (List.length s26 : Int))) || (decide (32 < (List.length (bif s24 then (((ix s26 (s23 : Int)).getD default)).2 else (((ix s26 (s23 : Int)).getD default)).1) : Int)))))] [[], [0], [1], [2], [3], [4, 3], [5, 3], [6, 3], [7, 3], [8, 3]] [9] rfl rfl rfl rfl rfl ⟨?_, ?_, ?_, ?_, ?_, ?_, ?_, ?_, ?_, ?_, trivial⟩ (allT_of ⟨rfl, trivial⟩) ?_
          · exact ob_v rfl (fun hg => allT_of trivial) (fun hg => av_move rfl)
          · exact ob_v rfl (fun hg => allT_of ⟨rfl, trivial⟩) (fun hg => av_len_osl (t := Y1) rfl rfl und22 rfl rfl)
          · exact ob_v rfl (fun hg => allT_of ⟨rfl, trivial⟩) (fun hg => av_gtr rfl rfl)
          · exact ob_v rfl (fun hg => allT_of ⟨rfl, trivial⟩) (fun hg => av_move rfl)
          · exact ob_v ⟨rfl, rfl, rfl, _, rfl, rfl⟩ (fun hg => allT_of ⟨rfl, trivial⟩) (fun hg => av_move rfl)
          · exact ob_v ⟨rfl, rfl, rfl, _, rfl, rfl⟩ (fun hg => allT_of ⟨hg, rfl, trivial⟩) (fun hg => av_nilCheck_ep rfl)
          · exact ob_v ⟨rfl, rfl, rfl, _, rfl, rfl⟩ (fun hg => allT_of ⟨hg, rfl, trivial⟩) (fun hg => av_load_ep ts9 rfl rfl rfl (ix_at (get_g h48 hg)) two_drop)
          · exact ob_v ⟨rfl, rfl, rfl, _, rfl, rfl⟩ (fun hg => allT_of ⟨hg, rfl, trivial⟩) (fun hg => av_len_str rfl rfl und9 rfl)
          · exact ob_v ⟨rfl, rfl, rfl, _, rfl, rfl⟩ (fun hg => allT_of ⟨hg, rfl, trivial⟩) (fun hg => av_gtr rfl rfl)
          · exact ob_pick (b := false) (p := decide (20 < (List.length s26 : Int))) (q := decide (32 < (List.length (bif s24 then (((ix s26 (s23 : Int)).getD default)).2 else (((ix s26 (s23 : Int)).getD default)).1) : Int))) rfl rfl rfl (fun hg => allT_of ⟨rfl, trivial⟩) rfl rfl rfl rfl rfl
          refine athen_norm ?_
          refine awc_cond (b := (decide (20 < (List.length s26 : Int))) || (decide (32 < (List.length (bif s24 then (((ix s26 (s23 : Int)).getD default)).2 else (((ix s26 (s23 : Int)).getD default)).1) : Int)))) rfl (fun hc49 => ?_) (fun hc49 => ?_)
          · have hr := if_t hc49 hr
            refine awc_seq ?_
            refine awc_region ?_
            refine awl_v (av_assign rfl) ?_
            refine awl_v (av_assign rfl) ?_
            have hr := Option.some.inj hr
            subst hr
            exact awl_nil (athen_norm (awc_ret (ablock_ret (athen_ret (⟨rfl, (wk_of hX [] 4 rfl rfl ⟨⟨_, rfl, cv0⟩, ⟨_, rfl, cv0⟩, trivial⟩ trivial)⟩)))))
          · have hr := if_f hc49 hr
            refine awc_skip (ablock_norm (athen_norm ?_))
            refine awc_region ?_
            refine awl_v (av_move rfl) ?_
            refine awl_v (av_add rfl rfl) ?_
            refine awl_v (av_assign rfl) ?_
            have hr := Option.some.inj hr
            subst hr
            exact awl_nil ((wk_of hX [0] 4 rfl rfl ⟨⟨_, rfl, cv0⟩, ⟨_, rfl, cv0⟩, ⟨_, rfl, cv0⟩, ⟨_, rfl, cv0⟩, ⟨_, rfl, cv0⟩, ⟨_, rfl, cv0⟩, trivial⟩ ⟨cvo0, trivial⟩))
        · exact fun r h e st hne hx => hx.elim
      · have hr := if_f hc22 hr
        have hr := Option.some.inj hr
        subst hr
        exact awc_exit (athen_exit (⟨rfl, (wk_of hX [0] 4 rfl rfl ⟨⟨_, rfl, cv0⟩, ⟨_, rfl, cv0⟩, ⟨_, rfl, cv0⟩, ⟨_, rfl, cv0⟩, trivial⟩ ⟨cvo0, trivial⟩)⟩))
end Go.Ab
namespace Go.Ab
open Go.RowKit Go.Shelf Go.Proofs Go.Eng
theorem und53 : Und Try.prog 53 (.map 3 52) := by unfold Und; kernel_rfl
theorem kt3 : KeyT Try.prog 3 (.int .i64) := keyT_int (by kernel_rfl)
theorem zero55 : Eng.Zero Try.prog 55 (.agg #[.map none, .int .i64 0, .int .i64 0]) := fun w => by kernel_rfl
theorem bt55 : BuildT Try.prog 55 (.agg #[.map none, .int .i64 0, .int .i64 0]) (fun i => [(0, 1), (1, 1), (2, 1)][i]?) := buildT_struct zero55 (fs := Try.prog.fieldsOf 55) (by kernel_rfl) (fun w => by kernel_rfl)
theorem und35 : Und Try.prog 35 (.pointer 55) := by unfold Und; kernel_rfl
theorem fa55_0 : FieldAt Try.prog 55 0 0 := fun b o w => by kernel_rfl
theorem ts53 : TyS Try.prog 53 false 1 := ⟨fun w => by kernel_rfl, fun w => by kernel_rfl⟩
theorem zw52 : ZeroW Try.prog 52 (.map Y1 (.raw ifN)) := zeroW_of (z := .map none) (fun w => by kernel_rfl) rfl (fun _ => rfl)
theorem zero38 : Eng.Zero Try.prog 38 (.agg #[.int .i64 0, .int .i64 0]) := fun w => by kernel_rfl
theorem und52 : Und Try.prog 52 (.map 25 62) := by unfold Und; kernel_rfl
theorem kt25 : KeyT Try.prog 25 Y1 := keyT_st2 (by unfold UndS; kernel_rfl) (fun _ _ _ _ => eq25) (fun em a b w => by kernel_rfl)
theorem zw62 : ZeroW Try.prog 62 (.raw ifN) := zeroW_of (z := .nilIface) (fun w => by kernel_rfl) rfl (fun _ => rfl)
theorem unI62 : UndI Try.prog 62 := by unfold UndI; kernel_rfl
theorem bt38 : BuildT Try.prog 38 (.agg #[.int .i64 0, .int .i64 0]) (fun i => [(0, 1), (1, 1)][i]?) := buildT_struct zero38 (fs := Try.prog.fieldsOf 38) (by kernel_rfl) (fun w => by kernel_rfl)
theorem sz38 : Sz Try.prog 38 2 := fun w => by kernel_rfl
theorem und75 : Und Try.prog 75 .string := by unfold Und; kernel_rfl
theorem zero75 : Eng.Zero Try.prog 75 (.string ByteArray.empty) := fun w => by kernel_rfl
theorem und57 : Und Try.prog 57 (.int .i64) := by unfold Und; kernel_rfl
theorem zero57 : Eng.Zero Try.prog 57 (.int .i64 0) := fun w => by kernel_rfl
theorem ts38 : TyS Try.prog 38 true 2 := ⟨fun w => by kernel_rfl, fun w => by kernel_rfl⟩
theorem zero52 : Eng.Zero Try.prog 52 (.map none) := fun w => by kernel_rfl
theorem ent26 : Enters Try.prog 26 := enters_of Try.func26 (by kernel_rfl) rfl
theorem ent27 : Enters Try.prog 27 := enters_of Try.func27 (by kernel_rfl) rfl
theorem meth75_69 : ∀ w v, (Go.method (Try.prog.types.size + Made.depth) 75 v "intermede/naming.sort").run Try.prog w = .ok (69, v) w := fun w v => by kernel_rfl
theorem meth57_68 : ∀ w v, (Go.method (Try.prog.types.size + Made.depth) 57 v "intermede/naming.sort").run Try.prog w = .ok (68, v) w := fun w v => by kernel_rfl
theorem ent69 : Enters Try.prog 69 := enters_of Try.func69 (by kernel_rfl) rfl
theorem ent68 : Enters Try.prog 68 := enters_of Try.func68 (by kernel_rfl) rfl
theorem fa55_2 : FieldAt Try.prog 55 2 2 := fun b o w => by kernel_rfl
theorem ts3 : TyS Try.prog 3 false 1 := ⟨fun w => by kernel_rfl, fun w => by kernel_rfl⟩
theorem sz3 : Sz Try.prog 3 1 := fun w => by kernel_rfl
theorem ent25 : Enters Try.prog 25 := enters_of Try.func25 (by kernel_rfl) rfl
theorem zero42 : Eng.Zero Try.prog 42 (.agg #[.string ByteArray.empty, .string ByteArray.empty, .string ByteArray.empty, .int .i64 0, .bool false]) := fun w => by kernel_rfl
theorem bt42 : BuildT Try.prog 42 (.agg #[.string ByteArray.empty, .string ByteArray.empty, .string ByteArray.empty, .int .i64 0, .bool false]) (fun i => [(0, 2), (2, 1), (3, 1), (4, 1)][i]?) := buildT_struct zero42 (fs := Try.prog.fieldsOf 42) (by kernel_rfl) (fun w => by kernel_rfl)
theorem sz42 : Sz Try.prog 42 5 := fun w => by kernel_rfl
theorem fa42_1 : FieldAt Try.prog 42 1 2 := fun b o w => by kernel_rfl
theorem fa42_2 : FieldAt Try.prog 42 2 3 := fun b o w => by kernel_rfl
theorem fa42_3 : FieldAt Try.prog 42 3 4 := fun b o w => by kernel_rfl
theorem sz4 : Sz Try.prog 4 1 := fun w => by kernel_rfl
theorem ts42 : TyS Try.prog 42 true 5 := ⟨fun w => by kernel_rfl, fun w => by kernel_rfl⟩
theorem ent28 : Enters Try.prog 28 := enters_of Try.func28 (by kernel_rfl) rfl
theorem ent7 : Enters Try.prog 7 := enters_of Try.func7 (by kernel_rfl) rfl
theorem ent14 : Enters Try.prog 14 := enters_of Try.func14 (by kernel_rfl) rfl
theorem ent15 : Enters Try.prog 15 := enters_of Try.func15 (by kernel_rfl) rfl
theorem ent16 : Enters Try.prog 16 := enters_of Try.func16 (by kernel_rfl) rfl
theorem ts4 : TyS Try.prog 4 false 1 := ⟨fun w => by kernel_rfl, fun w => by kernel_rfl⟩
theorem und67 : Und Try.prog 67 (.slice 9) := by unfold Und; kernel_rfl
theorem ent22 : Enters Try.prog 22 := enters_of Try.func22 (by kernel_rfl) rfl
theorem f14_runs {r : Unit} (hr : f14 = some r) : Runs Try.prog 14 [] [] (fun q Hq => q = [.ptr 0 0] ∧ Hq = [.tr (.pt 55 (.pair (.mp (.int .i64) (.mp Y1 (.dat (.raw ifN)))) (.pair (.dat (.int .i64)) (.dat (.int .i64))))) (some ((mset [] 0 []), 1, 0))]) := by
  refine runs_w Try.func14 Try.ntmps14 rfl (rs := [.tmp 0]) rfl rfl fun w0 X hX => ?_
  refine awc_seq ?_
  refine awc_region ?_
  refine awl_v (av_assign rfl) ?_
  refine awl_nil (athen_norm (awc_seq ?_))
  refine awc_region ?_
  refine awl_op (aop_makeMap (.int .i64) (.map Y1 (.raw ifN)) rfl ?_)
  refine awl_wk (wk_mpt (i := 0) (.mp Y1 (.dat (.raw ifN))) rfl rfl) ?_
  refine awl_op (aop_makeMap Y1 (.raw ifN) rfl ?_)
  refine awl_op (aop_mptSet (kx := 0) (yx := []) (js := [1]) und53 kt3 (.inr rfl) rfl rfl rfl rfl rfl rfl ⟨1, rfl, rfl, rfl⟩ rfl holes0 ?_)
  refine awl_v (av_move rfl) ?_
  refine awl_v (av_build (qs := [(0, [.map 0]), (1, [.int .i64 1])]) (cs := [.map 0, .int .i64 1, .int .i64 0]) bt55 rfl rfl rfl) ?_
  refine awl_op (aop_box rfl rfl ?_)
  refine awl_v (av_assign rfl) ?_
  have hr := Option.some.inj hr
  subst hr
  exact awl_nil (athen_norm (awc_ret (ret_o (l' := [(0, .ptr 0 0)]) (Hs := [(0, .tr (.pt 55 (.pair (.mp (.int .i64) (.mp Y1 (.dat (.raw ifN)))) (.pair (.dat (.int .i64)) (.dat (.int .i64))))) (some ((mset [] 0 []), 1, 0)))]) (n := 1) (Wk.trans (wk_packt (i := 2) (T := 55) (e := (.pair (.mp (.int .i64) (.mp Y1 (.dat (.raw ifN)))) (.pair (.dat (.int .i64)) (.dat (.int .i64))))) (js := [0]) ((mset [] 0 []), 1, 0) rfl (⟨[.map 0], [.int .i64 1, .int .i64 0], [0], [], rfl, rfl, ⟨0, rfl, rfl, rfl⟩, ⟨[.int .i64 1], [.int .i64 0], [], [], rfl, rfl, ⟨rfl, rfl, rfl⟩, ⟨rfl, rfl, rfl⟩⟩⟩) rfl) (wk_of hX [2] 4 rfl rfl ⟨⟨_, rfl, cv0⟩, trivial⟩ ⟨cvo0, trivial⟩)) rfl rfl rfl ⟨rfl, trivial⟩)))
theorem f26_runs {p0 : List (Int × (List ((Str × Str) × Cell1))) × Int × Int} {p1 : Int} {p2 : List (Str × Str)} {r : Int} (hr : f26 p0 p1 p2 = some r) : RunsP Try.prog 26 [.rp [.dm (.int .i64) (.map Y1 (.raw ifN)) p0.1, .int .i64 p0.2.1, .int .i64 p0.2.2], .int .i64 p1, .sl Y1 p2] [.int .i64 r] := by
  refine runs_w Try.func26 Try.ntmps26 rfl (rs := [.tmp 6]) rfl rfl fun w0 X hX => ?_
  refine awc_seq ?_
  refine awc_region ?_
  refine awl_v (av_assign rfl) ?_
  refine awl_nil (athen_norm (awc_seq (awc_seq ?_)))
  obtain ⟨h1, hr⟩ := chk_some hr
  refine awc_text [0, 1, 2, 6] [(true, .rp [.dm (.int .i64) (.map Y1 (.raw ifN)) p0.1, .int .i64 p0.2.1, .int .i64 p0.2.2]), (true, .bool false), (true, .bool false), (!false, .sl Y1 p2), (!false, .bool ((f9 p2).getD default)), (!false, .bool (!((f9 p2).getD default))), (true, .bool (false || (!((f9 p2).getD default))))] [[], [0], [1], [2], [3, 2], [4, 2], [5, 2]] [6] rfl rfl rfl rfl rfl ⟨?_, ?_, ?_, ?_, ?_, ?_, ?_, trivial⟩ (allT_of ⟨rfl, trivial⟩) ?_
  · exact ob_v rfl (fun hg => allT_of trivial) (fun hg => av_move rfl)
  · exact ob_v rfl (fun hg => allT_of ⟨rfl, trivial⟩) (fun hg => av_eqnil_rp und35 rfl rfl)
  · exact ob_v rfl (fun hg => allT_of ⟨rfl, trivial⟩) (fun hg => av_move rfl)
  · exact ob_v ⟨rfl, rfl, rfl, _, rfl, rfl⟩ (fun hg => allT_of ⟨rfl, trivial⟩) (fun hg => av_move rfl)
  · exact ob_v ⟨rfl, rfl, rfl, _, rfl, rfl⟩ (fun hg => allT_of ⟨hg, rfl, trivial⟩) (fun hg => av_call (f9_runs (get_g h1 hg)).x ent9 rfl rfl)
  · exact ob_v ⟨rfl, rfl, rfl, _, rfl, rfl⟩ (fun hg => allT_of ⟨hg, rfl, trivial⟩) (fun hg => av_not rfl)
  · exact ob_pick (b := false) (p := false) (q := !((f9 p2).getD default)) rfl rfl rfl (fun hg => allT_of ⟨rfl, trivial⟩) rfl rfl rfl rfl rfl
  refine athen_norm ?_
  refine awc_cond (b := false || (!((f9 p2).getD default))) rfl (fun hc2 => ?_) (fun hc2 => ?_)
  · have hr := if_t hc2 hr
    refine awc_seq ?_
    refine awc_region ?_
    refine awl_v (av_assign rfl) ?_
    have hr := Option.some.inj hr
    subst hr
    exact awl_nil (athen_norm (awc_ret (athen_ret (ret_q (l' := [(6, .int .i64 1)]) (wk_of hX [] 4 rfl rfl ⟨⟨_, rfl, cv0⟩, trivial⟩ trivial) rfl ⟨rfl, trivial⟩))))
  · have hr := if_f hc2 hr
    refine awc_skip (athen_norm (awc_seq (awc_seq ?_)))
    refine awc_region ?_
    refine awl_v (av_move rfl) ?_
    refine awl_v (av_nilCheck_rp rfl) ?_
    refine awl_v (av_fa_rp fa55_0 rfl rfl) ?_
    refine awl_v (av_load_rp ts53 rfl) ?_
    refine awl_v (av_move rfl) ?_
    refine awl_v (av_lookup2_dm (kx := p1) (r := .tup [.dm Y1 (.raw ifN) ((mget p0.1 p1).getD []), .bool ((mget p0.1 p1).isSome)]) und53 kt3 zw52 rfl rfl rfl rfl) ?_
    refine awl_v (av_move rfl) ?_
    refine awl_v (av_extract rfl rfl) ?_
    refine awl_v (av_extract rfl rfl) ?_
    refine awl_v (av_assign rfl) ?_
    refine awl_v (av_assign rfl) ?_
    refine awl_nil (athen_norm (awc_seq ?_))
    refine awc_region ?_
    refine awl_v (av_move rfl) ?_
    refine awl_v (av_not rfl) ?_
    refine awl_nil (athen_norm ?_)
    refine awc_cond (b := !((mget p0.1 p1).isSome)) rfl (fun hc3 => ?_) (fun hc3 => ?_)
    · have hr := if_t hc3 hr
      refine awc_seq ?_
      refine awc_region ?_
      refine awl_v (av_assign rfl) ?_
      have hr := Option.some.inj hr
      subst hr
      exact awl_nil (athen_norm (awc_ret (athen_ret (ret_q (l' := [(6, .int .i64 7)]) (wk_of hX [] 4 rfl rfl ⟨⟨_, rfl, cv0⟩, trivial⟩ trivial) rfl ⟨rfl, trivial⟩))))
    · have hr := if_f hc3 hr
      refine awc_skip (athen_norm (awc_seq ?_))
      refine awc_region ?_
      refine awl_v (av_assign rfl) ?_
      have hr := Option.some.inj hr
      subst hr
      exact awl_nil (athen_norm (awc_ret (ret_q (l' := [(6, .int .i64 0)]) (wk_of hX [] 4 rfl rfl ⟨⟨_, rfl, cv0⟩, trivial⟩ trivial) rfl ⟨rfl, trivial⟩)))
theorem f27_runs {p0 : List (Int × (List ((Str × Str) × Cell1))) × Int × Int} {p1 : Int} {p2 : List (Str × Str)} {r : (List ((Str × Str) × Cell1)) × (Int × Int) × Int} (hr : f27 p0 p1 p2 = some r) : RunsP Try.prog 27 [.rp [.dm (.int .i64) (.map Y1 (.raw ifN)) p0.1, .int .i64 p0.2.1, .int .i64 p0.2.2], .int .i64 p1, .sl Y1 p2] [.dm Y1 (.raw ifN) r.1, .agg [.int .i64 r.2.1.1, .int .i64 r.2.1.2], .int .i64 r.2.2] := by
  refine runs_w Try.func27 Try.ntmps27 rfl (rs := [.tmp 6, .cell 7 38, .tmp 8]) rfl rfl fun w0 X hX => ?_
  refine awc_seq ?_
  refine awc_region ?_
  refine awl_v (av_assign rfl) ?_
  refine awl_op (aop_alloc zero38 rfl ?_)
  refine awl_v (av_assign rfl) ?_
  refine awl_nil (athen_norm (awc_seq ?_))
  refine awc_region ?_
  refine awl_v (av_move rfl) ?_
  refine awl_v (av_nilCheck_rp rfl) ?_
  refine awl_v (av_fa_rp fa55_0 rfl rfl) ?_
  refine awl_v (av_load_rp ts53 rfl) ?_
  refine awl_v (av_move rfl) ?_
  refine awl_v (av_lookup_dm (kx := p1) (r := .dm Y1 (.raw ifN) ((mget p0.1 p1).getD [])) und53 kt3 zw52 rfl rfl rfl rfl) ?_
  refine awl_v (av_assign rfl) ?_
  refine awl_nil (athen_norm (awc_seq (awc_seq ?_)))
  refine awc_region ?_
  refine awl_v (av_move rfl) ?_
  refine awl_v (av_move rfl) ?_
  refine awl_v (av_len_sl (t := Y1) rfl rfl und22 rfl) ?_
  refine awl_v (av_sub rfl rfl) ?_
  obtain ⟨h1, hr⟩ := chk_some hr
  refine awl_v (av_slice_sl (t := Y1) (l := 0) (h := (w64 ((List.length p2 : Int) - 1))) und22 sz25 rfl rfl ⟨_, rfl⟩ h1) ?_
  refine awl_v (av_len_sl (t := Y1) rfl rfl und22 rfl) ?_
  refine awl_v (av_move rfl) ?_
  refine awl_nil (athen_norm (awc_block ?_))
  obtain ⟨o10, e11, hr⟩ := bnd_some hr
  refine awc_len (t := 27) rfl (fun hl => ?_)
  refine awc_range (S := (List ((Str × Str) × Cell1))) (R := Int × Int × Int) (List.length ((p2.take (Int.toNat (w64 ((List.length p2 : Int) - 1)))).drop (Int.toNat 0)) : Int) (f27_b0 p0 p2) (fun p => match p with | (i2, s3) => (⟨[(0, .rp [.dm (.int .i64) (.map Y1 (.raw ifN)) p0.1, .int .i64 p0.2.1, .int .i64 p0.2.2]), (6, .nilm), (7, .ptr 0 0), (8, .int .i64 0), (9, .dm Y1 (.raw ifN) s3), (27, .sl Y1 ((p2.take (Int.toNat (w64 ((List.length p2 : Int) - 1)))).drop (Int.toNat 0))), (28, .int .i64 (List.length ((p2.take (Int.toNat (w64 ((List.length p2 : Int) - 1)))).drop (Int.toNat 0)) : Int)), (29, .int .i64 i2)], [(0, .var 38 [.int .i64 0, .int .i64 0])], 1⟩ : AS)) (fun o e st => match o with | .inl s3 => e = .exit 0 ∧ Wk X st ⟨[(6, .nilm), (7, .ptr 0 0), (8, .int .i64 0), (9, .dm Y1 (.raw ifN) s3)], [(0, .var 38 [.int .i64 0, .int .i64 0])], 1⟩ | .inr (s7, s8, s9) => e = .ret ∧ Wk X st ⟨[(6, .nilm), (7, .ptr 0 0), (8, .int .i64 s7)], [(0, .var 38 [.int .i64 s8, .int .i64 s9])], 1⟩) (len_ok hl) e11 (wk_of hX [0] 4 rfl rfl ⟨⟨_, rfl, cv0⟩, ⟨_, rfl, cv0⟩, ⟨_, rfl, cv0⟩, ⟨_, rfl, cv0⟩, ⟨_, rfl, cv0⟩, ⟨_, rfl, cv0⟩, ⟨_, rfl, cv0⟩, ⟨_, rfl, cv0⟩, trivial⟩ ⟨cvo0, trivial⟩) ?_ ?_
  · intro e st hx
    rcases o10 with s3 | ⟨s7, s8, s9⟩
    · obtain ⟨rfl, hw⟩ := hx
      refine ablock_here (athen_norm ((awc_wk hw) (awc_seq ?_)))
      refine awc_region ?_
      refine awl_v (av_move rfl) ?_
      refine awl_v (av_build (qs := []) (cs := [.int .i64 0, .int .i64 0]) bt38 rfl rfl rfl) ?_
      refine awl_v (av_assign rfl) ?_
      refine awl_op (aop_store sz38 rfl rfl rfl rfl rfl rfl rfl ?_)
      refine awl_v (av_assign rfl) ?_
      have hr := Option.some.inj hr
      subst hr
      exact awl_nil (athen_norm (awc_ret (ret_q (l' := [(6, .dm Y1 (.raw ifN) s3), (7, .rp [.int .i64 0, .int .i64 0]), (8, .int .i64 0)]) (wk_of hX [] 4 rfl rfl ⟨⟨_, rfl, cv0⟩, ⟨_, rfl, cv0⟩, ⟨_, rfl, cv0⟩, trivial⟩ trivial) rfl ⟨rfl, (.inr ⟨_, 2, rfl, ts38, rfl, rfl⟩), rfl, trivial⟩)))
    · obtain ⟨rfl, hw⟩ := hx
      have hr := Option.some.inj hr
      subst hr
      exact ablock_ret (athen_ret (ret_q (l' := [(6, .dm Y1 (.raw ifN) []), (7, .rp [.int .i64 s8, .int .i64 s9]), (8, .int .i64 s7)]) (Wk.trans hw (wk_of hX [] 4 rfl rfl ⟨⟨_, rfl, cv7⟩, ⟨_, rfl, cv0⟩, ⟨_, rfl, cv0⟩, trivial⟩ trivial)) rfl ⟨rfl, (.inr ⟨_, 2, rfl, ts38, rfl, rfl⟩), rfl, trivial⟩))
  · rintro i2 s3 o ho
    refine awc_seq ?_
    refine awc_region ?_
    refine awl_v (av_lss rfl rfl) ?_
    refine awl_nil (athen_norm (awc_seq ?_))
    refine awc_cond (b := decide (i2 < (List.length ((p2.take (Int.toNat (w64 ((List.length p2 : Int) - 1)))).drop (Int.toNat 0)) : Int))) rfl (fun hc12 => ?_) (fun hc12 => ?_)
    · obtain ⟨q, hr, rfl⟩ := rb_t hc12 ho
      refine awc_skip (athen_norm ?_)
      obtain ⟨o16, e17, hr⟩ := bnd_some hr
      refine awc_join (S := (List ((Str × Str) × Cell1))) (R := Int × Int) (fun s => match s with | s13 => (⟨[(0, .rp [.dm (.int .i64) (.map Y1 (.raw ifN)) p0.1, .int .i64 p0.2.1, .int .i64 p0.2.2]), (6, .nilm), (7, .ptr 0 0), (8, .int .i64 0), (9, .dm Y1 (.raw ifN) s13), (27, .sl Y1 ((p2.take (Int.toNat (w64 ((List.length p2 : Int) - 1)))).drop (Int.toNat 0))), (28, .int .i64 (List.length ((p2.take (Int.toNat (w64 ((List.length p2 : Int) - 1)))).drop (Int.toNat 0)) : Int)), (29, .int .i64 i2)], [(0, .var 38 [.int .i64 0, .int .i64 0])], 1⟩ : AS)) (fun r e st => match r with | (s14, s15) => e = .ret ∧ Wk X st ⟨[(6, .nilm), (7, .ptr 0 0), (8, .int .i64 s14)], [(0, .var 38 [.int .i64 i2, .int .i64 s15])], 1⟩) e17 (fun hr => ?_) ?_ ?_
      · refine awc_block (awc_seq ?_)
        refine awc_region ?_
        refine awl_v (av_move rfl) ?_
        obtain ⟨x18, e19, hr⟩ := bnd_some hr
        refine awl_v (av_ia_sl (t := Y1) (e := x18) und22 sz25 rfl rfl e19) ?_
        refine awl_v (av_load_rpN ts25 rfl rfl rfl) ?_
        refine awl_op (aop_alloc zero25 rfl ?_)
        refine awl_v (av_assign rfl) ?_
        refine awl_op (aop_store sz25 rfl rfl rfl rfl rfl rfl rfl ?_)
        refine awl_nil (athen_norm (awc_seq ?_))
        refine awc_region ?_
        refine awl_v (av_move rfl) ?_
        refine awl_v (av_load_ptrN ts25 rfl rfl rfl rfl) ?_
        refine awl_v (av_lookup_dm (kx := x18) (r := .val ((mget s3 x18).getD ifN).1) und52 kt25 zw62 rfl rfl rfl rfl) ?_
        refine awl_nil (athen_norm (awc_block (awc_seq ?_)))
        refine awc_region ?_
        obtain ⟨h20, hr⟩ := chk_some hr
        refine awl_v (av_ifnil (c := ((mget s3 x18).getD ifN)) unI62 rfl rfl h20) ?_
        refine awl_nil (athen_norm ?_)
        refine awc_cond (b := (isN ((mget s3 x18).getD ifN))) rfl (fun hc21 => ?_) (fun hc21 => ?_)
        · have hr := if_t hc21 hr
          refine awc_seq ?_
          refine awc_region ?_
          refine awl_v (av_assign rfl) ?_
          refine awl_nil (athen_norm (awc_seq ?_))
          refine awc_region ?_
          refine awl_v (av_move rfl) ?_
          refine awl_v (av_build (qs := [(0, [.int .i64 i2]), (1, [.int .i64 1])]) (cs := [.int .i64 i2, .int .i64 1]) bt38 rfl rfl rfl) ?_
          refine awl_v (av_assign rfl) ?_
          refine awl_op (aop_store sz38 rfl rfl rfl rfl rfl rfl rfl ?_)
          refine awl_v (av_assign rfl) ?_
          have hr := Option.some.inj hr
          subst hr
          exact awl_nil (athen_norm (awc_ret (ablock_ret (ablock_ret (⟨rfl, (wk_of hX [0] 4 rfl rfl ⟨⟨_, rfl, cv0⟩, ⟨_, rfl, cv0⟩, ⟨_, rfl, cv0⟩, trivial⟩ ⟨cvo0, trivial⟩)⟩)))))
        · have hr := if_f hc21 hr
          refine awc_seq ?_
          refine awc_region ?_
          obtain ⟨x22, e23, hr⟩ := bnd_some hr
          refine awl_v (av_assertS (c := ((mget s3 x18).getD ifN)) und75 zero75 rfl e23) ?_
          refine awl_v (av_extract rfl rfl) ?_
          refine awl_v (av_extract rfl rfl) ?_
          refine awl_nil (athen_norm ?_)
          refine awc_cond (b := x22.2) rfl (fun hc24 => ?_) (fun hc24 => ?_)
          · have hr := if_t hc24 hr
            refine awc_seq ?_
            refine awc_region ?_
            refine awl_v (av_assign rfl) ?_
            refine awl_nil (athen_norm (awc_seq ?_))
            refine awc_region ?_
            refine awl_v (av_move rfl) ?_
            refine awl_v (av_build (qs := [(0, [.int .i64 i2]), (1, [.int .i64 2])]) (cs := [.int .i64 i2, .int .i64 2]) bt38 rfl rfl rfl) ?_
            refine awl_v (av_assign rfl) ?_
            refine awl_op (aop_store sz38 rfl rfl rfl rfl rfl rfl rfl ?_)
            refine awl_v (av_assign rfl) ?_
            have hr := Option.some.inj hr
            subst hr
            exact awl_nil (athen_norm (awc_ret (ablock_ret (ablock_ret (⟨rfl, (wk_of hX [0] 4 rfl rfl ⟨⟨_, rfl, cv0⟩, ⟨_, rfl, cv0⟩, ⟨_, rfl, cv0⟩, trivial⟩ ⟨cvo0, trivial⟩)⟩)))))
          · have hr := if_f hc24 hr
            refine awc_seq ?_
            refine awc_region ?_
            obtain ⟨x25, e26, hr⟩ := bnd_some hr
            refine awl_v (av_assertI (c := ((mget s3 x18).getD ifN)) und57 zero57 rfl e26) ?_
            refine awl_v (av_extract rfl rfl) ?_
            refine awl_v (av_extract rfl rfl) ?_
            refine awl_nil (athen_norm ?_)
            refine awc_cond (b := x25.2) rfl (fun hc27 => ?_) (fun hc27 => ?_)
            · have hr := if_t hc27 hr
              refine awc_seq ?_
              refine awc_region ?_
              refine awl_v (av_assign rfl) ?_
              refine awl_nil (athen_norm (awc_seq ?_))
              refine awc_region ?_
              refine awl_v (av_move rfl) ?_
              refine awl_v (av_nilCheck_rp rfl) ?_
              refine awl_v (av_fa_rp fa55_0 rfl rfl) ?_
              refine awl_v (av_load_rp ts53 rfl) ?_
              refine awl_v (av_move rfl) ?_
              refine awl_v (av_lookup2_dm (kx := x25.1) (r := .tup [.dm Y1 (.raw ifN) ((mget p0.1 x25.1).getD []), .bool ((mget p0.1 x25.1).isSome)]) und53 kt3 zw52 rfl rfl rfl rfl) ?_
              refine awl_v (av_move rfl) ?_
              refine awl_v (av_extract rfl rfl) ?_
              refine awl_v (av_extract rfl rfl) ?_
              refine awl_v (av_assign rfl) ?_
              refine awl_v (av_assign rfl) ?_
              refine awl_nil (athen_norm (awc_seq (awc_seq ?_)))
              refine awc_region ?_
              refine awl_v (av_move rfl) ?_
              refine awl_v (av_not rfl) ?_
              refine awl_nil (athen_norm ?_)
              refine awc_cond (b := !((mget p0.1 x25.1).isSome)) rfl (fun hc28 => ?_) (fun hc28 => ?_)
              · have hr := if_t hc28 hr
                refine awc_seq ?_
                refine awc_region ?_
                refine awl_v (av_move rfl) ?_
                refine awl_v (av_build (qs := [(0, [.int .i64 i2]), (1, [.int .i64 1])]) (cs := [.int .i64 i2, .int .i64 1]) bt38 rfl rfl rfl) ?_
                refine awl_v (av_assign rfl) ?_
                refine awl_op (aop_store sz38 rfl rfl rfl rfl rfl rfl rfl ?_)
                refine awl_v (av_assign rfl) ?_
                have hr := Option.some.inj hr
                subst hr
                exact awl_nil (athen_norm (awc_ret (athen_ret (ablock_ret (ablock_ret (⟨rfl, (wk_of hX [0] 4 rfl rfl ⟨⟨_, rfl, cv0⟩, ⟨_, rfl, cv0⟩, ⟨_, rfl, cv0⟩, trivial⟩ ⟨cvo0, trivial⟩)⟩))))))
              · have hr := if_f hc28 hr
                refine awc_skip (athen_norm ?_)
                refine awc_region ?_
                refine awl_v (av_move rfl) ?_
                refine awl_v (av_assign rfl) ?_
                have hr := Option.some.inj hr
                subst hr
                exact awl_nil (ablock_norm (ablock_norm ((wk_of hX [0] 4 rfl rfl ⟨⟨_, rfl, cv0⟩, ⟨_, rfl, cv0⟩, ⟨_, rfl, cv0⟩, ⟨_, rfl, cv0⟩, ⟨_, rfl, cv0⟩, ⟨_, rfl, cv0⟩, ⟨_, rfl, cv0⟩, ⟨_, rfl, cv0⟩, trivial⟩ ⟨cvo0, trivial⟩))))
            · have hr := if_f hc27 hr
              have hr := Option.some.inj hr
              subst hr
              exact awc_skip (ablock_norm (ablock_norm ((wk_of hX [0] 4 rfl rfl ⟨⟨_, rfl, cv0⟩, ⟨_, rfl, cv0⟩, ⟨_, rfl, cv0⟩, ⟨_, rfl, cv0⟩, ⟨_, rfl, cv0⟩, ⟨_, rfl, cv0⟩, ⟨_, rfl, cv0⟩, ⟨_, rfl, cv0⟩, trivial⟩ ⟨cvo0, trivial⟩))))
      · rintro s13 rfl
        refine awc_region ?_
        refine awl_v (av_add rfl rfl) ?_
        refine awl_v (av_move rfl) ?_
        have hr := Option.some.inj hr
        subst hr
        exact awl_nil ((wk_of hX [0] 4 rfl rfl ⟨⟨_, rfl, cv0⟩, ⟨_, rfl, cv0⟩, ⟨_, rfl, cv0⟩, ⟨_, rfl, cv0⟩, ⟨_, rfl, cv0⟩, ⟨_, rfl, cv0⟩, ⟨_, rfl, cv0⟩, ⟨_, rfl, cv0⟩, trivial⟩ ⟨cvo0, trivial⟩))
      · rintro r rfl e st hne hx
        obtain ⟨s14, s15⟩ := r
        obtain ⟨rfl, hw⟩ := hx
        have hr := Option.some.inj hr
        subst hr
        exact ⟨rfl, (Wk.trans hw (wk_of hX [0] 4 rfl rfl ⟨⟨_, rfl, cv0⟩, ⟨_, rfl, cv0⟩, ⟨_, rfl, cv0⟩, trivial⟩ ⟨cvo0, trivial⟩))⟩
    · obtain rfl := rb_f hc12 ho
      exact awc_exit (athen_exit (⟨rfl, (wk_of hX [0] 4 rfl rfl ⟨⟨_, rfl, cv0⟩, ⟨_, rfl, cv0⟩, ⟨_, rfl, cv0⟩, ⟨_, rfl, cv0⟩, trivial⟩ ⟨cvo0, trivial⟩)⟩))
theorem f27o_get {p0 : List (Int × (List ((Str × Str) × Cell1))) × Int × Int} {p1 : Int} {p2 : List (Str × Str)} {r : List ((Str × Str) × Cell1)} (hr : f27o p0 p1 p2 = some r) : mget p0.1 p1 = some r := (chk_some hr).2
theorem f27o_runs {p0 : List (Int × (List ((Str × Str) × Cell1))) × Int × Int} {p1 : Int} {p2 : List (Str × Str)} {r : List ((Str × Str) × Cell1)} (hr : f27o p0 p1 p2 = some r) : Runs Try.prog 27 [.ptr 0 0, .int .i64 p1, .sl Y1 p2] [.tr (.pt 55 (.pair (.mp (.int .i64) (.mp Y1 (.dat (.raw ifN)))) (.pair (.dat (.int .i64)) (.dat (.int .i64))))) (some p0)] (fun q Hq => q = [.map 2, .agg [.int .i64 0, .int .i64 0], .int .i64 0] ∧ Hq = [.var 55 [.map 1, .int .i64 p0.2.1, .int .i64 p0.2.2], .mpt (.int .i64) (.mp Y1 (.dat (.raw ifN))) p0.1 [(p1, 2)], .map Y1 (.raw ifN) r]) := by
  have hg := f27o_get hr
  have hl := Nat.eq_of_beq_eq_true (chk_some hr).1
  obtain ⟨c, rfl⟩ := List.length_eq_one_iff.1 hl
  refine runs_w Try.func27 Try.ntmps27 rfl (rs := [.tmp 6, .cell 7 38, .tmp 8]) rfl rfl fun w0 X hX => ?_
  refine awc_wk (wk_opent (i := 0) [.map 1, .int .i64 p0.2.1, .int .i64 p0.2.2] [.mpt (.int .i64) (.mp Y1 (.dat (.raw ifN))) p0.1 []] rfl rfl rfl rfl) ?_
  refine awc_wk (wk_open (i := 1) (kx := p1) (yx := r) [.map Y1 (.raw ifN) r] rfl rfl hg (fun n h => by cases h) rfl rfl) ?_
  refine awc_seq ?_
  refine awc_region ?_
  refine awl_v (av_assign rfl) ?_
  refine awl_op (aop_alloc zero38 rfl ?_)
  refine awl_v (av_assign rfl) ?_
  refine awl_nil (athen_norm (awc_seq ?_))
  refine awc_region ?_
  refine awl_v (av_move rfl) ?_
  refine awl_v (av_nilCheck_ptr rfl) ?_
  refine awl_v (av_fa_ptr fa55_0 rfl rfl) ?_
  refine awl_v (av_load_ptr ts53 rfl rfl rfl) ?_
  refine awl_v (av_move rfl) ?_
  refine awl_v (av_look_own (n := 2) (kx := p1) (yx := r) (av := .map 2) (r := .map 2) (ok := false) und53 kt3 zero52 rfl rfl rfl rfl (List.mem_cons.2 (.inl rfl)) hg (.inl rfl) rfl) ?_
  refine awl_v (av_assign rfl) ?_
  refine awl_nil (athen_norm (awc_seq (awc_seq ?_)))
  refine awc_region ?_
  refine awl_v (av_move rfl) ?_
  refine awl_v (av_move rfl) ?_
  refine awl_v (av_len_sl (t := Y1) rfl rfl und22 rfl) ?_
  refine awl_v (av_sub rfl rfl) ?_
  refine awl_v (av_slice_sl (t := Y1) (l := 0) (h := (w64 ((List.length [c] : Int) - 1))) und22 sz25 rfl rfl ⟨_, rfl⟩ rfl) ?_
  refine awl_v (av_len_sl (t := Y1) rfl rfl und22 rfl) ?_
  refine awl_v (av_move rfl) ?_
  refine awl_nil (athen_norm (awc_block ?_))
  refine awc_range (S := Unit) (R := Unit) (0 : Int) (fun _ _ => none) (fun p => (⟨[(6, .nilm), (7, .ptr 3 0), (8, .int .i64 0), (9, .map 2), (28, .int .i64 0), (29, .int .i64 p.1)], [(0, .var 55 [.map 1, .int .i64 p0.2.1, .int .i64 p0.2.2]), (1, .mpt (.int .i64) (.mp Y1 (.dat (.raw ifN))) p0.1 [(p1, 2)]), (2, .map Y1 (.raw ifN) r), (3, .var 38 [.int .i64 0, .int .i64 0])], 4⟩ : AS)) (fun _ e st => e = .exit 0 ∧ Wk X st ⟨[(6, .nilm), (7, .ptr 3 0), (8, .int .i64 0), (9, .map 2)], [(0, .var 55 [.map 1, .int .i64 p0.2.1, .int .i64 p0.2.2]), (1, .mpt (.int .i64) (.mp Y1 (.dat (.raw ifN))) p0.1 [(p1, 2)]), (2, .map Y1 (.raw ifN) r), (3, .var 38 [.int .i64 0, .int .i64 0])], 4⟩) (by decide) (o := .inl ()) (s := ()) rfl (wk_of hX [0, 1, 2, 3] 4 rfl rfl ⟨⟨_, rfl, cv0⟩, ⟨_, rfl, cv0⟩, ⟨_, rfl, cv0⟩, ⟨_, rfl, cv0⟩, ⟨_, rfl, cv0⟩, ⟨_, rfl, cv0⟩, trivial⟩ ⟨cvo0, cvo0, cvo0, cvo0, trivial⟩) ?_ ?_
  · rintro e st ⟨rfl, hw⟩
    refine ablock_here (athen_norm ((awc_wk hw) (awc_seq ?_)))
    refine awc_region ?_
    refine awl_v (av_move rfl) ?_
    refine awl_v (av_build (qs := []) (cs := [.int .i64 0, .int .i64 0]) bt38 rfl rfl rfl) ?_
    refine awl_v (av_assign rfl) ?_
    refine awl_op (aop_store sz38 rfl rfl rfl rfl rfl rfl rfl ?_)
    refine awl_v (av_assign rfl) ?_
    exact awl_nil (athen_norm (awc_ret (ret_o (l' := [(6, .map 2), (7, .rp [.int .i64 0, .int .i64 0]), (8, .int .i64 0)]) (Hs := [(0, .var 55 [.map 1, .int .i64 p0.2.1, .int .i64 p0.2.2]), (1, .mpt (.int .i64) (.mp Y1 (.dat (.raw ifN))) p0.1 [(p1, 2)]), (2, .map Y1 (.raw ifN) r)]) (n := 3) (wk_of hX [0, 1, 2] 4 rfl rfl ⟨⟨_, rfl, cv0⟩, ⟨_, rfl, cv0⟩, ⟨_, rfl, cv0⟩, trivial⟩ ⟨cvo0, cvo0, cvo0, trivial⟩) rfl rfl rfl ⟨rfl, (.inr ⟨_, 2, rfl, ts38, rfl, rfl⟩), rfl, trivial⟩)))
  · rintro i u o ho
    refine awc_seq ?_
    refine awc_region ?_
    refine awl_v (av_lss rfl rfl) ?_
    refine awl_nil (athen_norm (awc_seq ?_))
    refine awc_cond (b := decide (i < 0)) rfl (fun hc => ?_) (fun hc => ?_)
    · obtain ⟨q, hr, rfl⟩ := rb_t hc ho; cases hr
    · obtain rfl := rb_f hc ho
      exact awc_exit (athen_exit (⟨rfl, (wk_of hX [0, 1, 2, 3] 4 rfl rfl ⟨⟨_, rfl, cv0⟩, ⟨_, rfl, cv0⟩, ⟨_, rfl, cv0⟩, ⟨_, rfl, cv0⟩, trivial⟩ ⟨cvo0, cvo0, cvo0, cvo0, trivial⟩)⟩))
theorem f25_runs {p0_0 : List (Int × (List ((Str × Str) × Cell1))) × Int × Int} {p1 : Int} {p2 : List (Str × Str)} {p3 : Cell1} {p4 : Bool} {r : (Int × Int) × Int × (List (Int × (List ((Str × Str) × Cell1))) × Int × Int)} (hr : f25 p0_0 p1 p2 p3 p4 = some r) : Runs Try.prog 25 [.ptr 0 0, .int .i64 p1, .sl Y1 p2, .val p3.1, .bool p4] [.tr (.pt 55 (.pair (.mp (.int .i64) (.mp Y1 (.dat (.raw ifN)))) (.pair (.dat (.int .i64)) (.dat (.int .i64))))) (some p0_0)] (fun q Hq => q = [.agg [.int .i64 r.1.1, .int .i64 r.1.2], .int .i64 r.2.1] ∧ Hq = [.tr (.pt 55 (.pair (.mp (.int .i64) (.mp Y1 (.dat (.raw ifN)))) (.pair (.dat (.int .i64)) (.dat (.int .i64))))) (some r.2.2)]) := by
  refine runs_w Try.func25 Try.ntmps25 rfl (rs := [.cell 10 38, .tmp 11]) rfl rfl fun w0 X hX => ?_
  refine awc_seq ?_
  refine awc_region ?_
  refine awl_wk (wk_of (st' := ⟨[(0, .ptr 0 0), (1, .int .i64 p1), (2, .sl Y1 p2), (3, .val p3.1), (4, .bool p4)], [(0, .tr (.pt 55 (.pair (.mp (.int .i64) (.mp Y1 (.dat (.raw ifN)))) (.pair (.dat (.int .i64)) (.dat (.int .i64))))) (some p0_0))], 1⟩) hX [0] 4 rfl rfl ⟨⟨_, rfl, cv0⟩, ⟨_, rfl, cv0⟩, ⟨_, rfl, cv0⟩, ⟨_, rfl, cv0⟩, ⟨_, rfl, cv0⟩, trivial⟩ ⟨cvo0, trivial⟩) ?_
  refine awl_op (aop_alloc zero38 rfl ?_)
  refine awl_v (av_assign rfl) ?_
  refine awl_nil (athen_norm (awc_seq (awc_seq ?_)))
  refine awc_region ?_
  refine awl_v (av_move rfl) ?_
  refine awl_v (av_move rfl) ?_
  refine awl_v (av_move rfl) ?_
  refine awl_wk (wk_opent (i := 0) [.map 2, .int .i64 p0_0.2.1, .int .i64 p0_0.2.2] [.mpt (.int .i64) (.mp Y1 (.dat (.raw ifN))) p0_0.1 []] rfl rfl rfl rfl) ?_
  obtain ⟨x2, e3, hr⟩ := bnd_some hr
  refine awl_v (av_callB (as' := [.ptr 0 0, .int .i64 p1, .sl Y1 p2]) (f26_runs e3).x ent26 rfl ⟨cv0, cv0, cv0, trivial⟩ rfl rfl) ?_
  refine awl_v (av_assign rfl) ?_
  refine awl_nil (athen_norm (awc_seq ?_))
  refine awc_region ?_
  refine awl_v (av_move rfl) ?_
  refine awl_v (av_neq rfl rfl) ?_
  refine awl_nil (athen_norm ?_)
  refine awc_cond (b := !decide (x2 = 0)) rfl (fun hc4 => ?_) (fun hc4 => ?_)
  · have hr := if_t hc4 hr
    refine awc_seq ?_
    refine awc_region ?_
    refine awl_v (av_build (qs := []) (cs := [.int .i64 0, .int .i64 0]) bt38 rfl rfl rfl) ?_
    refine awl_v (av_move rfl) ?_
    refine awl_op (aop_store sz38 rfl rfl rfl rfl rfl rfl rfl ?_)
    refine awl_v (av_assign rfl) ?_
    have hr := Option.some.inj hr
    subst hr
    exact awl_nil (athen_norm (awc_ret (athen_ret (ret_o (l' := [(10, .rp [.int .i64 0, .int .i64 0]), (11, .int .i64 x2)]) (Hs := [(0, .tr (.pt 55 (.pair (.mp (.int .i64) (.mp Y1 (.dat (.raw ifN)))) (.pair (.dat (.int .i64)) (.dat (.int .i64))))) (some p0_0))]) (n := 1) (Wk.trans (wk_packt (i := 0) (T := 55) (e := (.pair (.mp (.int .i64) (.mp Y1 (.dat (.raw ifN)))) (.pair (.dat (.int .i64)) (.dat (.int .i64))))) (js := [2]) p0_0 rfl (⟨[.map 2], [.int .i64 p0_0.2.1, .int .i64 p0_0.2.2], [2], [], rfl, rfl, ⟨2, rfl, rfl, rfl⟩, ⟨[.int .i64 p0_0.2.1], [.int .i64 p0_0.2.2], [], [], rfl, rfl, ⟨rfl, rfl, rfl⟩, ⟨rfl, rfl, rfl⟩⟩⟩) rfl) (wk_of hX [0] 4 rfl rfl ⟨⟨_, rfl, cv0⟩, ⟨_, rfl, cv0⟩, trivial⟩ ⟨cvo0, trivial⟩)) rfl rfl rfl ⟨(.inr ⟨_, 2, rfl, ts38, rfl, rfl⟩), rfl, trivial⟩))))
  · have hr := if_f hc4 hr
    refine awc_skip (athen_norm ?_)
    obtain ⟨o6, e7, hr⟩ := bnd_some hr
    refine awc_join (S := Unit) (R := Int) (fun s => match s with | () => (⟨[(0, .ptr 0 0), (1, .int .i64 p1), (2, .sl Y1 p2), (3, .val p3.1), (4, .bool p4), (10, .ptr 1 0), (11, .int .i64 0)], [(0, .tr (.pt 55 (.pair (.mp (.int .i64) (.mp Y1 (.dat (.raw ifN)))) (.pair (.dat (.int .i64)) (.dat (.int .i64))))) (some p0_0)), (1, .var 38 [.int .i64 0, .int .i64 0])], 2⟩ : AS)) (fun r e st => match r with | s5 => e = .ret ∧ Wk X st ⟨[(10, .ptr 1 0), (11, .int .i64 s5)], [(0, .tr (.pt 55 (.pair (.mp (.int .i64) (.mp Y1 (.dat (.raw ifN)))) (.pair (.dat (.int .i64)) (.dat (.int .i64))))) (some p0_0)), (1, .var 38 [.int .i64 0, .int .i64 0])], 2⟩) e7 (fun hr => ?_) ?_ ?_
    · refine awc_seq ?_
      refine awc_region ?_
      refine awl_wk (wk_of (st' := ⟨[(0, .ptr 0 0), (1, .int .i64 p1), (2, .sl Y1 p2), (3, .val p3.1), (4, .bool p4), (10, .ptr 1 0), (11, .int .i64 0)], [(0, .var 55 [.map 2, .int .i64 p0_0.2.1, .int .i64 p0_0.2.2]), (1, .var 38 [.int .i64 0, .int .i64 0]), (2, .mpt (.int .i64) (.mp Y1 (.dat (.raw ifN))) p0_0.1 [])], 3⟩) hX [0, 1, 2] 4 rfl rfl ⟨⟨_, rfl, cv0⟩, ⟨_, rfl, cv0⟩, ⟨_, rfl, cv0⟩, ⟨_, rfl, cv0⟩, ⟨_, rfl, cv0⟩, ⟨_, rfl, cv0⟩, ⟨_, rfl, cv0⟩, trivial⟩ ⟨cvo0, cvo0, cvo0, trivial⟩) ?_
      refine awl_v (av_move rfl) ?_
      refine awl_nil (athen_norm (awc_block (awc_seq ?_)))
      refine awc_region ?_
      obtain ⟨x8, e9, hr⟩ := bnd_some hr
      refine awl_v (av_assertS (c := p3) und75 zero75 rfl e9) ?_
      refine awl_v (av_extract rfl rfl) ?_
      refine awl_v (av_extract rfl rfl) ?_
      refine awl_nil (athen_norm ?_)
      refine awc_cond (b := x8.2) rfl (fun hc10 => ?_) (fun hc10 => ?_)
      · have hr := if_t hc10 hr
        refine awc_seq ?_
        refine awc_region ?_
        refine awl_v (av_assign rfl) ?_
        refine awl_nil (athen_norm (awc_seq ?_))
        refine awc_region ?_
        refine awl_v (av_move rfl) ?_
        refine awl_v (av_len_str rfl rfl und75 rfl) ?_
        refine awl_v (av_gtr rfl rfl) ?_
        refine awl_nil (athen_norm ?_)
        refine awc_cond (b := decide (65536 < (List.length x8.1 : Int))) rfl (fun hc11 => ?_) (fun hc11 => ?_)
        · have hr := if_t hc11 hr
          refine awc_seq ?_
          refine awc_region ?_
          refine awl_v (av_build (qs := []) (cs := [.int .i64 0, .int .i64 0]) bt38 rfl rfl rfl) ?_
          refine awl_op (aop_store sz38 rfl rfl rfl rfl rfl rfl rfl ?_)
          refine awl_v (av_assign rfl) ?_
          have hr := Option.some.inj hr
          subst hr
          exact awl_nil (athen_norm (awc_ret (ablock_ret (⟨rfl, (Wk.trans (wk_packt (i := 0) (T := 55) (e := (.pair (.mp (.int .i64) (.mp Y1 (.dat (.raw ifN)))) (.pair (.dat (.int .i64)) (.dat (.int .i64))))) (js := [2]) p0_0 rfl (⟨[.map 2], [.int .i64 p0_0.2.1, .int .i64 p0_0.2.2], [2], [], rfl, rfl, ⟨2, rfl, rfl, rfl⟩, ⟨[.int .i64 p0_0.2.1], [.int .i64 p0_0.2.2], [], [], rfl, rfl, ⟨rfl, rfl, rfl⟩, ⟨rfl, rfl, rfl⟩⟩⟩) rfl) (wk_of hX [0, 1] 4 rfl rfl ⟨⟨_, rfl, cv0⟩, ⟨_, rfl, cv0⟩, trivial⟩ ⟨cvo0, cvo0, trivial⟩))⟩))))
        · have hr := if_f hc11 hr
          have hr := Option.some.inj hr
          subst hr
          exact awc_skip (ablock_norm ((Wk.trans (wk_packt (i := 0) (T := 55) (e := (.pair (.mp (.int .i64) (.mp Y1 (.dat (.raw ifN)))) (.pair (.dat (.int .i64)) (.dat (.int .i64))))) (js := [2]) p0_0 rfl (⟨[.map 2], [.int .i64 p0_0.2.1, .int .i64 p0_0.2.2], [2], [], rfl, rfl, ⟨2, rfl, rfl, rfl⟩, ⟨[.int .i64 p0_0.2.1], [.int .i64 p0_0.2.2], [], [], rfl, rfl, ⟨rfl, rfl, rfl⟩, ⟨rfl, rfl, rfl⟩⟩⟩) rfl) (wk_of hX [0, 1] 4 rfl rfl ⟨⟨_, rfl, cv0⟩, ⟨_, rfl, cv0⟩, ⟨_, rfl, cv0⟩, ⟨_, rfl, cv0⟩, ⟨_, rfl, cv0⟩, ⟨_, rfl, cv0⟩, ⟨_, rfl, cv0⟩, trivial⟩ ⟨cvo0, cvo0, trivial⟩))))
      · have hr := if_f hc10 hr
        refine awc_seq ?_
        refine awc_region ?_
        refine awl_wk (wk_of (st' := ⟨[(0, .ptr 0 0), (1, .int .i64 p1), (2, .sl Y1 p2), (3, .val p3.1), (4, .bool p4), (10, .ptr 1 0), (11, .int .i64 0), (31, .val p3.1)], [(0, .var 55 [.map 2, .int .i64 p0_0.2.1, .int .i64 p0_0.2.2]), (1, .var 38 [.int .i64 0, .int .i64 0]), (2, .mpt (.int .i64) (.mp Y1 (.dat (.raw ifN))) p0_0.1 [])], 3⟩) hX [0, 1, 2] 4 rfl rfl ⟨⟨_, rfl, cv0⟩, ⟨_, rfl, cv0⟩, ⟨_, rfl, cv0⟩, ⟨_, rfl, cv0⟩, ⟨_, rfl, cv0⟩, ⟨_, rfl, cv0⟩, ⟨_, rfl, cv0⟩, ⟨_, rfl, cv0⟩, trivial⟩ ⟨cvo0, cvo0, cvo0, trivial⟩) ?_
        obtain ⟨x12, e13, hr⟩ := bnd_some hr
        refine awl_v (av_assertI (c := p3) und57 zero57 rfl e13) ?_
        refine awl_v (av_extract rfl rfl) ?_
        refine awl_v (av_extract rfl rfl) ?_
        refine awl_nil (athen_norm ?_)
        refine awc_cond (b := x12.2) rfl (fun hc14 => ?_) (fun hc14 => ?_)
        · have hr := if_t hc14 hr
          refine awc_seq ?_
          refine awc_region ?_
          refine awl_v (av_assign rfl) ?_
          refine awl_nil (athen_norm (awc_seq ?_))
          refine awc_region ?_
          refine awl_v (av_move rfl) ?_
          refine awl_v (av_nilCheck_ptr rfl) ?_
          refine awl_v (av_fa_ptr fa55_0 rfl rfl) ?_
          refine awl_v (av_load_ptr ts53 rfl rfl rfl) ?_
          refine awl_v (av_move rfl) ?_
          refine awl_v (av_look_any (kx := x12.1) und53 kt3 zero52 rfl rfl rfl rfl) ?_
          refine awl_v (av_move rfl) ?_
          refine awl_v (av_extract rfl rfl) ?_
          refine awl_v (av_extract rfl rfl) ?_
          refine awl_v (av_assign rfl) ?_
          refine awl_v (av_assign rfl) ?_
          refine awl_nil (athen_norm (awc_seq ?_))
          refine awc_region ?_
          refine awl_v (av_move rfl) ?_
          refine awl_v (av_not rfl) ?_
          refine awl_nil (athen_norm ?_)
          refine awc_cond (b := !((mget p0_0.1 x12.1).isSome)) rfl (fun hc15 => ?_) (fun hc15 => ?_)
          · have hr := if_t hc15 hr
            refine awc_seq ?_
            refine awc_region ?_
            refine awl_v (av_build (qs := []) (cs := [.int .i64 0, .int .i64 0]) bt38 rfl rfl rfl) ?_
            refine awl_op (aop_store sz38 rfl rfl rfl rfl rfl rfl rfl ?_)
            refine awl_v (av_assign rfl) ?_
            have hr := Option.some.inj hr
            subst hr
            exact awl_nil (athen_norm (awc_ret (ablock_ret (⟨rfl, (Wk.trans (wk_packt (i := 0) (T := 55) (e := (.pair (.mp (.int .i64) (.mp Y1 (.dat (.raw ifN)))) (.pair (.dat (.int .i64)) (.dat (.int .i64))))) (js := [2]) p0_0 rfl (⟨[.map 2], [.int .i64 p0_0.2.1, .int .i64 p0_0.2.2], [2], [], rfl, rfl, ⟨2, rfl, rfl, rfl⟩, ⟨[.int .i64 p0_0.2.1], [.int .i64 p0_0.2.2], [], [], rfl, rfl, ⟨rfl, rfl, rfl⟩, ⟨rfl, rfl, rfl⟩⟩⟩) rfl) (wk_of hX [0, 1] 4 rfl rfl ⟨⟨_, rfl, cv0⟩, ⟨_, rfl, cv0⟩, trivial⟩ ⟨cvo0, cvo0, trivial⟩))⟩))))
          · have hr := if_f hc15 hr
            have hr := Option.some.inj hr
            subst hr
            exact awc_skip (ablock_norm ((Wk.trans (wk_packt (i := 0) (T := 55) (e := (.pair (.mp (.int .i64) (.mp Y1 (.dat (.raw ifN)))) (.pair (.dat (.int .i64)) (.dat (.int .i64))))) (js := [2]) p0_0 rfl (⟨[.map 2], [.int .i64 p0_0.2.1, .int .i64 p0_0.2.2], [2], [], rfl, rfl, ⟨2, rfl, rfl, rfl⟩, ⟨[.int .i64 p0_0.2.1], [.int .i64 p0_0.2.2], [], [], rfl, rfl, ⟨rfl, rfl, rfl⟩, ⟨rfl, rfl, rfl⟩⟩⟩) rfl) (wk_of hX [0, 1] 4 rfl rfl ⟨⟨_, rfl, cv0⟩, ⟨_, rfl, cv0⟩, ⟨_, rfl, cv0⟩, ⟨_, rfl, cv0⟩, ⟨_, rfl, cv0⟩, ⟨_, rfl, cv0⟩, ⟨_, rfl, cv0⟩, trivial⟩ ⟨cvo0, cvo0, trivial⟩))))
        · have hr := if_f hc14 hr
          have hr := Option.some.inj hr
          subst hr
          exact awc_skip (ablock_norm ((Wk.trans (wk_packt (i := 0) (T := 55) (e := (.pair (.mp (.int .i64) (.mp Y1 (.dat (.raw ifN)))) (.pair (.dat (.int .i64)) (.dat (.int .i64))))) (js := [2]) p0_0 rfl (⟨[.map 2], [.int .i64 p0_0.2.1, .int .i64 p0_0.2.2], [2], [], rfl, rfl, ⟨2, rfl, rfl, rfl⟩, ⟨[.int .i64 p0_0.2.1], [.int .i64 p0_0.2.2], [], [], rfl, rfl, ⟨rfl, rfl, rfl⟩, ⟨rfl, rfl, rfl⟩⟩⟩) rfl) (wk_of hX [0, 1] 4 rfl rfl ⟨⟨_, rfl, cv0⟩, ⟨_, rfl, cv0⟩, ⟨_, rfl, cv0⟩, ⟨_, rfl, cv0⟩, ⟨_, rfl, cv0⟩, ⟨_, rfl, cv0⟩, ⟨_, rfl, cv0⟩, trivial⟩ ⟨cvo0, cvo0, trivial⟩))))
    · rintro _ rfl
      refine awc_seq ?_
      refine awc_region ?_
      refine awl_wk (wk_of (st' := ⟨[(0, .ptr 0 0), (1, .int .i64 p1), (2, .sl Y1 p2), (3, .val p3.1), (4, .bool p4), (10, .ptr 1 0), (11, .int .i64 0)], [(0, .tr (.pt 55 (.pair (.mp (.int .i64) (.mp Y1 (.dat (.raw ifN)))) (.pair (.dat (.int .i64)) (.dat (.int .i64))))) (some p0_0)), (1, .var 38 [.int .i64 0, .int .i64 0])], 2⟩) hX [0, 1] 4 rfl rfl ⟨⟨_, rfl, cv0⟩, ⟨_, rfl, cv0⟩, ⟨_, rfl, cv0⟩, ⟨_, rfl, cv0⟩, ⟨_, rfl, cv0⟩, ⟨_, rfl, cv0⟩, ⟨_, rfl, cv0⟩, trivial⟩ ⟨cvo0, cvo0, trivial⟩) ?_
      refine awl_v (av_move rfl) ?_
      refine awl_v (av_move rfl) ?_
      refine awl_v (av_move rfl) ?_
      obtain ⟨x16, e17, hr⟩ := bnd_some hr
      refine awl_op (aop_callO (σ := [0]) (as' := [.ptr 0 0, .int .i64 p1, .sl Y1 p2]) (f27o_runs e17).x ent27 rfl ⟨cv0, cv0, cv0, trivial⟩ rfl rfl rfl ?_)
      refine awl_v (av_move rfl) ?_
      refine awl_v (av_extract rfl rfl) ?_
      refine awl_v (av_extract rfl rfl) ?_
      refine awl_v (av_extract rfl rfl) ?_
      refine awl_op (aop_alloc zero38 rfl ?_)
      refine awl_v (av_assign rfl) ?_
      refine awl_op (aop_store sz38 rfl rfl rfl rfl rfl rfl rfl ?_)
      refine awl_v (av_assign rfl) ?_
      refine awl_nil (athen_norm (awc_seq (awc_seq ?_)))
      refine awc_region ?_
      refine awl_v (av_move rfl) ?_
      refine awl_v (av_neq rfl rfl) ?_
      refine awl_nil (athen_norm ?_)
      refine awc_cond (b := !decide (0 = 0)) rfl (fun hc18 => ?_) (fun hc18 => ?_)
      · have hr := if_t hc18 hr
        refine awc_seq ?_
        refine awc_region ?_
        refine awl_v (av_load_ptrN ts38 rfl rfl rfl rfl) ?_
        refine awl_v (av_move rfl) ?_
        refine awl_op (aop_store sz38 rfl rfl rfl rfl rfl rfl rfl ?_)
        refine awl_v (av_assign rfl) ?_
        have hr := Option.some.inj hr
        subst hr
        exact awl_nil (athen_norm (awc_ret (athen_ret (ret_o (l' := [(10, .rp [.int .i64 0, .int .i64 0]), (11, .int .i64 0)]) (Hs := [(0, .tr (.pt 55 (.pair (.mp (.int .i64) (.mp Y1 (.dat (.raw ifN)))) (.pair (.dat (.int .i64)) (.dat (.int .i64))))) (some ((mset p0_0.1 p1 x16), p0_0.2.1, p0_0.2.2)))]) (n := 1) (Wk.trans (wk_close (i := 2) (n := 3) (kx := p1) (hs' := []) x16 x16 (js := [3]) rfl (List.mem_cons.2 (.inl rfl)) (f27o_get e17) ⟨3, rfl, rfl, rfl⟩ rfl rfl holes1) (Wk.trans (wk_packt (i := 0) (T := 55) (e := (.pair (.mp (.int .i64) (.mp Y1 (.dat (.raw ifN)))) (.pair (.dat (.int .i64)) (.dat (.int .i64))))) (js := [2]) ((mset p0_0.1 p1 x16), p0_0.2.1, p0_0.2.2) rfl (⟨[.map 2], [.int .i64 p0_0.2.1, .int .i64 p0_0.2.2], [2], [], rfl, rfl, ⟨2, rfl, rfl, rfl⟩, ⟨[.int .i64 p0_0.2.1], [.int .i64 p0_0.2.2], [], [], rfl, rfl, ⟨rfl, rfl, rfl⟩, ⟨rfl, rfl, rfl⟩⟩⟩) rfl) (wk_of hX [0] 4 rfl rfl ⟨⟨_, rfl, cv0⟩, ⟨_, rfl, cv0⟩, trivial⟩ ⟨cvo0, trivial⟩))) rfl rfl rfl ⟨(.inr ⟨_, 2, rfl, ts38, rfl, rfl⟩), rfl, trivial⟩))))
      · have hr := if_f hc18 hr
        refine awc_skip (athen_norm (awc_seq ?_))
        refine awc_region ?_
        refine awl_wk (wk_of (st' := ⟨[(0, .ptr 0 0), (2, .sl Y1 p2), (3, .val p3.1), (4, .bool p4), (10, .ptr 1 0), (11, .int .i64 0), (17, .map 3)], [(0, .var 55 [.map 2, .int .i64 p0_0.2.1, .int .i64 p0_0.2.2]), (1, .var 38 [.int .i64 0, .int .i64 0]), (2, .mpt (.int .i64) (.mp Y1 (.dat (.raw ifN))) p0_0.1 [(p1, 3)]), (3, .map Y1 (.raw ifN) x16), (4, .var 38 [.int .i64 0, .int .i64 0])], 5⟩) hX [0, 1, 2, 3, 4] 4 rfl rfl ⟨⟨_, rfl, cv0⟩, ⟨_, rfl, cv0⟩, ⟨_, rfl, cv0⟩, ⟨_, rfl, cv0⟩, ⟨_, rfl, cv0⟩, ⟨_, rfl, cv0⟩, ⟨_, rfl, cv0⟩, trivial⟩ ⟨cvo0, cvo0, cvo0, cvo0, cvo0, trivial⟩) ?_
        refine awl_v (av_move rfl) ?_
        refine awl_v (av_move rfl) ?_
        refine awl_v (av_len_sl (t := Y1) rfl rfl und22 rfl) ?_
        refine awl_v (av_sub rfl rfl) ?_
        obtain ⟨x19, e20, hr⟩ := bnd_some hr
        refine awl_v (av_ia_sl (t := Y1) (e := x19) und22 sz25 rfl rfl e20) ?_
        refine awl_v (av_load_rpN ts25 rfl rfl rfl) ?_
        refine awl_op (aop_alloc zero25 rfl ?_)
        refine awl_op (aop_store sz25 rfl rfl rfl rfl rfl rfl rfl ?_)
        refine awl_nil (athen_norm (awc_seq ?_))
        refine awc_region ?_
        refine awl_v (av_move rfl) ?_
        refine awl_v (av_load_ptrN ts25 rfl rfl rfl rfl) ?_
        refine awl_v (av_lookup2 (kx := x19) (r := .tup [.val ((mget x16 x19).getD ifN).1, .bool ((mget x16 x19).isSome)]) und52 kt25 zw62 rfl rfl rfl rfl rfl) ?_
        refine awl_v (av_move rfl) ?_
        refine awl_v (av_extract rfl rfl) ?_
        refine awl_v (av_extract rfl rfl) ?_
        refine awl_v (av_assign rfl) ?_
        refine awl_v (av_assign rfl) ?_
        refine awl_nil (athen_norm ?_)
        obtain ⟨o25, e26, hr⟩ := bnd_some hr
        refine awc_join (S := Int) (R := Int × Int × Int) (fun s => match s with | s21 => (⟨[(3, .val p3.1), (10, .ptr 1 0), (11, .int .i64 0), (17, .map 2), (20, .ptr 3 0)], [(0, .var 55 [.map 4, .int .i64 p0_0.2.1, .int .i64 s21]), (1, .var 38 [.int .i64 0, .int .i64 0]), (2, .map Y1 (.raw ifN) x16), (3, .var 25 [.str x19.1, .str x19.2]), (4, .mpt (.int .i64) (.mp Y1 (.dat (.raw ifN))) p0_0.1 [(p1, 2)])], 5⟩ : AS)) (fun r e st => match r with | (s22, s23, s24) => e = .ret ∧ Wk X st ⟨[(10, .ptr 1 0), (11, .int .i64 s22)], [(0, .tr (.pt 55 (.pair (.mp (.int .i64) (.mp Y1 (.dat (.raw ifN)))) (.pair (.dat (.int .i64)) (.dat (.int .i64))))) (some ((mset p0_0.1 p1 x16), p0_0.2.1, p0_0.2.2))), (1, .var 38 [.int .i64 s23, .int .i64 s24])], 2⟩) e26 (fun hr => ?_) ?_ ?_
        · refine awc_block (awc_seq ?_)
          refine awc_text [0, 2, 3, 4, 10, 11, 17, 20, 21, 22] [(true, .bool ((mget x16 x19).isSome)), (true, .bool ((mget x16 x19).isSome)), ((mget x16 x19).isSome, .bool p4), ((mget x16 x19).isSome, .bool (!p4)), (true, .bool (((mget x16 x19).isSome) && (!p4))), (true, .bool (((mget x16 x19).isSome) && (!p4)))] [[], [0], [1], [2, 1], [3, 1], [4]] [5] rfl rfl rfl rfl rfl ⟨?_, ?_, ?_, ?_, ?_, ?_, trivial⟩ (allT_of ⟨rfl, trivial⟩) ?_
          · exact ob_v rfl (fun hg => allT_of trivial) (fun hg => av_move rfl)
          · exact ob_v rfl (fun hg => allT_of ⟨rfl, trivial⟩) (fun hg => av_move rfl)
          · exact ob_v ⟨rfl, rfl, rfl, _, rfl, rfl⟩ (fun hg => allT_of ⟨rfl, trivial⟩) (fun hg => av_move rfl)
          · exact ob_v ⟨rfl, rfl, rfl, _, rfl, rfl⟩ (fun hg => allT_of ⟨hg, rfl, trivial⟩) (fun hg => av_not rfl)
          · exact ob_pick (b := true) (p := (mget x16 x19).isSome) (q := !p4) rfl rfl rfl (fun hg => allT_of ⟨rfl, trivial⟩) rfl rfl rfl rfl rfl
          · exact ob_v rfl (fun hg => allT_of ⟨rfl, trivial⟩) (fun hg => av_assign rfl)
          refine athen_norm ?_
          refine awc_cond (b := ((mget x16 x19).isSome) && (!p4)) rfl (fun hc27 => ?_) (fun hc27 => ?_)
          · have hr := if_t hc27 hr
            refine awc_seq ?_
            refine awc_region ?_
            refine awl_wk (wk_of (st' := ⟨[(3, .val p3.1), (10, .ptr 1 0), (11, .int .i64 0), (17, .map 3), (20, .ptr 5 0)], [(0, .var 55 [.map 2, .int .i64 p0_0.2.1, .int .i64 p0_0.2.2]), (1, .var 38 [.int .i64 0, .int .i64 0]), (2, .mpt (.int .i64) (.mp Y1 (.dat (.raw ifN))) p0_0.1 [(p1, 3)]), (3, .map Y1 (.raw ifN) x16), (4, .var 38 [.int .i64 0, .int .i64 0]), (5, .var 25 [.str x19.1, .str x19.2])], 6⟩) hX [0, 1, 2, 3, 4, 5] 4 rfl rfl ⟨⟨_, rfl, cv0⟩, ⟨_, rfl, cv0⟩, ⟨_, rfl, cv0⟩, ⟨_, rfl, cv0⟩, ⟨_, rfl, cv0⟩, trivial⟩ ⟨cvo0, cvo0, cvo0, cvo0, cvo0, cvo0, trivial⟩) ?_
            refine awl_v (av_build (qs := []) (cs := [.int .i64 0, .int .i64 0]) bt38 rfl rfl rfl) ?_
            refine awl_op (aop_store sz38 rfl rfl rfl rfl rfl rfl rfl ?_)
            refine awl_v (av_assign rfl) ?_
            have hr := Option.some.inj hr
            subst hr
            exact awl_nil (athen_norm (awc_ret (ablock_ret (⟨rfl, (Wk.trans (wk_close (i := 2) (n := 3) (kx := p1) (hs' := []) x16 x16 (js := [3]) rfl (List.mem_cons.2 (.inl rfl)) (f27o_get e17) ⟨3, rfl, rfl, rfl⟩ rfl rfl holes1) (Wk.trans (wk_packt (i := 0) (T := 55) (e := (.pair (.mp (.int .i64) (.mp Y1 (.dat (.raw ifN)))) (.pair (.dat (.int .i64)) (.dat (.int .i64))))) (js := [2]) ((mset p0_0.1 p1 x16), p0_0.2.1, p0_0.2.2) rfl (⟨[.map 2], [.int .i64 p0_0.2.1, .int .i64 p0_0.2.2], [2], [], rfl, rfl, ⟨2, rfl, rfl, rfl⟩, ⟨[.int .i64 p0_0.2.1], [.int .i64 p0_0.2.2], [], [], rfl, rfl, ⟨rfl, rfl, rfl⟩, ⟨rfl, rfl, rfl⟩⟩⟩) rfl) (wk_of hX [0, 1] 4 rfl rfl ⟨⟨_, rfl, cv0⟩, ⟨_, rfl, cv0⟩, trivial⟩ ⟨cvo0, cvo0, trivial⟩)))⟩))))
          · have hr := if_f hc27 hr
            refine awc_seq ?_
            obtain ⟨h28, hr⟩ := chk_some hr
            obtain ⟨h29, hr⟩ := chk_some hr
            refine awc_text [0, 2, 3, 10, 11, 17, 20, 21, 22] [(true, .bool ((mget x16 x19).isSome)), (true, .bool ((mget x16 x19).isSome)), ((mget x16 x19).isSome, .val ((mget x16 x19).getD ifN).1), ((mget x16 x19).isSome, .int .i64 ((inv2 75 57 (2 : Int) 3 ((mget x16 x19).getD ifN)).getD default)), ((mget x16 x19).isSome, .val p3.1), ((mget x16 x19).isSome, .int .i64 ((inv2 75 57 (2 : Int) 3 p3).getD default)), ((mget x16 x19).isSome, .bool (!decide (((inv2 75 57 (2 : Int) 3 ((mget x16 x19).getD ifN)).getD default) = ((inv2 75 57 (2 : Int) 3 p3).getD default)))), (true, .bool (((mget x16 x19).isSome) && (!decide (((inv2 75 57 (2 : Int) 3 ((mget x16 x19).getD ifN)).getD default) = ((inv2 75 57 (2 : Int) 3 p3).getD default))))), (true, .bool (((mget x16 x19).isSome) && (!decide (((inv2 75 57 (2 : Int) 3 ((mget x16 x19).getD ifN)).getD default) = ((inv2 75 57 (2 : Int) 3 p3).getD default)))))] [[], [0], [1], [2, 1], [1], [4, 1], [3, 5, 1], [6, 1], [7]] [8] rfl rfl rfl rfl rfl ⟨?_, ?_, ?_, ?_, ?_, ?_, ?_, ?_, ?_, trivial⟩ (allT_of ⟨rfl, trivial⟩) ?_
            · exact ob_v rfl (fun hg => allT_of trivial) (fun hg => av_move rfl)
            · exact ob_v rfl (fun hg => allT_of ⟨rfl, trivial⟩) (fun hg => av_move rfl)
            · exact ob_v ⟨rfl, rfl, rfl, _, rfl, rfl⟩ (fun hg => allT_of ⟨rfl, trivial⟩) (fun hg => av_move rfl)
            · exact ob_v ⟨rfl, rfl, rfl, _, rfl, rfl⟩ (fun hg => allT_of ⟨hg, rfl, trivial⟩) (fun hg => av_inv2 (c := ((mget x16 x19).getD ifN)) rfl (get_g h28 hg) meth75_69 meth57_68 (f69_runs (r := 2) rfl) (f68_runs (r := 3) rfl) ent69 ent68 rfl)
            · exact ob_v ⟨rfl, rfl, rfl, _, rfl, rfl⟩ (fun hg => allT_of ⟨rfl, trivial⟩) (fun hg => av_move rfl)
            · exact ob_v ⟨rfl, rfl, rfl, _, rfl, rfl⟩ (fun hg => allT_of ⟨hg, rfl, trivial⟩) (fun hg => av_inv2 (c := p3) rfl (get_g h29 hg) meth75_69 meth57_68 (f69_runs (r := 2) rfl) (f68_runs (r := 3) rfl) ent69 ent68 rfl)
            · exact ob_v ⟨rfl, rfl, rfl, _, rfl, rfl⟩ (fun hg => allT_of ⟨hg, hg, rfl, trivial⟩) (fun hg => av_neq rfl rfl)
            · exact ob_pick (b := true) (p := (mget x16 x19).isSome) (q := !decide (((inv2 75 57 (2 : Int) 3 ((mget x16 x19).getD ifN)).getD default) = ((inv2 75 57 (2 : Int) 3 p3).getD default))) rfl rfl rfl (fun hg => allT_of ⟨rfl, trivial⟩) rfl rfl rfl rfl rfl
            · exact ob_v rfl (fun hg => allT_of ⟨rfl, trivial⟩) (fun hg => av_assign rfl)
            refine athen_norm ?_
            refine awc_cond (b := ((mget x16 x19).isSome) && (!decide (((inv2 75 57 (2 : Int) 3 ((mget x16 x19).getD ifN)).getD default) = ((inv2 75 57 (2 : Int) 3 p3).getD default)))) rfl (fun hc30 => ?_) (fun hc30 => ?_)
            · have hr := if_t hc30 hr
              refine awc_seq ?_
              refine awc_region ?_
              refine awl_wk (wk_of (st' := ⟨[(2, .sl Y1 p2), (3, .val p3.1), (10, .ptr 1 0), (11, .int .i64 0), (17, .map 3), (20, .ptr 5 0), (21, .val ((mget x16 x19).getD ifN).1)], [(0, .var 55 [.map 2, .int .i64 p0_0.2.1, .int .i64 p0_0.2.2]), (1, .var 38 [.int .i64 0, .int .i64 0]), (2, .mpt (.int .i64) (.mp Y1 (.dat (.raw ifN))) p0_0.1 [(p1, 3)]), (3, .map Y1 (.raw ifN) x16), (4, .var 38 [.int .i64 0, .int .i64 0]), (5, .var 25 [.str x19.1, .str x19.2])], 6⟩) hX [0, 1, 2, 3, 4, 5] 4 rfl rfl ⟨⟨_, rfl, cv0⟩, ⟨_, rfl, cv0⟩, ⟨_, rfl, cv0⟩, ⟨_, rfl, cv0⟩, ⟨_, rfl, cv0⟩, ⟨_, rfl, cv0⟩, ⟨_, rfl, cv0⟩, trivial⟩ ⟨cvo0, cvo0, cvo0, cvo0, cvo0, cvo0, trivial⟩) ?_
              refine awl_v (av_move rfl) ?_
              refine awl_v (av_len_sl (t := Y1) rfl rfl und22 rfl) ?_
              refine awl_v (av_sub rfl rfl) ?_
              refine awl_v (av_move rfl) ?_
              obtain ⟨x31, e32, hr⟩ := bnd_some hr
              refine awl_v (av_inv2 (c := ((mget x16 x19).getD ifN)) rfl e32 meth75_69 meth57_68 (f69_runs (r := 2) rfl) (f68_runs (r := 3) rfl) ent69 ent68 rfl) ?_
              refine awl_v (av_build (qs := [(0, [.int .i64 (w64 ((List.length p2 : Int) - 1))]), (1, [.int .i64 x31])]) (cs := [.int .i64 (w64 ((List.length p2 : Int) - 1)), .int .i64 x31]) bt38 rfl rfl rfl) ?_
              refine awl_op (aop_store sz38 rfl rfl rfl rfl rfl rfl rfl ?_)
              refine awl_v (av_assign rfl) ?_
              have hr := Option.some.inj hr
              subst hr
              exact awl_nil (athen_norm (awc_ret (ablock_ret (⟨rfl, (Wk.trans (wk_close (i := 2) (n := 3) (kx := p1) (hs' := []) x16 x16 (js := [3]) rfl (List.mem_cons.2 (.inl rfl)) (f27o_get e17) ⟨3, rfl, rfl, rfl⟩ rfl rfl holes1) (Wk.trans (wk_packt (i := 0) (T := 55) (e := (.pair (.mp (.int .i64) (.mp Y1 (.dat (.raw ifN)))) (.pair (.dat (.int .i64)) (.dat (.int .i64))))) (js := [2]) ((mset p0_0.1 p1 x16), p0_0.2.1, p0_0.2.2) rfl (⟨[.map 2], [.int .i64 p0_0.2.1, .int .i64 p0_0.2.2], [2], [], rfl, rfl, ⟨2, rfl, rfl, rfl⟩, ⟨[.int .i64 p0_0.2.1], [.int .i64 p0_0.2.2], [], [], rfl, rfl, ⟨rfl, rfl, rfl⟩, ⟨rfl, rfl, rfl⟩⟩⟩) rfl) (wk_of hX [0, 1] 4 rfl rfl ⟨⟨_, rfl, cv0⟩, ⟨_, rfl, cv0⟩, trivial⟩ ⟨cvo0, cvo0, trivial⟩)))⟩))))
            · have hr := if_f hc30 hr
              refine awc_seq ?_
              refine awc_text [0, 3, 10, 11, 17, 20, 22] [(true, .bool ((mget x16 x19).isSome)), (true, .bool (!((mget x16 x19).isSome))), (true, .bool (!((mget x16 x19).isSome))), (!((mget x16 x19).isSome), .ptr 0 0), (!((mget x16 x19).isSome), .ptr 0 0), (!((mget x16 x19).isSome), .ptr 0 2), (!((mget x16 x19).isSome), .int .i64 p0_0.2.2), (!((mget x16 x19).isSome), .bool (decide (p0_0.2.2 = 2000))), (true, .bool ((!((mget x16 x19).isSome)) && (decide (p0_0.2.2 = 2000)))), (true, .bool ((!((mget x16 x19).isSome)) && (decide (p0_0.2.2 = 2000))))] [[], [0], [1], [2], [3, 2], [4, 2], [5, 2], [6, 2], [7, 2], [8]] [9] rfl rfl rfl rfl rfl ⟨?_, ?_, ?_, ?_, ?_, ?_, ?_, ?_, ?_, ?_, trivial⟩ (allT_of ⟨rfl, trivial⟩) ?_
              · exact ob_v rfl (fun hg => allT_of trivial) (fun hg => av_move rfl)
              · exact ob_v rfl (fun hg => allT_of ⟨rfl, trivial⟩) (fun hg => av_not rfl)
              · exact ob_v rfl (fun hg => allT_of ⟨rfl, trivial⟩) (fun hg => av_move rfl)
              · exact ob_v ⟨rfl, rfl, rfl, _, rfl, rfl⟩ (fun hg => allT_of ⟨rfl, trivial⟩) (fun hg => av_move rfl)
              · exact ob_v ⟨rfl, rfl, rfl, _, rfl, rfl⟩ (fun hg => allT_of ⟨hg, rfl, trivial⟩) (fun hg => av_nilCheck_ptr rfl)
              · exact ob_v ⟨rfl, rfl, rfl, _, rfl, rfl⟩ (fun hg => allT_of ⟨hg, rfl, trivial⟩) (fun hg => av_fa_ptr fa55_2 rfl rfl)
              · exact ob_v ⟨rfl, rfl, rfl, _, rfl, rfl⟩ (fun hg => allT_of ⟨hg, rfl, trivial⟩) (fun hg => av_load_ptr ts3 rfl rfl rfl)
              · exact ob_v ⟨rfl, rfl, rfl, _, rfl, rfl⟩ (fun hg => allT_of ⟨hg, rfl, trivial⟩) (fun hg => av_eql rfl rfl)
              · exact ob_pick (b := true) (p := !((mget x16 x19).isSome)) (q := decide (p0_0.2.2 = 2000)) rfl rfl rfl (fun hg => allT_of ⟨rfl, trivial⟩) rfl rfl rfl rfl rfl
              · exact ob_v rfl (fun hg => allT_of ⟨rfl, trivial⟩) (fun hg => av_assign rfl)
              refine athen_norm ?_
              refine awc_cond (b := (!((mget x16 x19).isSome)) && (decide (p0_0.2.2 = 2000))) rfl (fun hc33 => ?_) (fun hc33 => ?_)
              · have hr := if_t hc33 hr
                refine awc_seq ?_
                refine awc_region ?_
                refine awl_wk (wk_of (st' := ⟨[(3, .val p3.1), (10, .ptr 1 0), (11, .int .i64 0), (17, .map 3), (20, .ptr 5 0)], [(0, .var 55 [.map 2, .int .i64 p0_0.2.1, .int .i64 p0_0.2.2]), (1, .var 38 [.int .i64 0, .int .i64 0]), (2, .mpt (.int .i64) (.mp Y1 (.dat (.raw ifN))) p0_0.1 [(p1, 3)]), (3, .map Y1 (.raw ifN) x16), (4, .var 38 [.int .i64 0, .int .i64 0]), (5, .var 25 [.str x19.1, .str x19.2])], 6⟩) hX [0, 1, 2, 3, 4, 5] 4 rfl rfl ⟨⟨_, rfl, cv0⟩, ⟨_, rfl, cv0⟩, ⟨_, rfl, cv0⟩, ⟨_, rfl, cv0⟩, ⟨_, rfl, cv0⟩, trivial⟩ ⟨cvo0, cvo0, cvo0, cvo0, cvo0, cvo0, trivial⟩) ?_
                refine awl_v (av_build (qs := []) (cs := [.int .i64 0, .int .i64 0]) bt38 rfl rfl rfl) ?_
                refine awl_op (aop_store sz38 rfl rfl rfl rfl rfl rfl rfl ?_)
                refine awl_v (av_assign rfl) ?_
                have hr := Option.some.inj hr
                subst hr
                exact awl_nil (athen_norm (awc_ret (ablock_ret (⟨rfl, (Wk.trans (wk_close (i := 2) (n := 3) (kx := p1) (hs' := []) x16 x16 (js := [3]) rfl (List.mem_cons.2 (.inl rfl)) (f27o_get e17) ⟨3, rfl, rfl, rfl⟩ rfl rfl holes1) (Wk.trans (wk_packt (i := 0) (T := 55) (e := (.pair (.mp (.int .i64) (.mp Y1 (.dat (.raw ifN)))) (.pair (.dat (.int .i64)) (.dat (.int .i64))))) (js := [2]) ((mset p0_0.1 p1 x16), p0_0.2.1, p0_0.2.2) rfl (⟨[.map 2], [.int .i64 p0_0.2.1, .int .i64 p0_0.2.2], [2], [], rfl, rfl, ⟨2, rfl, rfl, rfl⟩, ⟨[.int .i64 p0_0.2.1], [.int .i64 p0_0.2.2], [], [], rfl, rfl, ⟨rfl, rfl, rfl⟩, ⟨rfl, rfl, rfl⟩⟩⟩) rfl) (wk_of hX [0, 1] 4 rfl rfl ⟨⟨_, rfl, cv0⟩, ⟨_, rfl, cv0⟩, trivial⟩ ⟨cvo0, cvo0, trivial⟩)))⟩))))
              · have hr := if_f hc33 hr
                refine awc_seq ?_
                refine awc_region ?_
                refine awl_wk (wk_of (st' := ⟨[(0, .ptr 0 0), (3, .val p3.1), (10, .ptr 1 0), (11, .int .i64 0), (17, .map 3), (20, .ptr 5 0), (22, .bool ((mget x16 x19).isSome))], [(0, .var 55 [.map 2, .int .i64 p0_0.2.1, .int .i64 p0_0.2.2]), (1, .var 38 [.int .i64 0, .int .i64 0]), (2, .mpt (.int .i64) (.mp Y1 (.dat (.raw ifN))) p0_0.1 [(p1, 3)]), (3, .map Y1 (.raw ifN) x16), (4, .var 38 [.int .i64 0, .int .i64 0]), (5, .var 25 [.str x19.1, .str x19.2])], 6⟩) hX [0, 1, 2, 3, 4, 5] 4 rfl rfl ⟨⟨_, rfl, cv0⟩, ⟨_, rfl, cv0⟩, ⟨_, rfl, cv0⟩, ⟨_, rfl, cv0⟩, ⟨_, rfl, cv0⟩, ⟨_, rfl, cv0⟩, ⟨_, rfl, cv0⟩, trivial⟩ ⟨cvo0, cvo0, cvo0, cvo0, cvo0, cvo0, trivial⟩) ?_
                refine awl_v (av_move rfl) ?_
                refine awl_v (av_not rfl) ?_
                refine awl_v (av_assign rfl) ?_
                refine awl_nil (athen_norm ?_)
                refine awc_cond (b := !((mget x16 x19).isSome)) rfl (fun hc34 => ?_) (fun hc34 => ?_)
                · have hr := if_t hc34 hr
                  refine awc_region ?_
                  refine awl_v (av_move rfl) ?_
                  refine awl_v (av_nilCheck_ptr rfl) ?_
                  refine awl_v (av_fa_ptr fa55_2 rfl rfl) ?_
                  refine awl_v (av_load_ptr ts3 rfl rfl rfl) ?_
                  refine awl_v (av_add rfl rfl) ?_
                  refine awl_v (av_nilCheck_ptr rfl) ?_
                  refine awl_v (av_fa_ptr fa55_2 rfl rfl) ?_
                  refine awl_op (aop_store sz3 rfl rfl rfl rfl rfl rfl rfl ?_)
                  have hr := Option.some.inj hr
                  subst hr
                  exact awl_nil (ablock_norm ((wk_of hX [0, 1, 3, 5, 2] 4 rfl rfl ⟨⟨_, rfl, cv0⟩, ⟨_, rfl, cv0⟩, ⟨_, rfl, cv0⟩, ⟨_, rfl, cv0⟩, ⟨_, rfl, cv0⟩, trivial⟩ ⟨cvo0, cvo0, cvo0, cvo0, cvo0, trivial⟩)))
                · have hr := if_f hc34 hr
                  have hr := Option.some.inj hr
                  subst hr
                  exact awc_skip (ablock_norm ((wk_of hX [0, 1, 3, 5, 2] 4 rfl rfl ⟨⟨_, rfl, cv0⟩, ⟨_, rfl, cv0⟩, ⟨_, rfl, cv0⟩, ⟨_, rfl, cv0⟩, ⟨_, rfl, cv0⟩, trivial⟩ ⟨cvo0, cvo0, cvo0, cvo0, cvo0, trivial⟩)))
        · rintro s21 rfl
          refine awc_seq ?_
          refine awc_region ?_
          refine awl_v (av_move rfl) ?_
          refine awl_v (av_load_ptrN ts25 rfl rfl rfl rfl) ?_
          refine awl_v (av_move rfl) ?_
          refine awl_op (aop_mapSet (kx := x19) (vx := p3) und52 kt25 (.inl rfl) rfl rfl rfl rfl rfl rfl rfl ?_)
          refine awl_nil (athen_norm (awc_seq ?_))
          refine awc_region ?_
          refine awl_v (av_build (qs := []) (cs := [.int .i64 0, .int .i64 0]) bt38 rfl rfl rfl) ?_
          refine awl_op (aop_store sz38 rfl rfl rfl rfl rfl rfl rfl ?_)
          refine awl_v (av_assign rfl) ?_
          have hr := Option.some.inj hr
          subst hr
          exact awl_nil (athen_norm (awc_ret (ret_o (l' := [(10, .rp [.int .i64 0, .int .i64 0]), (11, .int .i64 0)]) (Hs := [(0, .tr (.pt 55 (.pair (.mp (.int .i64) (.mp Y1 (.dat (.raw ifN)))) (.pair (.dat (.int .i64)) (.dat (.int .i64))))) (some ((mset p0_0.1 p1 (mset x16 x19 p3)), p0_0.2.1, s21)))]) (n := 1) (Wk.trans (wk_close (i := 4) (n := 2) (kx := p1) (hs' := []) x16 (mset x16 x19 p3) (js := [2]) rfl (List.mem_cons.2 (.inl rfl)) (f27o_get e17) ⟨2, rfl, rfl, rfl⟩ rfl rfl holes1) (Wk.trans (wk_packt (i := 0) (T := 55) (e := (.pair (.mp (.int .i64) (.mp Y1 (.dat (.raw ifN)))) (.pair (.dat (.int .i64)) (.dat (.int .i64))))) (js := [4]) ((mset p0_0.1 p1 (mset x16 x19 p3)), p0_0.2.1, s21) rfl (⟨[.map 4], [.int .i64 p0_0.2.1, .int .i64 s21], [4], [], rfl, rfl, ⟨4, rfl, rfl, rfl⟩, ⟨[.int .i64 p0_0.2.1], [.int .i64 s21], [], [], rfl, rfl, ⟨rfl, rfl, rfl⟩, ⟨rfl, rfl, rfl⟩⟩⟩) rfl) (wk_of hX [0] 4 rfl rfl ⟨⟨_, rfl, cv0⟩, ⟨_, rfl, cv0⟩, trivial⟩ ⟨cvo0, trivial⟩))) rfl rfl rfl ⟨(.inr ⟨_, 2, rfl, ts38, rfl, rfl⟩), rfl, trivial⟩)))
        · rintro r rfl e st hne hx
          obtain ⟨s22, s23, s24⟩ := r
          obtain ⟨rfl, hw⟩ := hx
          have hr := Option.some.inj hr
          subst hr
          exact ret_o (l' := [(10, .rp [.int .i64 s23, .int .i64 s24]), (11, .int .i64 s22)]) (Hs := [(0, .tr (.pt 55 (.pair (.mp (.int .i64) (.mp Y1 (.dat (.raw ifN)))) (.pair (.dat (.int .i64)) (.dat (.int .i64))))) (some ((mset p0_0.1 p1 x16), p0_0.2.1, p0_0.2.2)))]) (n := 1) (Wk.trans hw (wk_of hX [0] 4 rfl rfl ⟨⟨_, rfl, cv0⟩, ⟨_, rfl, cv0⟩, trivial⟩ ⟨cvo0, trivial⟩)) rfl rfl rfl ⟨(.inr ⟨_, 2, rfl, ts38, rfl, rfl⟩), rfl, trivial⟩
    · rintro r rfl e st hne hx
      obtain ⟨s5, rfl⟩ : ∃ x, x = r := ⟨_, rfl⟩
      obtain ⟨rfl, hw⟩ := hx
      have hr := Option.some.inj hr
      subst hr
      exact ret_o (l' := [(10, .rp [.int .i64 0, .int .i64 0]), (11, .int .i64 s5)]) (Hs := [(0, .tr (.pt 55 (.pair (.mp (.int .i64) (.mp Y1 (.dat (.raw ifN)))) (.pair (.dat (.int .i64)) (.dat (.int .i64))))) (some p0_0))]) (n := 1) (Wk.trans hw (wk_of hX [0] 4 rfl rfl ⟨⟨_, rfl, cv0⟩, ⟨_, rfl, cv0⟩, trivial⟩ ⟨cvo0, trivial⟩)) rfl rfl rfl ⟨(.inr ⟨_, 2, rfl, ts38, rfl, rfl⟩), rfl, trivial⟩
theorem f15_runs {p0_0 : List (Int × (List ((Str × Str) × Cell1))) × Int × Int} {p1 : Int} {p2 : List (Str × Str)} {p3 : Int} {r : (Int × Int) × Int × (List (Int × (List ((Str × Str) × Cell1))) × Int × Int)} (hr : f15 p0_0 p1 p2 p3 = some r) : Runs Try.prog 15 [.ptr 0 0, .int .i64 p1, .sl Y1 p2, .int .i64 p3] [.tr (.pt 55 (.pair (.mp (.int .i64) (.mp Y1 (.dat (.raw ifN)))) (.pair (.dat (.int .i64)) (.dat (.int .i64))))) (some p0_0)] (fun q Hq => q = [.agg [.int .i64 r.1.1, .int .i64 r.1.2], .int .i64 r.2.1] ∧ Hq = [.tr (.pt 55 (.pair (.mp (.int .i64) (.mp Y1 (.dat (.raw ifN)))) (.pair (.dat (.int .i64)) (.dat (.int .i64))))) (some r.2.2)]) := by
  refine runs_w Try.func15 Try.ntmps15 rfl (rs := [.cell 8 38, .tmp 9]) rfl rfl fun w0 X hX => ?_
  refine awc_seq ?_
  refine awc_region ?_
  refine awl_op (aop_alloc zero38 rfl ?_)
  refine awl_v (av_assign rfl) ?_
  refine awl_nil (athen_norm (awc_seq ?_))
  refine awc_region ?_
  refine awl_v (av_move rfl) ?_
  refine awl_v (av_move rfl) ?_
  refine awl_v (av_move rfl) ?_
  refine awl_v (av_move rfl) ?_
  refine awl_v (av_mkI und57 rfl) ?_
  obtain ⟨x2, e3, hr⟩ := bnd_some hr
  refine awl_op (aop_callO (σ := [0]) (as' := [.ptr 0 0, .int .i64 p1, .sl Y1 p2, .val (ifI 57 .i64 p3).1, .bool false]) (f25_runs e3).x ent25 rfl ⟨cv0, cv0, cv0, cv0, cv0, trivial⟩ rfl rfl rfl ?_)
  refine awl_wk (wk_of (st' := ⟨[(0, .ptr 0 0), (1, .int .i64 p1), (2, .sl Y1 p2), (3, .int .i64 p3), (8, .ptr 1 0), (9, .int .i64 0), (10, .ptr 0 0), (11, .int .i64 p1), (12, .sl Y1 p2), (13, .int .i64 p3), (14, .val (ifI 57 .i64 p3).1), (15, .tup [.agg [.int .i64 x2.1.1, .int .i64 x2.1.2], .int .i64 x2.2.1])], [(0, .tr (.pt 55 (.pair (.mp (.int .i64) (.mp Y1 (.dat (.raw ifN)))) (.pair (.dat (.int .i64)) (.dat (.int .i64))))) (some x2.2.2)), (1, .var 38 [.int .i64 0, .int .i64 0])], 2⟩) hX [0, 1] 4 rfl rfl ⟨⟨_, rfl, cv0⟩, ⟨_, rfl, cv0⟩, ⟨_, rfl, cv0⟩, ⟨_, rfl, cv0⟩, ⟨_, rfl, cv0⟩, ⟨_, rfl, cv0⟩, ⟨_, rfl, cv0⟩, ⟨_, rfl, cv0⟩, ⟨_, rfl, cv0⟩, ⟨_, rfl, cv0⟩, ⟨_, rfl, cv0⟩, ⟨_, rfl, cv0⟩, trivial⟩ ⟨cvo0, cvo0, trivial⟩) ?_
  refine awl_v (av_extract rfl rfl) ?_
  refine awl_v (av_extract rfl rfl) ?_
  refine awl_op (aop_store sz38 rfl rfl rfl rfl rfl rfl rfl ?_)
  refine awl_v (av_assign rfl) ?_
  have hr := Option.some.inj hr
  subst hr
  exact awl_nil (athen_norm (awc_ret (ret_o (l' := [(8, .rp [.int .i64 x2.1.1, .int .i64 x2.1.2]), (9, .int .i64 x2.2.1)]) (Hs := [(0, .tr (.pt 55 (.pair (.mp (.int .i64) (.mp Y1 (.dat (.raw ifN)))) (.pair (.dat (.int .i64)) (.dat (.int .i64))))) (some x2.2.2))]) (n := 1) (wk_of hX [0] 4 rfl rfl ⟨⟨_, rfl, cv0⟩, ⟨_, rfl, cv0⟩, trivial⟩ ⟨cvo0, trivial⟩) rfl rfl rfl ⟨(.inr ⟨_, 2, rfl, ts38, rfl, rfl⟩), rfl, trivial⟩)))
theorem f28_runs {p0 : Str × Str} {p1 : Cell1} {r : ((Str × Str) × Str × Int × Bool)} (hr : f28 p0 p1 = some r) : RunsP Try.prog 28 [.agg [.str p0.1, .str p0.2], .val p1.1] [.agg [.str r.1.1, .str r.1.2, .str r.2.1, .int .i64 r.2.2.1, .bool r.2.2.2]] := by
  refine runs_w Try.func28 Try.ntmps28 rfl (rs := [.cell 4 42]) rfl rfl fun w0 X hX => ?_
  refine awc_seq ?_
  refine awc_region ?_
  refine awl_op (aop_box rfl rfl ?_)
  refine awl_op (aop_alloc zero42 rfl ?_)
  refine awl_nil (athen_norm (awc_seq ?_))
  refine awc_region ?_
  refine awl_v (av_load_ptrN ts25 rfl rfl rfl rfl) ?_
  refine awl_v (av_build (qs := [(0, [.str p0.1, .str p0.2])]) (cs := [.str p0.1, .str p0.2, .str ([] : Str), .int .i64 0, .bool false]) bt42 rfl rfl rfl) ?_
  refine awl_op (aop_alloc zero42 rfl ?_)
  refine awl_op (aop_store sz42 rfl rfl rfl rfl rfl rfl rfl ?_)
  refine awl_nil (athen_norm ?_)
  obtain ⟨o4, e5, hr⟩ := bnd_some hr
  refine awc_join (S := Str × Int × Bool) (R := Unit) (fun s => match s with | (s1, s2, s3) => (⟨[(4, .ptr 0 0), (5, .ptr 1 0)], [(0, .var 42 [.str ([] : Str), .str ([] : Str), .str ([] : Str), .int .i64 0, .bool false]), (1, .var 42 [.str p0.1, .str p0.2, .str s1, .int .i64 s2, .bool s3])], 2⟩ : AS)) (fun _ _ _ => False) e5 (fun hr => ?_) ?_ ?_
  · refine awc_seq ?_
    refine awc_region ?_
    refine awl_v (av_move rfl) ?_
    refine awl_nil (athen_norm (awc_block (awc_seq ?_)))
    refine awc_region ?_
    obtain ⟨x6, e7, hr⟩ := bnd_some hr
    refine awl_v (av_assertS (c := p1) und75 zero75 rfl e7) ?_
    refine awl_v (av_extract rfl rfl) ?_
    refine awl_v (av_extract rfl rfl) ?_
    refine awl_nil (athen_norm ?_)
    refine awc_cond (b := x6.2) rfl (fun hc8 => ?_) (fun hc8 => ?_)
    · have hr := if_t hc8 hr
      refine awc_seq ?_
      refine awc_region ?_
      refine awl_v (av_assign rfl) ?_
      refine awl_nil (athen_norm ?_)
      refine awc_region ?_
      refine awl_v (av_move rfl) ?_
      refine awl_v (av_fa_ptr fa42_1 rfl rfl) ?_
      refine awl_op (aop_store sz9 rfl rfl rfl rfl rfl rfl rfl ?_)
      have hr := Option.some.inj hr
      subst hr
      exact awl_nil (ablock_norm ((wk_of hX [1, 2] 4 rfl rfl ⟨⟨_, rfl, cv0⟩, ⟨_, rfl, cv0⟩, trivial⟩ ⟨cvo0, cvo0, trivial⟩)))
    · have hr := if_f hc8 hr
      refine awc_seq ?_
      refine awc_region ?_
      obtain ⟨x9, e10, hr⟩ := bnd_some hr
      refine awl_v (av_assertI (c := p1) und57 zero57 rfl e10) ?_
      refine awl_v (av_extract rfl rfl) ?_
      refine awl_v (av_extract rfl rfl) ?_
      refine awl_nil (athen_norm ?_)
      refine awc_cond (b := x9.2) rfl (fun hc11 => ?_) (fun hc11 => ?_)
      · have hr := if_t hc11 hr
        refine awc_seq ?_
        refine awc_region ?_
        refine awl_v (av_assign rfl) ?_
        refine awl_nil (athen_norm ?_)
        refine awc_region ?_
        refine awl_v (av_move rfl) ?_
        refine awl_v (av_fa_ptr fa42_2 rfl rfl) ?_
        refine awl_op (aop_store sz3 rfl rfl rfl rfl rfl rfl rfl ?_)
        refine awl_v (av_fa_ptr fa42_3 rfl rfl) ?_
        refine awl_op (aop_store sz4 rfl rfl rfl rfl rfl rfl rfl ?_)
        have hr := Option.some.inj hr
        subst hr
        exact awl_nil (ablock_norm ((wk_of hX [1, 2] 4 rfl rfl ⟨⟨_, rfl, cv0⟩, ⟨_, rfl, cv0⟩, trivial⟩ ⟨cvo0, cvo0, trivial⟩)))
      · have hr := if_f hc11 hr
        have hr := Option.some.inj hr
        subst hr
        exact awc_skip (ablock_norm ((wk_of hX [1, 2] 4 rfl rfl ⟨⟨_, rfl, cv0⟩, ⟨_, rfl, cv0⟩, trivial⟩ ⟨cvo0, cvo0, trivial⟩)))
  · rintro ⟨s1, s2, s3⟩ rfl
    refine awc_seq ?_
    refine awc_region ?_
    refine awl_v (av_load_ptrN ts42 rfl rfl rfl rfl) ?_
    refine awl_op (aop_store sz42 rfl rfl rfl rfl rfl rfl rfl ?_)
    have hr := Option.some.inj hr
    subst hr
    exact awl_nil (athen_norm (awc_ret (ret_q (l' := [(4, .rp [.str p0.1, .str p0.2, .str s1, .int .i64 s2, .bool s3])]) (wk_of hX [] 4 rfl rfl ⟨⟨_, rfl, cv0⟩, trivial⟩ trivial) rfl ⟨(.inr ⟨_, 5, rfl, ts42, rfl, rfl⟩), trivial⟩)))
  · exact fun r h e st hne hx => hx.elim
theorem f16_runs {p0 : List (Int × (List ((Str × Str) × Cell1))) × Int × Int} {p1 : Int} {p2 : List (Str × Str)} {r : ((Str × Str) × Str × Int × Bool) × (Int × Int) × Int} (hr : f16 p0 p1 p2 = some r) : RunsP Try.prog 16 [.rp [.dm (.int .i64) (.map Y1 (.raw ifN)) p0.1, .int .i64 p0.2.1, .int .i64 p0.2.2], .int .i64 p1, .sl Y1 p2] [.agg [.str r.1.1.1, .str r.1.1.2, .str r.1.2.1, .int .i64 r.1.2.2.1, .bool r.1.2.2.2], .agg [.int .i64 r.2.1.1, .int .i64 r.2.1.2], .int .i64 r.2.2] := by
  refine runs_w Try.func16 Try.ntmps16 rfl (rs := [.cell 6 42, .cell 7 38, .tmp 8]) rfl rfl fun w0 X hX => ?_
  refine awc_seq ?_
  refine awc_region ?_
  refine awl_op (aop_alloc zero42 rfl ?_)
  refine awl_op (aop_alloc zero38 rfl ?_)
  refine awl_v (av_assign rfl) ?_
  refine awl_nil (athen_norm (awc_seq (awc_seq ?_)))
  refine awc_region ?_
  refine awl_v (av_move rfl) ?_
  refine awl_v (av_move rfl) ?_
  refine awl_v (av_move rfl) ?_
  obtain ⟨x1, e2, hr⟩ := bnd_some hr
  refine awl_v (av_call (f26_runs e2).x ent26 rfl rfl) ?_
  refine awl_v (av_assign rfl) ?_
  refine awl_nil (athen_norm (awc_seq ?_))
  refine awc_region ?_
  refine awl_v (av_move rfl) ?_
  refine awl_v (av_neq rfl rfl) ?_
  refine awl_nil (athen_norm ?_)
  refine awc_cond (b := !decide (x1 = 0)) rfl (fun hc3 => ?_) (fun hc3 => ?_)
  · have hr := if_t hc3 hr
    refine awc_seq ?_
    refine awc_region ?_
    refine awl_v (av_build (qs := []) (cs := [.str ([] : Str), .str ([] : Str), .str ([] : Str), .int .i64 0, .bool false]) bt42 rfl rfl rfl) ?_
    refine awl_v (av_build (qs := []) (cs := [.int .i64 0, .int .i64 0]) bt38 rfl rfl rfl) ?_
    refine awl_v (av_move rfl) ?_
    refine awl_op (aop_store sz42 rfl rfl rfl rfl rfl rfl rfl ?_)
    refine awl_op (aop_store sz38 rfl rfl rfl rfl rfl rfl rfl ?_)
    refine awl_v (av_assign rfl) ?_
    have hr := Option.some.inj hr
    subst hr
    exact awl_nil (athen_norm (awc_ret (athen_ret (ret_q (l' := [(6, .rp [.str ([] : Str), .str ([] : Str), .str ([] : Str), .int .i64 0, .bool false]), (7, .rp [.int .i64 0, .int .i64 0]), (8, .int .i64 x1)]) (wk_of hX [] 4 rfl rfl ⟨⟨_, rfl, cv0⟩, ⟨_, rfl, cv0⟩, ⟨_, rfl, cv0⟩, trivial⟩ trivial) rfl ⟨(.inr ⟨_, 5, rfl, ts42, rfl, rfl⟩), (.inr ⟨_, 2, rfl, ts38, rfl, rfl⟩), rfl, trivial⟩))))
  · have hr := if_f hc3 hr
    refine awc_skip (athen_norm (awc_seq ?_))
    refine awc_region ?_
    refine awl_v (av_move rfl) ?_
    refine awl_v (av_move rfl) ?_
    refine awl_v (av_move rfl) ?_
    obtain ⟨x4, e5, hr⟩ := bnd_some hr
    refine awl_v (av_call (f27_runs e5).x ent27 rfl rfl) ?_
    refine awl_v (av_move rfl) ?_
    refine awl_v (av_extract rfl rfl) ?_
    refine awl_v (av_extract rfl rfl) ?_
    refine awl_v (av_extract rfl rfl) ?_
    refine awl_op (aop_alloc zero38 rfl ?_)
    refine awl_v (av_assign rfl) ?_
    refine awl_op (aop_store sz38 rfl rfl rfl rfl rfl rfl rfl ?_)
    refine awl_v (av_assign rfl) ?_
    refine awl_nil (athen_norm (awc_seq (awc_seq ?_)))
    refine awc_region ?_
    refine awl_v (av_move rfl) ?_
    refine awl_v (av_neq rfl rfl) ?_
    refine awl_nil (athen_norm ?_)
    refine awc_cond (b := !decide (x4.2.2 = 0)) rfl (fun hc6 => ?_) (fun hc6 => ?_)
    · have hr := if_t hc6 hr
      refine awc_seq ?_
      refine awc_drawS mixed (([false, false, false, false, false, false], ⟨[(0, .rp [.dm (.int .i64) (.map Y1 (.raw ifN)) p0.1, .int .i64 p0.2.1, .int .i64 p0.2.2]), (2, .sl Y1 p2), (6, .ptr 0 0), (7, .ptr 1 0), (8, .int .i64 0), (11, .ptr 2 0), (10, .dm Y1 (.raw ifN) x4.1), (12, .int .i64 x4.2.2)], [(0, .var 42 [.str ([] : Str), .str ([] : Str), .str ([] : Str), .int .i64 0, .bool false]), (1, .var 38 [.int .i64 0, .int .i64 0]), (2, .var 38 [.int .i64 x4.2.1.1, .int .i64 x4.2.1.2])], 3⟩, [0, 1, 2]) :: ([true, false, false, false, false, false], ⟨[(0, .rp [.dm (.int .i64) (.map Y1 (.raw ifN)) p0.1, .int .i64 p0.2.1, .int .i64 p0.2.2]), (2, .sl Y1 p2), (6, .ptr 0 0), (7, .ptr 1 0), (8, .int .i64 0), (11, .ptr 2 0), (10, .dm Y1 (.raw ifN) x4.1), (12, .int .i64 x4.2.2), (37, .agg [.str ([] : Str), .str ([] : Str), .str ([] : Str), .int .i64 0, .bool false])], [(0, .var 42 [.str ([] : Str), .str ([] : Str), .str ([] : Str), .int .i64 0, .bool false]), (1, .var 38 [.int .i64 0, .int .i64 0]), (2, .var 38 [.int .i64 x4.2.1.1, .int .i64 x4.2.1.2])], 3⟩, [1, 2, 3]) :: ([false, true, false, false, false, false], ⟨[(0, .rp [.dm (.int .i64) (.map Y1 (.raw ifN)) p0.1, .int .i64 p0.2.1, .int .i64 p0.2.2]), (2, .sl Y1 p2), (6, .ptr 0 0), (7, .ptr 1 0), (8, .int .i64 0), (11, .ptr 2 0), (10, .dm Y1 (.raw ifN) x4.1), (12, .int .i64 x4.2.2), (38, .agg [.int .i64 x4.2.1.1, .int .i64 x4.2.1.2])], [(0, .var 42 [.str ([] : Str), .str ([] : Str), .str ([] : Str), .int .i64 0, .bool false]), (1, .var 38 [.int .i64 0, .int .i64 0]), (2, .var 38 [.int .i64 x4.2.1.1, .int .i64 x4.2.1.2])], 3⟩, [0, 2]) :: ([false, false, true, false, false, false], ⟨[(0, .rp [.dm (.int .i64) (.map Y1 (.raw ifN)) p0.1, .int .i64 p0.2.1, .int .i64 p0.2.2]), (2, .sl Y1 p2), (6, .ptr 0 0), (7, .ptr 1 0), (8, .int .i64 0), (11, .ptr 2 0), (10, .dm Y1 (.raw ifN) x4.1), (12, .int .i64 x4.2.2), (39, .int .i64 x4.2.2)], [(0, .var 42 [.str ([] : Str), .str ([] : Str), .str ([] : Str), .int .i64 0, .bool false]), (1, .var 38 [.int .i64 0, .int .i64 0]), (2, .var 38 [.int .i64 x4.2.1.1, .int .i64 x4.2.1.2])], 3⟩, [0, 1]) :: ([true, true, false, false, false, false], ⟨[(0, .rp [.dm (.int .i64) (.map Y1 (.raw ifN)) p0.1, .int .i64 p0.2.1, .int .i64 p0.2.2]), (2, .sl Y1 p2), (6, .ptr 0 0), (7, .ptr 1 0), (8, .int .i64 0), (11, .ptr 2 0), (10, .dm Y1 (.raw ifN) x4.1), (12, .int .i64 x4.2.2), (37, .agg [.str ([] : Str), .str ([] : Str), .str ([] : Str), .int .i64 0, .bool false]), (38, .agg [.int .i64 x4.2.1.1, .int .i64 x4.2.1.2])], [(0, .var 42 [.str ([] : Str), .str ([] : Str), .str ([] : Str), .int .i64 0, .bool false]), (1, .var 38 [.int .i64 0, .int .i64 0]), (2, .var 38 [.int .i64 x4.2.1.1, .int .i64 x4.2.1.2])], 3⟩, [2, 3]) :: ([true, false, true, false, false, false], ⟨[(0, .rp [.dm (.int .i64) (.map Y1 (.raw ifN)) p0.1, .int .i64 p0.2.1, .int .i64 p0.2.2]), (2, .sl Y1 p2), (6, .ptr 0 0), (7, .ptr 1 0), (8, .int .i64 0), (11, .ptr 2 0), (10, .dm Y1 (.raw ifN) x4.1), (12, .int .i64 x4.2.2), (37, .agg [.str ([] : Str), .str ([] : Str), .str ([] : Str), .int .i64 0, .bool false]), (39, .int .i64 x4.2.2)], [(0, .var 42 [.str ([] : Str), .str ([] : Str), .str ([] : Str), .int .i64 0, .bool false]), (1, .var 38 [.int .i64 0, .int .i64 0]), (2, .var 38 [.int .i64 x4.2.1.1, .int .i64 x4.2.1.2])], 3⟩, [1, 3]) :: ([true, false, false, true, false, false], ⟨[(0, .rp [.dm (.int .i64) (.map Y1 (.raw ifN)) p0.1, .int .i64 p0.2.1, .int .i64 p0.2.2]), (2, .sl Y1 p2), (6, .ptr 0 0), (7, .ptr 1 0), (8, .int .i64 0), (11, .ptr 2 0), (10, .dm Y1 (.raw ifN) x4.1), (12, .int .i64 x4.2.2), (37, .agg [.str ([] : Str), .str ([] : Str), .str ([] : Str), .int .i64 0, .bool false])], [(0, .var 42 [.str ([] : Str), .str ([] : Str), .str ([] : Str), .int .i64 0, .bool false]), (1, .var 38 [.int .i64 0, .int .i64 0]), (2, .var 38 [.int .i64 x4.2.1.1, .int .i64 x4.2.1.2])], 3⟩, [1, 2]) :: ([false, true, true, false, false, false], ⟨[(0, .rp [.dm (.int .i64) (.map Y1 (.raw ifN)) p0.1, .int .i64 p0.2.1, .int .i64 p0.2.2]), (2, .sl Y1 p2), (6, .ptr 0 0), (7, .ptr 1 0), (8, .int .i64 0), (11, .ptr 2 0), (10, .dm Y1 (.raw ifN) x4.1), (12, .int .i64 x4.2.2), (38, .agg [.int .i64 x4.2.1.1, .int .i64 x4.2.1.2]), (39, .int .i64 x4.2.2)], [(0, .var 42 [.str ([] : Str), .str ([] : Str), .str ([] : Str), .int .i64 0, .bool false]), (1, .var 38 [.int .i64 0, .int .i64 0]), (2, .var 38 [.int .i64 x4.2.1.1, .int .i64 x4.2.1.2])], 3⟩, [0]) :: ([true, true, true, false, false, false], ⟨[(0, .rp [.dm (.int .i64) (.map Y1 (.raw ifN)) p0.1, .int .i64 p0.2.1, .int .i64 p0.2.2]), (2, .sl Y1 p2), (6, .ptr 0 0), (7, .ptr 1 0), (8, .int .i64 0), (11, .ptr 2 0), (10, .dm Y1 (.raw ifN) x4.1), (12, .int .i64 x4.2.2), (37, .agg [.str ([] : Str), .str ([] : Str), .str ([] : Str), .int .i64 0, .bool false]), (38, .agg [.int .i64 x4.2.1.1, .int .i64 x4.2.1.2]), (39, .int .i64 x4.2.2)], [(0, .var 42 [.str ([] : Str), .str ([] : Str), .str ([] : Str), .int .i64 0, .bool false]), (1, .var 38 [.int .i64 0, .int .i64 0]), (2, .var 38 [.int .i64 x4.2.1.1, .int .i64 x4.2.1.2])], 3⟩, [3]) :: ([true, true, false, true, false, false], ⟨[(0, .rp [.dm (.int .i64) (.map Y1 (.raw ifN)) p0.1, .int .i64 p0.2.1, .int .i64 p0.2.2]), (2, .sl Y1 p2), (6, .ptr 0 0), (7, .ptr 1 0), (8, .int .i64 0), (11, .ptr 2 0), (10, .dm Y1 (.raw ifN) x4.1), (12, .int .i64 x4.2.2), (37, .agg [.str ([] : Str), .str ([] : Str), .str ([] : Str), .int .i64 0, .bool false]), (38, .agg [.int .i64 x4.2.1.1, .int .i64 x4.2.1.2])], [(0, .var 42 [.str ([] : Str), .str ([] : Str), .str ([] : Str), .int .i64 0, .bool false]), (1, .var 38 [.int .i64 0, .int .i64 0]), (2, .var 38 [.int .i64 x4.2.1.1, .int .i64 x4.2.1.2])], 3⟩, [2, 4]) :: ([true, false, true, true, false, false], ⟨[(0, .rp [.dm (.int .i64) (.map Y1 (.raw ifN)) p0.1, .int .i64 p0.2.1, .int .i64 p0.2.2]), (2, .sl Y1 p2), (6, .ptr 0 0), (7, .ptr 1 0), (8, .int .i64 0), (11, .ptr 2 0), (10, .dm Y1 (.raw ifN) x4.1), (12, .int .i64 x4.2.2), (37, .agg [.str ([] : Str), .str ([] : Str), .str ([] : Str), .int .i64 0, .bool false]), (39, .int .i64 x4.2.2)], [(0, .var 42 [.str ([] : Str), .str ([] : Str), .str ([] : Str), .int .i64 0, .bool false]), (1, .var 38 [.int .i64 0, .int .i64 0]), (2, .var 38 [.int .i64 x4.2.1.1, .int .i64 x4.2.1.2])], 3⟩, [1]) :: ([true, true, true, true, false, false], ⟨[(0, .rp [.dm (.int .i64) (.map Y1 (.raw ifN)) p0.1, .int .i64 p0.2.1, .int .i64 p0.2.2]), (2, .sl Y1 p2), (6, .ptr 0 0), (7, .ptr 1 0), (8, .int .i64 0), (11, .ptr 2 0), (10, .dm Y1 (.raw ifN) x4.1), (12, .int .i64 x4.2.2), (37, .agg [.str ([] : Str), .str ([] : Str), .str ([] : Str), .int .i64 0, .bool false]), (38, .agg [.int .i64 x4.2.1.1, .int .i64 x4.2.1.2]), (39, .int .i64 x4.2.2)], [(0, .var 42 [.str ([] : Str), .str ([] : Str), .str ([] : Str), .int .i64 0, .bool false]), (1, .var 38 [.int .i64 0, .int .i64 0]), (2, .var 38 [.int .i64 x4.2.1.1, .int .i64 x4.2.1.2])], 3⟩, [4]) :: ([true, true, false, true, true, false], ⟨[(0, .rp [.dm (.int .i64) (.map Y1 (.raw ifN)) p0.1, .int .i64 p0.2.1, .int .i64 p0.2.2]), (2, .sl Y1 p2), (6, .ptr 0 0), (7, .ptr 1 0), (8, .int .i64 0), (11, .ptr 2 0), (10, .dm Y1 (.raw ifN) x4.1), (12, .int .i64 x4.2.2), (37, .agg [.str ([] : Str), .str ([] : Str), .str ([] : Str), .int .i64 0, .bool false]), (38, .agg [.int .i64 x4.2.1.1, .int .i64 x4.2.1.2])], [(0, .var 42 [.str ([] : Str), .str ([] : Str), .str ([] : Str), .int .i64 0, .bool false]), (1, .var 38 [.int .i64 x4.2.1.1, .int .i64 x4.2.1.2]), (2, .var 38 [.int .i64 x4.2.1.1, .int .i64 x4.2.1.2])], 3⟩, [2]) :: ([true, true, true, true, true, false], ⟨[(0, .rp [.dm (.int .i64) (.map Y1 (.raw ifN)) p0.1, .int .i64 p0.2.1, .int .i64 p0.2.2]), (2, .sl Y1 p2), (6, .ptr 0 0), (7, .ptr 1 0), (8, .int .i64 0), (11, .ptr 2 0), (10, .dm Y1 (.raw ifN) x4.1), (12, .int .i64 x4.2.2), (37, .agg [.str ([] : Str), .str ([] : Str), .str ([] : Str), .int .i64 0, .bool false]), (38, .agg [.int .i64 x4.2.1.1, .int .i64 x4.2.1.2]), (39, .int .i64 x4.2.2)], [(0, .var 42 [.str ([] : Str), .str ([] : Str), .str ([] : Str), .int .i64 0, .bool false]), (1, .var 38 [.int .i64 x4.2.1.1, .int .i64 x4.2.1.2]), (2, .var 38 [.int .i64 x4.2.1.1, .int .i64 x4.2.1.2])], 3⟩, [5]) :: ([true, true, true, true, true, true], ⟨[(0, .rp [.dm (.int .i64) (.map Y1 (.raw ifN)) p0.1, .int .i64 p0.2.1, .int .i64 p0.2.2]), (2, .sl Y1 p2), (6, .ptr 0 0), (7, .ptr 1 0), (8, .int .i64 x4.2.2), (11, .ptr 2 0), (10, .dm Y1 (.raw ifN) x4.1), (12, .int .i64 x4.2.2), (37, .agg [.str ([] : Str), .str ([] : Str), .str ([] : Str), .int .i64 0, .bool false]), (38, .agg [.int .i64 x4.2.1.1, .int .i64 x4.2.1.2]), (39, .int .i64 x4.2.2)], [(0, .var 42 [.str ([] : Str), .str ([] : Str), .str ([] : Str), .int .i64 0, .bool false]), (1, .var 38 [.int .i64 x4.2.1.1, .int .i64 x4.2.1.2]), (2, .var 38 [.int .i64 x4.2.1.1, .int .i64 x4.2.1.2])], 3⟩, []) :: []) ⟨[(0, .rp [.dm (.int .i64) (.map Y1 (.raw ifN)) p0.1, .int .i64 p0.2.1, .int .i64 p0.2.2]), (2, .sl Y1 p2), (6, .ptr 0 0), (7, .ptr 1 0), (8, .int .i64 0), (11, .ptr 2 0), (10, .dm Y1 (.raw ifN) x4.1), (12, .int .i64 x4.2.2)], [(0, .var 42 [.str ([] : Str), .str ([] : Str), .str ([] : Str), .int .i64 0, .bool false]), (1, .var 38 [.int .i64 0, .int .i64 0]), (2, .var 38 [.int .i64 x4.2.1.1, .int .i64 x4.2.1.2])], 3⟩ ⟨[(0, .rp [.dm (.int .i64) (.map Y1 (.raw ifN)) p0.1, .int .i64 p0.2.1, .int .i64 p0.2.2]), (2, .sl Y1 p2), (6, .ptr 0 0), (7, .ptr 1 0), (8, .int .i64 x4.2.2), (11, .ptr 2 0), (10, .dm Y1 (.raw ifN) x4.1), (12, .int .i64 x4.2.2), (37, .agg [.str ([] : Str), .str ([] : Str), .str ([] : Str), .int .i64 0, .bool false]), (38, .agg [.int .i64 x4.2.1.1, .int .i64 x4.2.1.2]), (39, .int .i64 x4.2.2)], [(0, .var 42 [.str ([] : Str), .str ([] : Str), .str ([] : Str), .int .i64 0, .bool false]), (1, .var 38 [.int .i64 x4.2.1.1, .int .i64 x4.2.1.2]), (2, .var 38 [.int .i64 x4.2.1.1, .int .i64 x4.2.1.2])], 3⟩ (wk_of hX [0, 1, 2] 4 rfl rfl ⟨⟨_, rfl, cv0⟩, ⟨_, rfl, cv0⟩, ⟨_, rfl, cv0⟩, ⟨_, rfl, cv0⟩, ⟨_, rfl, cv0⟩, ⟨_, rfl, cv0⟩, ⟨_, rfl, cv0⟩, ⟨_, rfl, cv0⟩, trivial⟩ ⟨cvo0, cvo0, cvo0, trivial⟩) rfl rfl rfl rfl rfl ⟨⟨⟨_, _, rfl, rfl, ?_⟩, ⟨_, _, rfl, rfl, ?_⟩, ⟨_, _, rfl, rfl, ?_⟩, trivial⟩, ⟨⟨_, _, rfl, rfl, ?_⟩, ⟨_, _, rfl, rfl, ?_⟩, ⟨_, _, rfl, rfl, ?_⟩, trivial⟩, ⟨⟨_, _, rfl, rfl, ?_⟩, ⟨_, _, rfl, rfl, ?_⟩, trivial⟩, ⟨⟨_, _, rfl, rfl, ?_⟩, ⟨_, _, rfl, rfl, ?_⟩, trivial⟩, ⟨⟨_, _, rfl, rfl, ?_⟩, ⟨_, _, rfl, rfl, ?_⟩, trivial⟩, ⟨⟨_, _, rfl, rfl, ?_⟩, ⟨_, _, rfl, rfl, ?_⟩, trivial⟩, ⟨⟨_, _, rfl, rfl, ?_⟩, ⟨_, _, rfl, rfl, ?_⟩, trivial⟩, ⟨⟨_, _, rfl, rfl, ?_⟩, trivial⟩, ⟨⟨_, _, rfl, rfl, ?_⟩, trivial⟩, ⟨⟨_, _, rfl, rfl, ?_⟩, ⟨_, _, rfl, rfl, ?_⟩, trivial⟩, ⟨⟨_, _, rfl, rfl, ?_⟩, trivial⟩, ⟨⟨_, _, rfl, rfl, ?_⟩, trivial⟩, ⟨⟨_, _, rfl, rfl, ?_⟩, trivial⟩, ⟨⟨_, _, rfl, rfl, ?_⟩, trivial⟩, trivial, trivial⟩ ?_
      · exact (aop_v (av_build (qs := []) (cs := [.str ([] : Str), .str ([] : Str), .str ([] : Str), .int .i64 0, .bool false]) bt42 rfl rfl rfl) (wk_of hX [0, 1, 2] 4 rfl rfl ⟨⟨_, rfl, cv0⟩, ⟨_, rfl, cv0⟩, ⟨_, rfl, cv0⟩, ⟨_, rfl, cv0⟩, ⟨_, rfl, cv0⟩, ⟨_, rfl, cv0⟩, ⟨_, rfl, cv0⟩, ⟨_, rfl, cv0⟩, ⟨_, rfl, cv0⟩, trivial⟩ ⟨cvo0, cvo0, cvo0, trivial⟩))
      · exact (aop_v (av_load_ptrN ts38 rfl rfl rfl rfl) (wk_of hX [0, 1, 2] 4 rfl rfl ⟨⟨_, rfl, cv0⟩, ⟨_, rfl, cv0⟩, ⟨_, rfl, cv0⟩, ⟨_, rfl, cv0⟩, ⟨_, rfl, cv0⟩, ⟨_, rfl, cv0⟩, ⟨_, rfl, cv0⟩, ⟨_, rfl, cv0⟩, ⟨_, rfl, cv0⟩, trivial⟩ ⟨cvo0, cvo0, cvo0, trivial⟩))
      · exact (aop_v (av_move rfl) (wk_of hX [0, 1, 2] 4 rfl rfl ⟨⟨_, rfl, cv0⟩, ⟨_, rfl, cv0⟩, ⟨_, rfl, cv0⟩, ⟨_, rfl, cv0⟩, ⟨_, rfl, cv0⟩, ⟨_, rfl, cv0⟩, ⟨_, rfl, cv0⟩, ⟨_, rfl, cv0⟩, ⟨_, rfl, cv0⟩, trivial⟩ ⟨cvo0, cvo0, cvo0, trivial⟩))
      · exact (aop_v (av_load_ptrN ts38 rfl rfl rfl rfl) (wk_of hX [0, 1, 2] 4 rfl rfl ⟨⟨_, rfl, cv0⟩, ⟨_, rfl, cv0⟩, ⟨_, rfl, cv0⟩, ⟨_, rfl, cv0⟩, ⟨_, rfl, cv0⟩, ⟨_, rfl, cv0⟩, ⟨_, rfl, cv0⟩, ⟨_, rfl, cv0⟩, ⟨_, rfl, cv0⟩, ⟨_, rfl, cv0⟩, trivial⟩ ⟨cvo0, cvo0, cvo0, trivial⟩))
      · exact (aop_v (av_move rfl) (wk_of hX [0, 1, 2] 4 rfl rfl ⟨⟨_, rfl, cv0⟩, ⟨_, rfl, cv0⟩, ⟨_, rfl, cv0⟩, ⟨_, rfl, cv0⟩, ⟨_, rfl, cv0⟩, ⟨_, rfl, cv0⟩, ⟨_, rfl, cv0⟩, ⟨_, rfl, cv0⟩, ⟨_, rfl, cv0⟩, ⟨_, rfl, cv0⟩, trivial⟩ ⟨cvo0, cvo0, cvo0, trivial⟩))
      · exact (aop_store sz42 rfl rfl rfl rfl rfl rfl rfl (wk_of hX [0, 1, 2] 4 rfl rfl ⟨⟨_, rfl, cv0⟩, ⟨_, rfl, cv0⟩, ⟨_, rfl, cv0⟩, ⟨_, rfl, cv0⟩, ⟨_, rfl, cv0⟩, ⟨_, rfl, cv0⟩, ⟨_, rfl, cv0⟩, ⟨_, rfl, cv0⟩, ⟨_, rfl, cv0⟩, trivial⟩ ⟨cvo0, cvo0, cvo0, trivial⟩))
      · exact (aop_v (av_build (qs := []) (cs := [.str ([] : Str), .str ([] : Str), .str ([] : Str), .int .i64 0, .bool false]) bt42 rfl rfl rfl) (wk_of hX [0, 1, 2] 4 rfl rfl ⟨⟨_, rfl, cv0⟩, ⟨_, rfl, cv0⟩, ⟨_, rfl, cv0⟩, ⟨_, rfl, cv0⟩, ⟨_, rfl, cv0⟩, ⟨_, rfl, cv0⟩, ⟨_, rfl, cv0⟩, ⟨_, rfl, cv0⟩, ⟨_, rfl, cv0⟩, ⟨_, rfl, cv0⟩, trivial⟩ ⟨cvo0, cvo0, cvo0, trivial⟩))
      · exact (aop_v (av_move rfl) (wk_of hX [0, 1, 2] 4 rfl rfl ⟨⟨_, rfl, cv0⟩, ⟨_, rfl, cv0⟩, ⟨_, rfl, cv0⟩, ⟨_, rfl, cv0⟩, ⟨_, rfl, cv0⟩, ⟨_, rfl, cv0⟩, ⟨_, rfl, cv0⟩, ⟨_, rfl, cv0⟩, ⟨_, rfl, cv0⟩, ⟨_, rfl, cv0⟩, trivial⟩ ⟨cvo0, cvo0, cvo0, trivial⟩))
      · exact (aop_v (av_build (qs := []) (cs := [.str ([] : Str), .str ([] : Str), .str ([] : Str), .int .i64 0, .bool false]) bt42 rfl rfl rfl) (wk_of hX [0, 1, 2] 4 rfl rfl ⟨⟨_, rfl, cv0⟩, ⟨_, rfl, cv0⟩, ⟨_, rfl, cv0⟩, ⟨_, rfl, cv0⟩, ⟨_, rfl, cv0⟩, ⟨_, rfl, cv0⟩, ⟨_, rfl, cv0⟩, ⟨_, rfl, cv0⟩, ⟨_, rfl, cv0⟩, ⟨_, rfl, cv0⟩, trivial⟩ ⟨cvo0, cvo0, cvo0, trivial⟩))
      · exact (aop_v (av_load_ptrN ts38 rfl rfl rfl rfl) (wk_of hX [0, 1, 2] 4 rfl rfl ⟨⟨_, rfl, cv0⟩, ⟨_, rfl, cv0⟩, ⟨_, rfl, cv0⟩, ⟨_, rfl, cv0⟩, ⟨_, rfl, cv0⟩, ⟨_, rfl, cv0⟩, ⟨_, rfl, cv0⟩, ⟨_, rfl, cv0⟩, ⟨_, rfl, cv0⟩, ⟨_, rfl, cv0⟩, trivial⟩ ⟨cvo0, cvo0, cvo0, trivial⟩))
      · exact (aop_v (av_move rfl) (wk_of hX [0, 1, 2] 4 rfl rfl ⟨⟨_, rfl, cv0⟩, ⟨_, rfl, cv0⟩, ⟨_, rfl, cv0⟩, ⟨_, rfl, cv0⟩, ⟨_, rfl, cv0⟩, ⟨_, rfl, cv0⟩, ⟨_, rfl, cv0⟩, ⟨_, rfl, cv0⟩, ⟨_, rfl, cv0⟩, ⟨_, rfl, cv0⟩, ⟨_, rfl, cv0⟩, trivial⟩ ⟨cvo0, cvo0, cvo0, trivial⟩))
      · exact (aop_store sz42 rfl rfl rfl rfl rfl rfl rfl (wk_of hX [0, 1, 2] 4 rfl rfl ⟨⟨_, rfl, cv0⟩, ⟨_, rfl, cv0⟩, ⟨_, rfl, cv0⟩, ⟨_, rfl, cv0⟩, ⟨_, rfl, cv0⟩, ⟨_, rfl, cv0⟩, ⟨_, rfl, cv0⟩, ⟨_, rfl, cv0⟩, ⟨_, rfl, cv0⟩, ⟨_, rfl, cv0⟩, trivial⟩ ⟨cvo0, cvo0, cvo0, trivial⟩))
      · exact (aop_v (av_load_ptrN ts38 rfl rfl rfl rfl) (wk_of hX [0, 1, 2] 4 rfl rfl ⟨⟨_, rfl, cv0⟩, ⟨_, rfl, cv0⟩, ⟨_, rfl, cv0⟩, ⟨_, rfl, cv0⟩, ⟨_, rfl, cv0⟩, ⟨_, rfl, cv0⟩, ⟨_, rfl, cv0⟩, ⟨_, rfl, cv0⟩, ⟨_, rfl, cv0⟩, ⟨_, rfl, cv0⟩, ⟨_, rfl, cv0⟩, trivial⟩ ⟨cvo0, cvo0, cvo0, trivial⟩))
      · exact (aop_store sz42 rfl rfl rfl rfl rfl rfl rfl (wk_of hX [0, 1, 2] 4 rfl rfl ⟨⟨_, rfl, cv0⟩, ⟨_, rfl, cv0⟩, ⟨_, rfl, cv0⟩, ⟨_, rfl, cv0⟩, ⟨_, rfl, cv0⟩, ⟨_, rfl, cv0⟩, ⟨_, rfl, cv0⟩, ⟨_, rfl, cv0⟩, ⟨_, rfl, cv0⟩, ⟨_, rfl, cv0⟩, trivial⟩ ⟨cvo0, cvo0, cvo0, trivial⟩))
      · exact (aop_v (av_load_ptrN ts38 rfl rfl rfl rfl) (wk_of hX [0, 1, 2] 4 rfl rfl ⟨⟨_, rfl, cv0⟩, ⟨_, rfl, cv0⟩, ⟨_, rfl, cv0⟩, ⟨_, rfl, cv0⟩, ⟨_, rfl, cv0⟩, ⟨_, rfl, cv0⟩, ⟨_, rfl, cv0⟩, ⟨_, rfl, cv0⟩, ⟨_, rfl, cv0⟩, ⟨_, rfl, cv0⟩, trivial⟩ ⟨cvo0, cvo0, cvo0, trivial⟩))
      · exact (aop_v (av_move rfl) (wk_of hX [0, 1, 2] 4 rfl rfl ⟨⟨_, rfl, cv0⟩, ⟨_, rfl, cv0⟩, ⟨_, rfl, cv0⟩, ⟨_, rfl, cv0⟩, ⟨_, rfl, cv0⟩, ⟨_, rfl, cv0⟩, ⟨_, rfl, cv0⟩, ⟨_, rfl, cv0⟩, ⟨_, rfl, cv0⟩, ⟨_, rfl, cv0⟩, trivial⟩ ⟨cvo0, cvo0, cvo0, trivial⟩))
      · exact (aop_v (av_build (qs := []) (cs := [.str ([] : Str), .str ([] : Str), .str ([] : Str), .int .i64 0, .bool false]) bt42 rfl rfl rfl) (wk_of hX [0, 1, 2] 4 rfl rfl ⟨⟨_, rfl, cv0⟩, ⟨_, rfl, cv0⟩, ⟨_, rfl, cv0⟩, ⟨_, rfl, cv0⟩, ⟨_, rfl, cv0⟩, ⟨_, rfl, cv0⟩, ⟨_, rfl, cv0⟩, ⟨_, rfl, cv0⟩, ⟨_, rfl, cv0⟩, ⟨_, rfl, cv0⟩, ⟨_, rfl, cv0⟩, trivial⟩ ⟨cvo0, cvo0, cvo0, trivial⟩))
      · exact (aop_store sz42 rfl rfl rfl rfl rfl rfl rfl (wk_of hX [0, 1, 2] 4 rfl rfl ⟨⟨_, rfl, cv0⟩, ⟨_, rfl, cv0⟩, ⟨_, rfl, cv0⟩, ⟨_, rfl, cv0⟩, ⟨_, rfl, cv0⟩, ⟨_, rfl, cv0⟩, ⟨_, rfl, cv0⟩, ⟨_, rfl, cv0⟩, ⟨_, rfl, cv0⟩, ⟨_, rfl, cv0⟩, ⟨_, rfl, cv0⟩, trivial⟩ ⟨cvo0, cvo0, cvo0, trivial⟩))
      · exact (aop_v (av_move rfl) (wk_of hX [0, 1, 2] 4 rfl rfl ⟨⟨_, rfl, cv0⟩, ⟨_, rfl, cv0⟩, ⟨_, rfl, cv0⟩, ⟨_, rfl, cv0⟩, ⟨_, rfl, cv0⟩, ⟨_, rfl, cv0⟩, ⟨_, rfl, cv0⟩, ⟨_, rfl, cv0⟩, ⟨_, rfl, cv0⟩, ⟨_, rfl, cv0⟩, ⟨_, rfl, cv0⟩, trivial⟩ ⟨cvo0, cvo0, cvo0, trivial⟩))
      · exact (aop_store sz38 rfl rfl rfl rfl rfl rfl rfl (wk_of hX [0, 1, 2] 4 rfl rfl ⟨⟨_, rfl, cv0⟩, ⟨_, rfl, cv0⟩, ⟨_, rfl, cv0⟩, ⟨_, rfl, cv0⟩, ⟨_, rfl, cv0⟩, ⟨_, rfl, cv0⟩, ⟨_, rfl, cv0⟩, ⟨_, rfl, cv0⟩, ⟨_, rfl, cv0⟩, ⟨_, rfl, cv0⟩, trivial⟩ ⟨cvo0, cvo0, cvo0, trivial⟩))
      · exact (aop_v (av_load_ptrN ts38 rfl rfl rfl rfl) (wk_of hX [0, 1, 2] 4 rfl rfl ⟨⟨_, rfl, cv0⟩, ⟨_, rfl, cv0⟩, ⟨_, rfl, cv0⟩, ⟨_, rfl, cv0⟩, ⟨_, rfl, cv0⟩, ⟨_, rfl, cv0⟩, ⟨_, rfl, cv0⟩, ⟨_, rfl, cv0⟩, ⟨_, rfl, cv0⟩, ⟨_, rfl, cv0⟩, ⟨_, rfl, cv0⟩, trivial⟩ ⟨cvo0, cvo0, cvo0, trivial⟩))
      · exact (aop_store sz38 rfl rfl rfl rfl rfl rfl rfl (wk_of hX [0, 1, 2] 4 rfl rfl ⟨⟨_, rfl, cv0⟩, ⟨_, rfl, cv0⟩, ⟨_, rfl, cv0⟩, ⟨_, rfl, cv0⟩, ⟨_, rfl, cv0⟩, ⟨_, rfl, cv0⟩, ⟨_, rfl, cv0⟩, ⟨_, rfl, cv0⟩, ⟨_, rfl, cv0⟩, ⟨_, rfl, cv0⟩, ⟨_, rfl, cv0⟩, trivial⟩ ⟨cvo0, cvo0, cvo0, trivial⟩))
      · exact (aop_v (av_move rfl) (wk_of hX [0, 1, 2] 4 rfl rfl ⟨⟨_, rfl, cv0⟩, ⟨_, rfl, cv0⟩, ⟨_, rfl, cv0⟩, ⟨_, rfl, cv0⟩, ⟨_, rfl, cv0⟩, ⟨_, rfl, cv0⟩, ⟨_, rfl, cv0⟩, ⟨_, rfl, cv0⟩, ⟨_, rfl, cv0⟩, ⟨_, rfl, cv0⟩, ⟨_, rfl, cv0⟩, trivial⟩ ⟨cvo0, cvo0, cvo0, trivial⟩))
      · exact (aop_v (av_assign rfl) (wk_of hX [0, 1, 2] 4 rfl rfl ⟨⟨_, rfl, cv0⟩, ⟨_, rfl, cv0⟩, ⟨_, rfl, cv0⟩, ⟨_, rfl, cv0⟩, ⟨_, rfl, cv0⟩, ⟨_, rfl, cv0⟩, ⟨_, rfl, cv0⟩, ⟨_, rfl, cv0⟩, ⟨_, rfl, cv0⟩, ⟨_, rfl, cv0⟩, ⟨_, rfl, cv0⟩, trivial⟩ ⟨cvo0, cvo0, cvo0, trivial⟩))
      have hr := Option.some.inj hr
      subst hr
      exact athen_norm (awc_ret (athen_ret (ret_q (l' := [(6, .rp [.str ([] : Str), .str ([] : Str), .str ([] : Str), .int .i64 0, .bool false]), (7, .rp [.int .i64 x4.2.1.1, .int .i64 x4.2.1.2]), (8, .int .i64 x4.2.2)]) (wk_of hX [] 4 rfl rfl ⟨⟨_, rfl, cv0⟩, ⟨_, rfl, cv0⟩, ⟨_, rfl, cv0⟩, trivial⟩ trivial) rfl ⟨(.inr ⟨_, 5, rfl, ts42, rfl, rfl⟩), (.inr ⟨_, 2, rfl, ts38, rfl, rfl⟩), rfl, trivial⟩)))
    · have hr := if_f hc6 hr
      refine awc_skip (athen_norm (awc_seq ?_))
      refine awc_region ?_
      refine awl_v (av_move rfl) ?_
      refine awl_v (av_move rfl) ?_
      refine awl_v (av_len_sl (t := Y1) rfl rfl und22 rfl) ?_
      refine awl_v (av_sub rfl rfl) ?_
      obtain ⟨x7, e8, hr⟩ := bnd_some hr
      refine awl_v (av_ia_sl (t := Y1) (e := x7) und22 sz25 rfl rfl e8) ?_
      refine awl_v (av_load_rpN ts25 rfl rfl rfl) ?_
      refine awl_op (aop_alloc zero25 rfl ?_)
      refine awl_op (aop_store sz25 rfl rfl rfl rfl rfl rfl rfl ?_)
      refine awl_nil (athen_norm (awc_seq ?_))
      refine awc_region ?_
      refine awl_v (av_move rfl) ?_
      refine awl_v (av_load_ptrN ts25 rfl rfl rfl rfl) ?_
      refine awl_v (av_lookup2_dm (kx := x7) (r := .tup [.val ((mget x4.1 x7).getD ifN).1, .bool ((mget x4.1 x7).isSome)]) und52 kt25 zw62 rfl rfl rfl rfl) ?_
      refine awl_v (av_move rfl) ?_
      refine awl_v (av_extract rfl rfl) ?_
      refine awl_v (av_extract rfl rfl) ?_
      refine awl_v (av_assign rfl) ?_
      refine awl_v (av_assign rfl) ?_
      refine awl_nil (athen_norm ?_)
      obtain ⟨o10, e11, hr⟩ := bnd_some hr
      refine awc_join (S := Bool) (R := Unit) (fun s => match s with | s9 => (⟨[(2, .sl Y1 p2), (6, .ptr 0 0), (7, .ptr 1 0), (8, .int .i64 0), (13, .ptr 2 0), (14, .val ((mget x4.1 x7).getD ifN).1), (15, .bool s9)], [(0, .var 42 [.str ([] : Str), .str ([] : Str), .str ([] : Str), .int .i64 0, .bool false]), (1, .var 38 [.int .i64 0, .int .i64 0]), (2, .var 25 [.str x7.1, .str x7.2])], 3⟩ : AS)) (fun _ _ _ => False) e11 (fun hr => ?_) ?_ ?_
      · refine awc_seq ?_
        refine awc_region ?_
        refine awl_v (av_move rfl) ?_
        obtain ⟨x12, e13, hr⟩ := bnd_some hr
        refine awl_v (av_assertI (c := ((mget x4.1 x7).getD ifN)) und57 zero57 rfl e13) ?_
        refine awl_v (av_move rfl) ?_
        refine awl_v (av_extract rfl rfl) ?_
        refine awl_v (av_extract rfl rfl) ?_
        refine awl_v (av_assign rfl) ?_
        refine awl_v (av_assign rfl) ?_
        refine awl_nil (athen_norm (awc_seq ?_))
        refine awc_region ?_
        refine awl_v (av_move rfl) ?_
        refine awl_nil (athen_norm ?_)
        refine awc_cond (b := x12.2) rfl (fun hc14 => ?_) (fun hc14 => ?_)
        · have hr := if_t hc14 hr
          refine awc_region ?_
          refine awl_v (av_move rfl) ?_
          refine awl_v (av_nilCheck_rp rfl) ?_
          refine awl_v (av_fa_rp fa55_0 rfl rfl) ?_
          refine awl_v (av_load_rp ts53 rfl) ?_
          refine awl_v (av_move rfl) ?_
          refine awl_v (av_lookup2_dm (kx := x12.1) (r := .tup [.dm Y1 (.raw ifN) ((mget p0.1 x12.1).getD []), .bool ((mget p0.1 x12.1).isSome)]) und53 kt3 zw52 rfl rfl rfl rfl) ?_
          refine awl_v (av_move rfl) ?_
          refine awl_v (av_extract rfl rfl) ?_
          refine awl_v (av_extract rfl rfl) ?_
          refine awl_v (av_assign rfl) ?_
          have hr := Option.some.inj hr
          subst hr
          exact awl_nil ((wk_of hX [0, 1, 3] 4 rfl rfl ⟨⟨_, rfl, cv0⟩, ⟨_, rfl, cv0⟩, ⟨_, rfl, cv0⟩, ⟨_, rfl, cv0⟩, ⟨_, rfl, cv0⟩, ⟨_, rfl, cv0⟩, ⟨_, rfl, cv0⟩, trivial⟩ ⟨cvo0, cvo0, cvo0, trivial⟩))
        · have hr := if_f hc14 hr
          have hr := Option.some.inj hr
          subst hr
          exact awc_skip ((wk_of hX [0, 1, 3] 4 rfl rfl ⟨⟨_, rfl, cv0⟩, ⟨_, rfl, cv0⟩, ⟨_, rfl, cv0⟩, ⟨_, rfl, cv0⟩, ⟨_, rfl, cv0⟩, ⟨_, rfl, cv0⟩, ⟨_, rfl, cv0⟩, trivial⟩ ⟨cvo0, cvo0, cvo0, trivial⟩))
      · rintro s9 rfl
        refine awc_seq (awc_seq ?_)
        refine awc_region ?_
        refine awl_v (av_move rfl) ?_
        refine awl_v (av_not rfl) ?_
        refine awl_nil (athen_norm ?_)
        refine awc_cond (b := !s9) rfl (fun hc15 => ?_) (fun hc15 => ?_)
        · have hr := if_t hc15 hr
          refine awc_seq ?_
          refine awc_region ?_
          refine awl_v (av_build (qs := []) (cs := [.str ([] : Str), .str ([] : Str), .str ([] : Str), .int .i64 0, .bool false]) bt42 rfl rfl rfl) ?_
          refine awl_v (av_move rfl) ?_
          refine awl_v (av_len_sl (t := Y1) rfl rfl und22 rfl) ?_
          refine awl_v (av_sub rfl rfl) ?_
          refine awl_v (av_build (qs := [(0, [.int .i64 (w64 ((List.length p2 : Int) - 1))]), (1, [.int .i64 1])]) (cs := [.int .i64 (w64 ((List.length p2 : Int) - 1)), .int .i64 1]) bt38 rfl rfl rfl) ?_
          refine awl_op (aop_store sz42 rfl rfl rfl rfl rfl rfl rfl ?_)
          refine awl_op (aop_store sz38 rfl rfl rfl rfl rfl rfl rfl ?_)
          refine awl_v (av_assign rfl) ?_
          have hr := Option.some.inj hr
          subst hr
          exact awl_nil (athen_norm (awc_ret (athen_ret (ret_q (l' := [(6, .rp [.str ([] : Str), .str ([] : Str), .str ([] : Str), .int .i64 0, .bool false]), (7, .rp [.int .i64 (w64 ((List.length p2 : Int) - 1)), .int .i64 1]), (8, .int .i64 8)]) (wk_of hX [] 4 rfl rfl ⟨⟨_, rfl, cv0⟩, ⟨_, rfl, cv0⟩, ⟨_, rfl, cv0⟩, trivial⟩ trivial) rfl ⟨(.inr ⟨_, 5, rfl, ts42, rfl, rfl⟩), (.inr ⟨_, 2, rfl, ts38, rfl, rfl⟩), rfl, trivial⟩))))
        · have hr := if_f hc15 hr
          refine awc_skip (athen_norm (awc_seq ?_))
          refine awc_region ?_
          refine awl_v (av_load_ptrN ts25 rfl rfl rfl rfl) ?_
          refine awl_v (av_move rfl) ?_
          obtain ⟨x16, e17, hr⟩ := bnd_some hr
          refine awl_v (av_call (f28_runs e17).x ent28 rfl rfl) ?_
          refine awl_v (av_build (qs := []) (cs := [.int .i64 0, .int .i64 0]) bt38 rfl rfl rfl) ?_
          refine awl_op (aop_store sz42 rfl rfl rfl rfl rfl rfl rfl ?_)
          refine awl_op (aop_store sz38 rfl rfl rfl rfl rfl rfl rfl ?_)
          refine awl_v (av_assign rfl) ?_
          have hr := Option.some.inj hr
          subst hr
          exact awl_nil (athen_norm (awc_ret (ret_q (l' := [(6, .rp [.str x16.1.1, .str x16.1.2, .str x16.2.1, .int .i64 x16.2.2.1, .bool x16.2.2.2]), (7, .rp [.int .i64 0, .int .i64 0]), (8, .int .i64 0)]) (wk_of hX [] 4 rfl rfl ⟨⟨_, rfl, cv0⟩, ⟨_, rfl, cv0⟩, ⟨_, rfl, cv0⟩, trivial⟩ trivial) rfl ⟨(.inr ⟨_, 5, rfl, ts42, rfl, rfl⟩), (.inr ⟨_, 2, rfl, ts38, rfl, rfl⟩), rfl, trivial⟩)))
      · exact fun r h e st hne hx => hx.elim
theorem f4_runs {r : Bool} (hr : f4 = some r) : RunsP Try.prog 4 [] [.bool r] := by
  refine runs_w Try.func4 Try.ntmps4 rfl (rs := [.tmp 0]) rfl rfl fun w0 X hX => ?_
  refine awc_seq ?_
  refine awc_region ?_
  refine awl_v (av_assign rfl) ?_
  refine awl_nil (athen_norm (awc_seq ?_))
  refine awc_region ?_
  obtain ⟨x1, e2, hr⟩ := bnd_some hr
  refine awl_v (av_call (f7_runs e2).x ent7 rfl rfl) ?_
  refine awl_v (av_move rfl) ?_
  refine awl_v (av_extract rfl rfl) ?_
  refine awl_v (av_extract rfl rfl) ?_
  refine awl_v (av_assign rfl) ?_
  refine awl_v (av_assign rfl) ?_
  refine awl_nil (athen_norm (awc_seq ?_))
  refine awc_region ?_
  obtain ⟨x3, e4, hr⟩ := bnd_some hr
  refine awl_op (aop_callO (σ := []) (as' := []) (f14_runs e4).x ent14 rfl trivial rfl rfl rfl ?_)
  refine awl_v (av_assign rfl) ?_
  refine awl_nil (athen_norm (awc_seq (awc_seq ?_)))
  refine awc_region ?_
  refine awl_v (av_move rfl) ?_
  refine awl_v (av_ptrnil und35 rfl rfl) ?_
  refine awl_nil (athen_norm (awc_cond_f rfl (awc_skip (athen_norm (awc_seq ?_)))))
  refine awc_region ?_
  refine awl_v (av_build (qs := [(0, [.str ([120] : Str)])]) (cs := [.str ([120] : Str), .str ([] : Str)]) bt25 rfl rfl rfl) ?_
  refine awl_op (aop_buildSlice (t := Y1) (qs := [(0, [.str ([120] : Str), .str ([] : Str)])]) (ys := [(([120] : Str), ([] : Str))]) bs22 rfl rfl rfl rfl rfl rfl rfl rfl ?_)
  refine awl_v (av_assign rfl) ?_
  refine awl_nil (athen_norm (awc_seq ?_))
  refine awc_region ?_
  refine awl_v (av_move rfl) ?_
  refine awl_v (av_move rfl) ?_
  refine awl_wk (wk_frz [18, 4, 21] 1 rfl rfl rfl) ?_
  obtain ⟨x5, e6, hr⟩ := bnd_some hr
  refine awl_op (aop_callO (σ := [0]) (as' := [.ptr 0 0, .int .i64 0, .sl Y1 [(([120] : Str), ([] : Str))], .int .i64 0]) (f15_runs e6).x ent15 rfl ⟨cv0, cv0, cv0, cv0, trivial⟩ rfl rfl rfl ?_)
  refine awl_wk (wk_of (st' := ⟨[(0, .bool false), (1, .sl Y1 x1.1), (2, .int .i64 x1.2), (3, .ptr 0 0), (4, .sl Y1 [(([120] : Str), ([] : Str))]), (20, .ptr 0 0), (21, .sl Y1 [(([120] : Str), ([] : Str))]), (22, .tup [.agg [.int .i64 x5.1.1, .int .i64 x5.1.2], .int .i64 x5.2.1])], [(0, .tr (.pt 55 (.pair (.mp (.int .i64) (.mp Y1 (.dat (.raw ifN)))) (.pair (.dat (.int .i64)) (.dat (.int .i64))))) (some x5.2.2)), (1, .dead)], 2⟩) hX [0, 1] 4 rfl rfl ⟨⟨_, rfl, cv0⟩, ⟨_, rfl, cv0⟩, ⟨_, rfl, cv0⟩, ⟨_, rfl, cv0⟩, ⟨_, rfl, cv0⟩, ⟨_, rfl, cv0⟩, ⟨_, rfl, cv0⟩, ⟨_, rfl, cv0⟩, trivial⟩ ⟨cvo0, cvo0, trivial⟩) ?_
  refine awl_v (av_move rfl) ?_
  refine awl_v (av_extract rfl rfl) ?_
  refine awl_v (av_extract rfl rfl) ?_
  refine awl_op (aop_alloc zero38 rfl ?_)
  refine awl_op (aop_store sz38 rfl rfl rfl rfl rfl rfl rfl ?_)
  refine awl_v (av_assign rfl) ?_
  refine awl_nil (athen_norm (awc_seq ?_))
  refine awc_region ?_
  refine awl_v (av_move rfl) ?_
  refine awl_v (av_build (qs := [(0, [.str ([120] : Str)])]) (cs := [.str ([120] : Str), .str ([] : Str)]) bt25 rfl rfl rfl) ?_
  refine awl_v (av_build (qs := [(0, [.str ([120] : Str)])]) (cs := [.str ([120] : Str), .str ([] : Str)]) bt25 rfl rfl rfl) ?_
  refine awl_v (av_buildSlice (t := Y1) (qs := [(0, [.str ([120] : Str), .str ([] : Str)]), (1, [.str ([120] : Str), .str ([] : Str)])]) (ys := [(([120] : Str), ([] : Str)), (([120] : Str), ([] : Str))]) bs22 rfl rfl rfl rfl rfl rfl rfl rfl) ?_
  refine awl_wk (wk_opent (i := 0) [.map 3, .int .i64 x5.2.2.2.1, .int .i64 x5.2.2.2.2] [.mpt (.int .i64) (.mp Y1 (.dat (.raw ifN))) x5.2.2.1 []] rfl rfl rfl rfl) ?_
  obtain ⟨x7, e8, hr⟩ := bnd_some hr
  refine awl_v (av_callBF (as' := [.ptr 0 0, .int .i64 0, .sl Y1 [(([120] : Str), ([] : Str)), (([120] : Str), ([] : Str))]]) (Hs := []) (f16_runs e8).x ent16 rfl ⟨cv0, cv0, cv0, trivial⟩ rfl rfl rfl) ?_
  refine awl_v (av_move rfl) ?_
  refine awl_v (av_extract rfl rfl) ?_
  refine awl_v (av_extract rfl rfl) ?_
  refine awl_v (av_extract rfl rfl) ?_
  refine awl_op (aop_alloc zero42 rfl ?_)
  refine awl_op (aop_alloc zero38 rfl ?_)
  refine awl_op (aop_store sz42 rfl rfl rfl rfl rfl rfl rfl ?_)
  refine awl_op (aop_store sz38 rfl rfl rfl rfl rfl rfl rfl ?_)
  refine awl_v (av_assign rfl) ?_
  refine awl_nil (athen_norm (awc_seq ?_))
  obtain ⟨h9, hr⟩ := chk_some hr
  obtain ⟨h10, hr⟩ := chk_some hr
  refine awc_text [1, 2, 6, 7, 9] [(true, .int .i64 x1.2), (true, .bool (decide (x1.2 = 0))), (true, .bool (decide (x1.2 = 0))), (decide (x1.2 = 0), .sl Y1 x1.1), (decide (x1.2 = 0), .int .i64 (List.length x1.1 : Int)), (decide (x1.2 = 0), .bool (decide ((List.length x1.1 : Int) = 2))), (true, .bool ((decide (x1.2 = 0)) && (decide ((List.length x1.1 : Int) = 2)))), (true, .bool ((decide (x1.2 = 0)) && (decide ((List.length x1.1 : Int) = 2)))), ((decide (x1.2 = 0)) && (decide ((List.length x1.1 : Int) = 2)), .sl Y1 x1.1), ((decide (x1.2 = 0)) && (decide ((List.length x1.1 : Int) = 2)), .rp [.str ((((ix x1.1 0).getD default)).1), .str ((((ix x1.1 0).getD default)).2)]), ((decide (x1.2 = 0)) && (decide ((List.length x1.1 : Int) = 2)), .agg [.str ((((ix x1.1 0).getD default)).1), .str ((((ix x1.1 0).getD default)).2)]), ((decide (x1.2 = 0)) && (decide ((List.length x1.1 : Int) = 2)), .agg [.str ([97] : Str), .str ([98] : Str)]), ((decide (x1.2 = 0)) && (decide ((List.length x1.1 : Int) = 2)), .bool ((decide (bstr ((((ix x1.1 0).getD default)).1) = bstr ([97] : Str))) && (decide (bstr ((((ix x1.1 0).getD default)).2) = bstr ([98] : Str))))), (true, .bool (((decide (x1.2 = 0)) && (decide ((List.length x1.1 : Int) = 2))) && ((decide (bstr ((((ix x1.1 0).getD default)).1) = bstr ([97] : Str))) && (decide (bstr ((((ix x1.1 0).getD default)).2) = bstr ([98] : Str)))))), (true, .bool (((decide (x1.2 = 0)) && (decide ((List.length x1.1 : Int) = 2))) && ((decide (bstr ((((ix x1.1 0).getD default)).1) = bstr ([97] : Str))) && (decide (bstr ((((ix x1.1 0).getD default)).2) = bstr ([98] : Str)))))), (((decide (x1.2 = 0)) && (decide ((List.length x1.1 : Int) = 2))) && ((decide (bstr ((((ix x1.1 0).getD default)).1) = bstr ([97] : Str))) && (decide (bstr ((((ix x1.1 0).getD default)).2) = bstr ([98] : Str)))), .sl Y1 x1.1), (((decide (x1.2 = 0)) && (decide ((List.length x1.1 : Int) = 2))) && ((decide (bstr ((((ix x1.1 0).getD default)).1) = bstr ([97] : Str))) && (decide (bstr ((((ix x1.1 0).getD default)).2) = bstr ([98] : Str)))), .rp [.str ((((ix x1.1 1).getD default)).1), .str ((((ix x1.1 1).getD default)).2)]), (((decide (x1.2 = 0)) && (decide ((List.length x1.1 : Int) = 2))) && ((decide (bstr ((((ix x1.1 0).getD default)).1) = bstr ([97] : Str))) && (decide (bstr ((((ix x1.1 0).getD default)).2) = bstr ([98] : Str)))), .agg [.str ((((ix x1.1 1).getD default)).1), .str ((((ix x1.1 1).getD default)).2)]), (((decide (x1.2 = 0)) && (decide ((List.length x1.1 : Int) = 2))) && ((decide (bstr ((((ix x1.1 0).getD default)).1) = bstr ([97] : Str))) && (decide (bstr ((((ix x1.1 0).getD default)).2) = bstr ([98] : Str)))), .agg [.str ([99, 46, 100] : Str), .str ([] : Str)]), (((decide (x1.2 = 0)) && (decide ((List.length x1.1 : Int) = 2))) && ((decide (bstr ((((ix x1.1 0).getD default)).1) = bstr ([97] : Str))) && (decide (bstr ((((ix x1.1 0).getD default)).2) = bstr ([98] : Str)))), .bool ((decide (bstr ((((ix x1.1 1).getD default)).1) = bstr ([99, 46, 100] : Str))) && (decide (bstr ((((ix x1.1 1).getD default)).2) = bstr ([] : Str))))), (true, .bool ((((decide (x1.2 = 0)) && (decide ((List.length x1.1 : Int) = 2))) && ((decide (bstr ((((ix x1.1 0).getD default)).1) = bstr ([97] : Str))) && (decide (bstr ((((ix x1.1 0).getD default)).2) = bstr ([98] : Str))))) && ((decide (bstr ((((ix x1.1 1).getD default)).1) = bstr ([99, 46, 100] : Str))) && (decide (bstr ((((ix x1.1 1).getD default)).2) = bstr ([] : Str)))))), (true, .bool ((((decide (x1.2 = 0)) && (decide ((List.length x1.1 : Int) = 2))) && ((decide (bstr ((((ix x1.1 0).getD default)).1) = bstr ([97] : Str))) && (decide (bstr ((((ix x1.1 0).getD default)).2) = bstr ([98] : Str))))) && ((decide (bstr ((((ix x1.1 1).getD default)).1) = bstr ([99, 46, 100] : Str))) && (decide (bstr ((((ix x1.1 1).getD default)).2) = bstr ([] : Str)))))), ((((decide (x1.2 = 0)) && (decide ((List.length x1.1 : Int) = 2))) && ((decide (bstr ((((ix x1.1 0).getD default)).1) = bstr ([97] : Str))) && (decide (bstr ((((ix x1.1 0).getD default)).2) = bstr ([98] : Str))))) && ((decide (bstr ((((ix x1.1 1).getD default)).1) = bstr ([99, 46, 100] : Str))) && (decide (bstr ((((ix x1.1 1).getD default)).2) = bstr ([] : Str)))), .int .i64 x5.2.1), ((((decide (x1.2 = 0)) && (decide ((List.length x1.1 : Int) = 2))) && ((decide (bstr ((((ix x1.1 0).getD default)).1) = bstr ([97] : Str))) && (decide (bstr ((((ix x1.1 0).getD default)).2) = bstr ([98] : Str))))) && ((decide (bstr ((((ix x1.1 1).getD default)).1) = bstr ([99, 46, 100] : Str))) && (decide (bstr ((((ix x1.1 1).getD default)).2) = bstr ([] : Str)))), .bool (decide (x5.2.1 = 0))), (true, .bool (((((decide (x1.2 = 0)) && (decide ((List.length x1.1 : Int) = 2))) && ((decide (bstr ((((ix x1.1 0).getD default)).1) = bstr ([97] : Str))) && (decide (bstr ((((ix x1.1 0).getD default)).2) = bstr ([98] : Str))))) && ((decide (bstr ((((ix x1.1 1).getD default)).1) = bstr ([99, 46, 100] : Str))) && (decide (bstr ((((ix x1.1 1).getD default)).2) = bstr ([] : Str))))) && (decide (x5.2.1 = 0)))), (true, .bool (((((decide (x1.2 = 0)) && (decide ((List.length x1.1 : Int) = 2))) && ((decide (bstr ((((ix x1.1 0).getD default)).1) = bstr ([97] : Str))) && (decide (bstr ((((ix x1.1 0).getD default)).2) = bstr ([98] : Str))))) && ((decide (bstr ((((ix x1.1 1).getD default)).1) = bstr ([99, 46, 100] : Str))) && (decide (bstr ((((ix x1.1 1).getD default)).2) = bstr ([] : Str))))) && (decide (x5.2.1 = 0)))), (((((decide (x1.2 = 0)) && (decide ((List.length x1.1 : Int) = 2))) && ((decide (bstr ((((ix x1.1 0).getD default)).1) = bstr ([97] : Str))) && (decide (bstr ((((ix x1.1 0).getD default)).2) = bstr ([98] : Str))))) && ((decide (bstr ((((ix x1.1 1).getD default)).1) = bstr ([99, 46, 100] : Str))) && (decide (bstr ((((ix x1.1 1).getD default)).2) = bstr ([] : Str))))) && (decide (x5.2.1 = 0)), .int .i64 x7.2.2), (((((decide (x1.2 = 0)) && (decide ((List.length x1.1 : Int) = 2))) && ((decide (bstr ((((ix x1.1 0).getD default)).1) = bstr ([97] : Str))) && (decide (bstr ((((ix x1.1 0).getD default)).2) = bstr ([98] : Str))))) && ((decide (bstr ((((ix x1.1 1).getD default)).1) = bstr ([99, 46, 100] : Str))) && (decide (bstr ((((ix x1.1 1).getD default)).2) = bstr ([] : Str))))) && (decide (x5.2.1 = 0)), .bool (decide (x7.2.2 = 0))), (true, .bool ((((((decide (x1.2 = 0)) && (decide ((List.length x1.1 : Int) = 2))) && ((decide (bstr ((((ix x1.1 0).getD default)).1) = bstr ([97] : Str))) && (decide (bstr ((((ix x1.1 0).getD default)).2) = bstr ([98] : Str))))) && ((decide (bstr ((((ix x1.1 1).getD default)).1) = bstr ([99, 46, 100] : Str))) && (decide (bstr ((((ix x1.1 1).getD default)).2) = bstr ([] : Str))))) && (decide (x5.2.1 = 0))) && (decide (x7.2.2 = 0)))), (true, .bool ((((((decide (x1.2 = 0)) && (decide ((List.length x1.1 : Int) = 2))) && ((decide (bstr ((((ix x1.1 0).getD default)).1) = bstr ([97] : Str))) && (decide (bstr ((((ix x1.1 0).getD default)).2) = bstr ([98] : Str))))) && ((decide (bstr ((((ix x1.1 1).getD default)).1) = bstr ([99, 46, 100] : Str))) && (decide (bstr ((((ix x1.1 1).getD default)).2) = bstr ([] : Str))))) && (decide (x5.2.1 = 0))) && (decide (x7.2.2 = 0)))), ((((((decide (x1.2 = 0)) && (decide ((List.length x1.1 : Int) = 2))) && ((decide (bstr ((((ix x1.1 0).getD default)).1) = bstr ([97] : Str))) && (decide (bstr ((((ix x1.1 0).getD default)).2) = bstr ([98] : Str))))) && ((decide (bstr ((((ix x1.1 1).getD default)).1) = bstr ([99, 46, 100] : Str))) && (decide (bstr ((((ix x1.1 1).getD default)).2) = bstr ([] : Str))))) && (decide (x5.2.1 = 0))) && (decide (x7.2.2 = 0)), .ptr 4 4), ((((((decide (x1.2 = 0)) && (decide ((List.length x1.1 : Int) = 2))) && ((decide (bstr ((((ix x1.1 0).getD default)).1) = bstr ([97] : Str))) && (decide (bstr ((((ix x1.1 0).getD default)).2) = bstr ([98] : Str))))) && ((decide (bstr ((((ix x1.1 1).getD default)).1) = bstr ([99, 46, 100] : Str))) && (decide (bstr ((((ix x1.1 1).getD default)).2) = bstr ([] : Str))))) && (decide (x5.2.1 = 0))) && (decide (x7.2.2 = 0)), .bool x7.1.2.2.2), (true, .bool (((((((decide (x1.2 = 0)) && (decide ((List.length x1.1 : Int) = 2))) && ((decide (bstr ((((ix x1.1 0).getD default)).1) = bstr ([97] : Str))) && (decide (bstr ((((ix x1.1 0).getD default)).2) = bstr ([98] : Str))))) && ((decide (bstr ((((ix x1.1 1).getD default)).1) = bstr ([99, 46, 100] : Str))) && (decide (bstr ((((ix x1.1 1).getD default)).2) = bstr ([] : Str))))) && (decide (x5.2.1 = 0))) && (decide (x7.2.2 = 0))) && x7.1.2.2.2)), (true, .bool (((((((decide (x1.2 = 0)) && (decide ((List.length x1.1 : Int) = 2))) && ((decide (bstr ((((ix x1.1 0).getD default)).1) = bstr ([97] : Str))) && (decide (bstr ((((ix x1.1 0).getD default)).2) = bstr ([98] : Str))))) && ((decide (bstr ((((ix x1.1 1).getD default)).1) = bstr ([99, 46, 100] : Str))) && (decide (bstr ((((ix x1.1 1).getD default)).2) = bstr ([] : Str))))) && (decide (x5.2.1 = 0))) && (decide (x7.2.2 = 0))) && x7.1.2.2.2)), (((((((decide (x1.2 = 0)) && (decide ((List.length x1.1 : Int) = 2))) && ((decide (bstr ((((ix x1.1 0).getD default)).1) = bstr ([97] : Str))) && (decide (bstr ((((ix x1.1 0).getD default)).2) = bstr ([98] : Str))))) && ((decide (bstr ((((ix x1.1 1).getD default)).1) = bstr ([99, 46, 100] : Str))) && (decide (bstr ((((ix x1.1 1).getD default)).2) = bstr ([] : Str))))) && (decide (x5.2.1 = 0))) && (decide (x7.2.2 = 0))) && x7.1.2.2.2, .ptr 4 3), (((((((decide (x1.2 = 0)) && (decide ((List.length x1.1 : Int) = 2))) && ((decide (bstr ((((ix x1.1 0).getD default)).1) = bstr ([97] : Str))) && (decide (bstr ((((ix x1.1 0).getD default)).2) = bstr ([98] : Str))))) && ((decide (bstr ((((ix x1.1 1).getD default)).1) = bstr ([99, 46, 100] : Str))) && (decide (bstr ((((ix x1.1 1).getD default)).2) = bstr ([] : Str))))) && (decide (x5.2.1 = 0))) && (decide (x7.2.2 = 0))) && x7.1.2.2.2, .int .i64 x7.1.2.2.1), (((((((decide (x1.2 = 0)) && (decide ((List.length x1.1 : Int) = 2))) && ((decide (bstr ((((ix x1.1 0).getD default)).1) = bstr ([97] : Str))) && (decide (bstr ((((ix x1.1 0).getD default)).2) = bstr ([98] : Str))))) && ((decide (bstr ((((ix x1.1 1).getD default)).1) = bstr ([99, 46, 100] : Str))) && (decide (bstr ((((ix x1.1 1).getD default)).2) = bstr ([] : Str))))) && (decide (x5.2.1 = 0))) && (decide (x7.2.2 = 0))) && x7.1.2.2.2, .bool (decide (x7.1.2.2.1 = 0))), (true, .bool ((((((((decide (x1.2 = 0)) && (decide ((List.length x1.1 : Int) = 2))) && ((decide (bstr ((((ix x1.1 0).getD default)).1) = bstr ([97] : Str))) && (decide (bstr ((((ix x1.1 0).getD default)).2) = bstr ([98] : Str))))) && ((decide (bstr ((((ix x1.1 1).getD default)).1) = bstr ([99, 46, 100] : Str))) && (decide (bstr ((((ix x1.1 1).getD default)).2) = bstr ([] : Str))))) && (decide (x5.2.1 = 0))) && (decide (x7.2.2 = 0))) && x7.1.2.2.2) && (decide (x7.1.2.2.1 = 0)))), (true, .bool ((((((((decide (x1.2 = 0)) && (decide ((List.length x1.1 : Int) = 2))) && ((decide (bstr ((((ix x1.1 0).getD default)).1) = bstr ([97] : Str))) && (decide (bstr ((((ix x1.1 0).getD default)).2) = bstr ([98] : Str))))) && ((decide (bstr ((((ix x1.1 1).getD default)).1) = bstr ([99, 46, 100] : Str))) && (decide (bstr ((((ix x1.1 1).getD default)).2) = bstr ([] : Str))))) && (decide (x5.2.1 = 0))) && (decide (x7.2.2 = 0))) && x7.1.2.2.2) && (decide (x7.1.2.2.1 = 0))))] [[], [0], [1], [2], [3, 2], [4, 2], [5, 2], [6], [7], [8, 7], [9, 7], [7], [10, 11, 7], [12, 7], [13], [14], [15, 14], [16, 14], [14], [17, 18, 14], [19, 14], [20], [21], [22, 21], [23, 21], [24], [25], [26, 25], [27, 25], [28], [29], [30, 29], [31, 29], [32], [33], [34, 33], [35, 33], [36, 33], [37]] [38] rfl rfl rfl rfl rfl ⟨?_, ?_, ?_, ?_, ?_, ?_, ?_, ?_, ?_, ?_, ?_, ?_, ?_, ?_, ?_, ?_, ?_, ?_, ?_, ?_, ?_, ?_, ?_, ?_, ?_, ?_, ?_, ?_, ?_, ?_, ?_, ?_, ?_, ?_, ?_, ?_, ?_, ?_, ?_, trivial⟩ (allT_of ⟨rfl, trivial⟩) ?_
  · exact ob_v rfl (fun hg => allT_of trivial) (fun hg => av_move rfl)
  · exact ob_v rfl (fun hg => allT_of ⟨rfl, trivial⟩) (fun hg => av_eql rfl rfl)
  · exact ob_v rfl (fun hg => allT_of ⟨rfl, trivial⟩) (fun hg => av_move rfl)
  · exact ob_v ⟨rfl, rfl, rfl, _, rfl, rfl⟩ (fun hg => allT_of ⟨rfl, trivial⟩) (fun hg => av_move rfl)
  · exact ob_v ⟨rfl, rfl, rfl, _, rfl, rfl⟩ (fun hg => allT_of ⟨hg, rfl, trivial⟩) (fun hg => av_len_sl (t := Y1) rfl rfl und22 rfl)
  · exact ob_v ⟨rfl, rfl, rfl, _, rfl, rfl⟩ (fun hg => allT_of ⟨hg, rfl, trivial⟩) (fun hg => av_eql rfl rfl)
  · exact ob_pick (b := true) (p := decide (x1.2 = 0)) (q := decide ((List.length x1.1 : Int) = 2)) rfl rfl rfl (fun hg => allT_of ⟨rfl, trivial⟩) rfl rfl rfl rfl rfl
  · exact ob_v rfl (fun hg => allT_of ⟨rfl, trivial⟩) (fun hg => av_move rfl)
  · exact ob_v ⟨rfl, rfl, rfl, _, rfl, rfl⟩ (fun hg => allT_of ⟨rfl, trivial⟩) (fun hg => av_move rfl)
  · exact ob_v ⟨rfl, rfl, rfl, _, rfl, rfl⟩ (fun hg => allT_of ⟨hg, rfl, trivial⟩) (fun hg => av_ia_sl (t := Y1) (e := ((ix x1.1 0).getD default)) und22 sz25 rfl rfl (get_g h9 hg))
  · exact ob_v ⟨rfl, rfl, rfl, _, rfl, rfl⟩ (fun hg => allT_of ⟨hg, rfl, trivial⟩) (fun hg => av_load_rpN ts25 rfl rfl rfl)
  · exact ob_v ⟨rfl, rfl, rfl, _, rfl, rfl⟩ (fun hg => allT_of ⟨rfl, trivial⟩) (fun hg => av_build (qs := [(0, [.str ([97] : Str)]), (1, [.str ([98] : Str)])]) (cs := [.str ([97] : Str), .str ([98] : Str)]) bt25 rfl rfl rfl)
  · exact ob_v ⟨rfl, rfl, rfl, _, rfl, rfl⟩ (fun hg => allT_of ⟨hg, hg, rfl, trivial⟩) (fun hg => av_eqlA (r := (decide (bstr ((((ix x1.1 0).getD default)).1) = bstr ([97] : Str))) && (decide (bstr ((((ix x1.1 0).getD default)).2) = bstr ([98] : Str)))) eq25 rfl rfl rfl rfl rfl rfl)
  · exact ob_pick (b := true) (p := (decide (x1.2 = 0)) && (decide ((List.length x1.1 : Int) = 2))) (q := (decide (bstr ((((ix x1.1 0).getD default)).1) = bstr ([97] : Str))) && (decide (bstr ((((ix x1.1 0).getD default)).2) = bstr ([98] : Str)))) rfl rfl rfl (fun hg => allT_of ⟨rfl, trivial⟩) rfl rfl rfl rfl rfl
  · exact ob_v rfl (fun hg => allT_of ⟨rfl, trivial⟩) (fun hg => av_move rfl)
  · exact ob_v ⟨rfl, rfl, rfl, _, rfl, rfl⟩ (fun hg => allT_of ⟨rfl, trivial⟩) (fun hg => av_move rfl)
  · exact ob_v ⟨rfl, rfl, rfl, _, rfl, rfl⟩ (fun hg => allT_of ⟨hg, rfl, trivial⟩) (fun hg => av_ia_sl (t := Y1) (e := ((ix x1.1 1).getD default)) und22 sz25 rfl rfl (get_g h10 hg))
  · exact ob_v ⟨rfl, rfl, rfl, _, rfl, rfl⟩ (fun hg => allT_of ⟨hg, rfl, trivial⟩) (fun hg => av_load_rpN ts25 rfl rfl rfl)
  · exact ob_v ⟨rfl, rfl, rfl, _, rfl, rfl⟩ (fun hg => allT_of ⟨rfl, trivial⟩) (fun hg => av_build (qs := [(0, [.str ([99, 46, 100] : Str)])]) (cs := [.str ([99, 46, 100] : Str), .str ([] : Str)]) bt25 rfl rfl rfl)
  · exact ob_v ⟨rfl, rfl, rfl, _, rfl, rfl⟩ (fun hg => allT_of ⟨hg, hg, rfl, trivial⟩) (fun hg => av_eqlA (r := (decide (bstr ((((ix x1.1 1).getD default)).1) = bstr ([99, 46, 100] : Str))) && (decide (bstr ((((ix x1.1 1).getD default)).2) = bstr ([] : Str)))) eq25 rfl rfl rfl rfl rfl rfl)
  · exact ob_pick (b := true) (p := ((decide (x1.2 = 0)) && (decide ((List.length x1.1 : Int) = 2))) && ((decide (bstr ((((ix x1.1 0).getD default)).1) = bstr ([97] : Str))) && (decide (bstr ((((ix x1.1 0).getD default)).2) = bstr ([98] : Str))))) (q := (decide (bstr ((((ix x1.1 1).getD default)).1) = bstr ([99, 46, 100] : Str))) && (decide (bstr ((((ix x1.1 1).getD default)).2) = bstr ([] : Str)))) rfl rfl rfl (fun hg => allT_of ⟨rfl, trivial⟩) rfl rfl rfl rfl rfl
  · exact ob_v rfl (fun hg => allT_of ⟨rfl, trivial⟩) (fun hg => av_move rfl)
  · exact ob_v ⟨rfl, rfl, rfl, _, rfl, rfl⟩ (fun hg => allT_of ⟨rfl, trivial⟩) (fun hg => av_move rfl)
  · exact ob_v ⟨rfl, rfl, rfl, _, rfl, rfl⟩ (fun hg => allT_of ⟨hg, rfl, trivial⟩) (fun hg => av_eql rfl rfl)
  · exact ob_pick (b := true) (p := (((decide (x1.2 = 0)) && (decide ((List.length x1.1 : Int) = 2))) && ((decide (bstr ((((ix x1.1 0).getD default)).1) = bstr ([97] : Str))) && (decide (bstr ((((ix x1.1 0).getD default)).2) = bstr ([98] : Str))))) && ((decide (bstr ((((ix x1.1 1).getD default)).1) = bstr ([99, 46, 100] : Str))) && (decide (bstr ((((ix x1.1 1).getD default)).2) = bstr ([] : Str))))) (q := decide (x5.2.1 = 0)) rfl rfl rfl (fun hg => allT_of ⟨rfl, trivial⟩) rfl rfl rfl rfl rfl
  · exact ob_v rfl (fun hg => allT_of ⟨rfl, trivial⟩) (fun hg => av_move rfl)
  · exact ob_v ⟨rfl, rfl, rfl, _, rfl, rfl⟩ (fun hg => allT_of ⟨rfl, trivial⟩) (fun hg => av_move rfl)
  · exact ob_v ⟨rfl, rfl, rfl, _, rfl, rfl⟩ (fun hg => allT_of ⟨hg, rfl, trivial⟩) (fun hg => av_eql rfl rfl)
  · exact ob_pick (b := true) (p := ((((decide (x1.2 = 0)) && (decide ((List.length x1.1 : Int) = 2))) && ((decide (bstr ((((ix x1.1 0).getD default)).1) = bstr ([97] : Str))) && (decide (bstr ((((ix x1.1 0).getD default)).2) = bstr ([98] : Str))))) && ((decide (bstr ((((ix x1.1 1).getD default)).1) = bstr ([99, 46, 100] : Str))) && (decide (bstr ((((ix x1.1 1).getD default)).2) = bstr ([] : Str))))) && (decide (x5.2.1 = 0))) (q := decide (x7.2.2 = 0)) rfl rfl rfl (fun hg => allT_of ⟨rfl, trivial⟩) rfl rfl rfl rfl rfl
  · exact ob_v rfl (fun hg => allT_of ⟨rfl, trivial⟩) (fun hg => av_move rfl)
  · exact ob_v ⟨rfl, rfl, rfl, _, rfl, rfl⟩ (fun hg => allT_of ⟨rfl, trivial⟩) (fun hg => av_fa_ptr fa42_3 rfl rfl)
  · exact ob_v ⟨rfl, rfl, rfl, _, rfl, rfl⟩ (fun hg => allT_of ⟨hg, rfl, trivial⟩) (fun hg => av_load_ptr ts4 rfl rfl rfl)
  · exact ob_pick (b := true) (p := (((((decide (x1.2 = 0)) && (decide ((List.length x1.1 : Int) = 2))) && ((decide (bstr ((((ix x1.1 0).getD default)).1) = bstr ([97] : Str))) && (decide (bstr ((((ix x1.1 0).getD default)).2) = bstr ([98] : Str))))) && ((decide (bstr ((((ix x1.1 1).getD default)).1) = bstr ([99, 46, 100] : Str))) && (decide (bstr ((((ix x1.1 1).getD default)).2) = bstr ([] : Str))))) && (decide (x5.2.1 = 0))) && (decide (x7.2.2 = 0))) (q := x7.1.2.2.2) rfl rfl rfl (fun hg => allT_of ⟨rfl, trivial⟩) rfl rfl rfl rfl rfl
  · exact ob_v rfl (fun hg => allT_of ⟨rfl, trivial⟩) (fun hg => av_move rfl)
  · exact ob_v ⟨rfl, rfl, rfl, _, rfl, rfl⟩ (fun hg => allT_of ⟨rfl, trivial⟩) (fun hg => av_fa_ptr fa42_2 rfl rfl)
  · exact ob_v ⟨rfl, rfl, rfl, _, rfl, rfl⟩ (fun hg => allT_of ⟨hg, rfl, trivial⟩) (fun hg => av_load_ptr ts3 rfl rfl rfl)
  · exact ob_v ⟨rfl, rfl, rfl, _, rfl, rfl⟩ (fun hg => allT_of ⟨hg, rfl, trivial⟩) (fun hg => av_eql rfl rfl)
  · exact ob_pick (b := true) (p := ((((((decide (x1.2 = 0)) && (decide ((List.length x1.1 : Int) = 2))) && ((decide (bstr ((((ix x1.1 0).getD default)).1) = bstr ([97] : Str))) && (decide (bstr ((((ix x1.1 0).getD default)).2) = bstr ([98] : Str))))) && ((decide (bstr ((((ix x1.1 1).getD default)).1) = bstr ([99, 46, 100] : Str))) && (decide (bstr ((((ix x1.1 1).getD default)).2) = bstr ([] : Str))))) && (decide (x5.2.1 = 0))) && (decide (x7.2.2 = 0))) && x7.1.2.2.2) (q := decide (x7.1.2.2.1 = 0)) rfl rfl rfl (fun hg => allT_of ⟨rfl, trivial⟩) rfl rfl rfl rfl rfl
  · exact ob_v rfl (fun hg => allT_of ⟨rfl, trivial⟩) (fun hg => av_assign rfl)
  have hr := Option.some.inj hr
  subst hr
  exact athen_norm (awc_ret (ret_q (l' := [(0, .bool ((((((((decide (x1.2 = 0)) && (decide ((List.length x1.1 : Int) = 2))) && ((decide (bstr ((((ix x1.1 0).getD default)).1) = bstr ([97] : Str))) && (decide (bstr ((((ix x1.1 0).getD default)).2) = bstr ([98] : Str))))) && ((decide (bstr ((((ix x1.1 1).getD default)).1) = bstr ([99, 46, 100] : Str))) && (decide (bstr ((((ix x1.1 1).getD default)).2) = bstr ([] : Str))))) && (decide (x5.2.1 = 0))) && (decide (x7.2.2 = 0))) && x7.1.2.2.2) && (decide (x7.1.2.2.1 = 0))))]) (wk_of hX [] 4 rfl rfl ⟨⟨_, rfl, cv0⟩, trivial⟩ trivial) rfl ⟨rfl, trivial⟩))
theorem f5_runs {p0 : List (Str × Str)} {r : Str × Int} (hr : f5 p0 = some r) : RunsP Try.prog 5 [.sl Y1 p0] [.str r.1, .int .i64 r.2] := by
  refine runs_w Try.func5 Try.ntmps5 rfl (rs := [.tmp 2, .tmp 3]) rfl rfl fun w0 X hX => ?_
  refine awc_seq ?_
  refine awc_region ?_
  refine awl_v (av_assign rfl) ?_
  refine awl_v (av_assign rfl) ?_
  refine awl_nil (athen_norm (awc_seq (awc_seq ?_)))
  refine awc_region ?_
  refine awl_v (av_move rfl) ?_
  obtain ⟨x1, e2, hr⟩ := bnd_some hr
  refine awl_v (av_call (f9_runs e2).x ent9 rfl rfl) ?_
  refine awl_v (av_not rfl) ?_
  refine awl_nil (athen_norm ?_)
  refine awc_cond (b := !x1) rfl (fun hc3 => ?_) (fun hc3 => ?_)
  · have hr := if_t hc3 hr
    refine awc_seq ?_
    refine awc_region ?_
    refine awl_v (av_assign rfl) ?_
    refine awl_v (av_assign rfl) ?_
    have hr := Option.some.inj hr
    subst hr
    exact awl_nil (athen_norm (awc_ret (athen_ret (ret_q (l' := [(2, .str ([] : Str)), (3, .int .i64 1)]) (wk_of hX [] 4 rfl rfl ⟨⟨_, rfl, cv0⟩, ⟨_, rfl, cv0⟩, trivial⟩ trivial) rfl ⟨rfl, rfl, trivial⟩))))
  · have hr := if_f hc3 hr
    refine awc_skip (athen_norm (awc_seq ?_))
    refine awc_region ?_
    refine awl_v (av_move rfl) ?_
    obtain ⟨x4, e5, hr⟩ := bnd_some hr
    refine awl_v (av_call (f17_runs e5).x ent17 rfl rfl) ?_
    refine awl_v (av_assign rfl) ?_
    refine awl_v (av_assign rfl) ?_
    have hr := Option.some.inj hr
    subst hr
    exact awl_nil (athen_norm (awc_ret (ret_q (l' := [(2, .str x4), (3, .int .i64 0)]) (wk_of hX [] 4 rfl rfl ⟨⟨_, rfl, cv0⟩, ⟨_, rfl, cv0⟩, trivial⟩ trivial) rfl ⟨rfl, rfl, trivial⟩)))
theorem f22_runs {p0 : Str × Str} {r : Bool} (hr : f22 p0 = some r) : RunsP Try.prog 22 [.agg [.str p0.1, .str p0.2]] [.bool r] := by
  refine runs_w Try.func22 Try.ntmps22 rfl (rs := [.tmp 2]) rfl rfl fun w0 X hX => ?_
  refine awc_seq ?_
  refine awc_region ?_
  refine awl_op (aop_box rfl rfl ?_)
  refine awl_v (av_assign rfl) ?_
  refine awl_nil (athen_norm (awc_seq (awc_seq ?_)))
  refine awc_region ?_
  refine awl_v (av_fa_ptr fa25_0 rfl rfl) ?_
  refine awl_v (av_load_ptr ts9 rfl rfl rfl) ?_
  refine awl_v (av_fa_ptr fa25_1 rfl rfl) ?_
  refine awl_v (av_load_ptr ts9 rfl rfl rfl) ?_
  refine awl_v (av_buildSlice (t := .str) (qs := [(0, [.str p0.1]), (1, [.str p0.2])]) (ys := [p0.1, p0.2]) bs67 rfl rfl rfl rfl rfl rfl rfl rfl) ?_
  refine awl_v (av_len_sl (t := .str) rfl rfl und67 rfl) ?_
  refine awl_v (av_move rfl) ?_
  refine awl_nil (athen_norm (awc_block ?_))
  obtain ⟨o3, e4, hr⟩ := bnd_some hr
  refine awc_len (t := 10) rfl (fun hl => ?_)
  refine awc_range (S := Unit) (R := Unit) (List.length [p0.1, p0.2] : Int) (f22_b0 p0) (fun p => match p with | (i1, ()) => (⟨[(1, .ptr 0 0), (2, .bool false), (10, .sl .str [p0.1, p0.2]), (11, .int .i64 (List.length [p0.1, p0.2] : Int)), (12, .int .i64 i1)], [(0, .var 25 [.str p0.1, .str p0.2])], 1⟩ : AS)) (fun o e st => match o with | .inl () => e = .exit 0 ∧ Wk X st ⟨[(1, .ptr 0 0), (2, .bool false)], [(0, .var 25 [.str p0.1, .str p0.2])], 1⟩ | .inr () => e = .ret ∧ Wk X st ⟨[(2, .bool false)], [], 0⟩) (len_ok hl) e4 (wk_of hX [0] 4 rfl rfl ⟨⟨_, rfl, cv0⟩, ⟨_, rfl, cv0⟩, ⟨_, rfl, cv0⟩, ⟨_, rfl, cv0⟩, ⟨_, rfl, cv0⟩, trivial⟩ ⟨cvo0, trivial⟩) ?_ ?_
  · intro e st hx
    rcases o3 with _ | _
    · obtain ⟨rfl, hw⟩ := hx
      refine ablock_here (athen_norm ((awc_wk hw) (awc_seq ?_)))
      refine awc_text [1] [(true, .ptr 0 0), (true, .str p0.1), (true, .bool (!decide (p0.1 = ([] : Str)))), (true, .bool (!decide (p0.1 = ([] : Str)))), (!(!decide (p0.1 = ([] : Str))), .ptr 0 1), (!(!decide (p0.1 = ([] : Str))), .str p0.2), (!(!decide (p0.1 = ([] : Str))), .bool (!decide (p0.2 = ([] : Str)))), (true, .bool ((!decide (p0.1 = ([] : Str))) || (!decide (p0.2 = ([] : Str))))), (true, .bool ((!decide (p0.1 = ([] : Str))) || (!decide (p0.2 = ([] : Str)))))] [[], [0], [1], [2], [3], [4, 3], [5, 3], [6, 3], [7]] [8] rfl rfl rfl rfl rfl ⟨?_, ?_, ?_, ?_, ?_, ?_, ?_, ?_, ?_, trivial⟩ (allT_of ⟨rfl, trivial⟩) ?_
      · exact ob_v rfl (fun hg => allT_of trivial) (fun hg => av_fa_ptr fa25_0 rfl rfl)
      · exact ob_v rfl (fun hg => allT_of ⟨rfl, trivial⟩) (fun hg => av_load_ptr ts9 rfl rfl rfl)
      · exact ob_v rfl (fun hg => allT_of ⟨rfl, trivial⟩) (fun hg => av_neqs rfl rfl)
      · exact ob_v rfl (fun hg => allT_of ⟨rfl, trivial⟩) (fun hg => av_move rfl)
      · exact ob_v ⟨rfl, rfl, rfl, _, rfl, rfl⟩ (fun hg => allT_of ⟨rfl, trivial⟩) (fun hg => av_fa_ptr fa25_1 rfl rfl)
      · exact ob_v ⟨rfl, rfl, rfl, _, rfl, rfl⟩ (fun hg => allT_of ⟨hg, rfl, trivial⟩) (fun hg => av_load_ptr ts9 rfl rfl rfl)
      · exact ob_v ⟨rfl, rfl, rfl, _, rfl, rfl⟩ (fun hg => allT_of ⟨hg, rfl, trivial⟩) (fun hg => av_neqs rfl rfl)
      · exact ob_pick (b := false) (p := !decide (p0.1 = ([] : Str))) (q := !decide (p0.2 = ([] : Str))) rfl rfl rfl (fun hg => allT_of ⟨rfl, trivial⟩) rfl rfl rfl rfl rfl
      · exact ob_v rfl (fun hg => allT_of ⟨rfl, trivial⟩) (fun hg => av_assign rfl)
      have hr := Option.some.inj hr
      subst hr
      exact athen_norm (awc_ret (ret_q (l' := [(2, .bool ((!decide (p0.1 = ([] : Str))) || (!decide (p0.2 = ([] : Str)))))]) (wk_of hX [] 4 rfl rfl ⟨⟨_, rfl, cv0⟩, trivial⟩ trivial) rfl ⟨rfl, trivial⟩))
    · obtain ⟨rfl, hw⟩ := hx
      have hr := Option.some.inj hr
      subst hr
      exact ablock_ret (athen_ret (ret_q (l' := [(2, .bool false)]) (Wk.trans hw (wk_of hX [] 4 rfl rfl ⟨⟨_, rfl, cv0⟩, trivial⟩ trivial)) rfl ⟨rfl, trivial⟩))
  · rintro i1 _ o ho
    refine awc_seq ?_
    refine awc_region ?_
    refine awl_v (av_lss rfl rfl) ?_
    refine awl_nil (athen_norm (awc_seq ?_))
    refine awc_cond (b := decide (i1 < (List.length [p0.1, p0.2] : Int))) rfl (fun hc5 => ?_) (fun hc5 => ?_)
    · obtain ⟨q, hr, rfl⟩ := rb_t hc5 ho
      refine awc_skip (athen_norm (awc_seq (awc_block (awc_seq ?_))))
      refine awc_region ?_
      obtain ⟨x6, e7, hr⟩ := bnd_some hr
      refine awl_v (av_ia_sl (t := .str) (e := x6) und67 sz9 rfl rfl e7) ?_
      refine awl_v (av_load_rp ts9 rfl) ?_
      refine awl_v (av_assign rfl) ?_
      refine awl_nil (athen_norm (awc_seq (awc_seq ?_)))
      refine awc_region ?_
      refine awl_v (av_move rfl) ?_
      refine awl_v (av_len_str rfl rfl und9 rfl) ?_
      refine awl_v (av_gtr rfl rfl) ?_
      refine awl_nil (athen_norm ?_)
      refine awc_cond (b := decide (32 < (List.length x6 : Int))) rfl (fun hc8 => ?_) (fun hc8 => ?_)
      · have hr := if_t hc8 hr
        refine awc_seq ?_
        refine awc_region ?_
        refine awl_v (av_assign rfl) ?_
        have hr := Option.some.inj hr
        subst hr
        exact awl_nil (athen_norm (awc_ret (athen_ret (ablock_ret (athen_ret (⟨rfl, (wk_of hX [] 4 rfl rfl ⟨⟨_, rfl, cv0⟩, trivial⟩ trivial)⟩))))))
      · have hr := if_f hc8 hr
        refine awc_skip (athen_norm (awc_seq ?_))
        refine awc_region ?_
        refine awl_v (av_move rfl) ?_
        refine awl_v (av_len_str rfl rfl und9 rfl) ?_
        refine awl_v (av_move rfl) ?_
        refine awl_nil (athen_norm (awc_block ?_))
        obtain ⟨h11, hr⟩ := chk_some hr
        obtain ⟨o12, e13, hr⟩ := bnd_some hr
        refine awc_range (S := Unit) (R := Unit) (List.length x6 : Int) (f22_b1 x6) (fun p => match p with | (i9, ()) => (⟨[(1, .ptr 0 0), (2, .bool false), (4, .str x6), (10, .sl .str [p0.1, p0.2]), (11, .int .i64 (List.length [p0.1, p0.2] : Int)), (12, .int .i64 i1), (20, .int .i64 (List.length x6 : Int)), (21, .int .i64 i9)], [(0, .var 25 [.str p0.1, .str p0.2])], 1⟩ : AS)) (fun o e st => match o with | .inl () => e = .exit 2 ∧ Wk X st ⟨[(1, .ptr 0 0), (2, .bool false), (10, .sl .str [p0.1, p0.2]), (11, .int .i64 (List.length [p0.1, p0.2] : Int)), (12, .int .i64 i1)], [(0, .var 25 [.str p0.1, .str p0.2])], 1⟩ | .inr () => e = .ret ∧ Wk X st ⟨[(2, .bool false)], [], 0⟩) (of_decide_eq_true h11) e13 (wk_of hX [0] 4 rfl rfl ⟨⟨_, rfl, cv0⟩, ⟨_, rfl, cv0⟩, ⟨_, rfl, cv0⟩, ⟨_, rfl, cv0⟩, ⟨_, rfl, cv0⟩, ⟨_, rfl, cv0⟩, ⟨_, rfl, cv0⟩, ⟨_, rfl, cv0⟩, trivial⟩ ⟨cvo0, trivial⟩) ?_ ?_
        · intro e st hx
          rcases o12 with _ | _
          · obtain ⟨rfl, hw⟩ := hx
            refine ablock_here (ablock_norm (athen_norm ((awc_wk hw) ?_)))
            refine awc_region ?_
            refine awl_v (av_add rfl rfl) ?_
            refine awl_v (av_move rfl) ?_
            have hr := Option.some.inj hr
            subst hr
            exact awl_nil ((wk_of hX [0] 4 rfl rfl ⟨⟨_, rfl, cv0⟩, ⟨_, rfl, cv0⟩, ⟨_, rfl, cv0⟩, ⟨_, rfl, cv0⟩, ⟨_, rfl, cv0⟩, trivial⟩ ⟨cvo0, trivial⟩))
          · obtain ⟨rfl, hw⟩ := hx
            have hr := Option.some.inj hr
            subst hr
            exact ablock_ret (ablock_ret (athen_ret (⟨rfl, (Wk.trans hw (wk_of hX [] 4 rfl rfl ⟨⟨_, rfl, cv0⟩, trivial⟩ trivial))⟩)))
        · rintro i9 _ o ho
          refine awc_seq ?_
          refine awc_region ?_
          refine awl_v (av_lss rfl rfl) ?_
          refine awl_nil (athen_norm (awc_seq ?_))
          refine awc_cond (b := decide (i9 < (List.length x6 : Int))) rfl (fun hc14 => ?_) (fun hc14 => ?_)
          · obtain ⟨q, hr, rfl⟩ := rb_t hc14 ho
            refine awc_skip (athen_norm (awc_seq (awc_block (awc_seq ?_))))
            refine awc_region ?_
            refine awl_v (av_move rfl) ?_
            refine awl_v (av_assign rfl) ?_
            refine awl_nil (athen_norm (awc_seq ?_))
            obtain ⟨x15, e16, hr⟩ := bnd_some hr
            obtain ⟨h17, hr⟩ := chk_some hr
            refine awc_text [1, 2, 4, 10, 11, 12, 20, 21, 5] [(true, .str x6), (true, .int .i64 i9), (true, .int .u8 ((UInt8.toNat x15 : Nat) : Int)), (true, .bool (decide (((UInt8.toNat x15 : Nat) : Int) < 33))), (true, .bool (decide (((UInt8.toNat x15 : Nat) : Int) < 33))), (!(decide (((UInt8.toNat x15 : Nat) : Int) < 33)), .str x6), (!(decide (((UInt8.toNat x15 : Nat) : Int) < 33)), .int .i64 i9), (!(decide (((UInt8.toNat x15 : Nat) : Int) < 33)), .int .u8 ((UInt8.toNat ((ix x6 i9).getD default) : Nat) : Int)), (!(decide (((UInt8.toNat x15 : Nat) : Int) < 33)), .bool (decide (126 < ((UInt8.toNat ((ix x6 i9).getD default) : Nat) : Int)))), (true, .bool ((decide (((UInt8.toNat x15 : Nat) : Int) < 33)) || (decide (126 < ((UInt8.toNat ((ix x6 i9).getD default) : Nat) : Int)))))] [[], [], [0, 1], [2], [3], [4], [4], [5, 6, 4], [7, 4], [8, 4]] [9] rfl rfl rfl rfl rfl ⟨?_, ?_, ?_, ?_, ?_, ?_, ?_, ?_, ?_, ?_, trivial⟩ (allT_of ⟨rfl, trivial⟩) ?_
            · exact ob_v rfl (fun hg => allT_of trivial) (fun hg => av_move rfl)
            · exact ob_v rfl (fun hg => allT_of trivial) (fun hg => av_move rfl)
            · exact ob_v rfl (fun hg => allT_of ⟨rfl, rfl, trivial⟩) (fun hg => av_index_str und9 rfl rfl e16)
            · exact ob_v rfl (fun hg => allT_of ⟨rfl, trivial⟩) (fun hg => av_lss rfl rfl)
            · exact ob_v rfl (fun hg => allT_of ⟨rfl, trivial⟩) (fun hg => av_move rfl)
            · exact ob_v ⟨rfl, rfl, rfl, _, rfl, rfl⟩ (fun hg => allT_of ⟨rfl, trivial⟩) (fun hg => av_move rfl)
            · exact ob_v ⟨rfl, rfl, rfl, _, rfl, rfl⟩ (fun hg => allT_of ⟨rfl, trivial⟩) (fun hg => av_move rfl)
            · exact ob_v ⟨rfl, rfl, rfl, _, rfl, rfl⟩ (fun hg => allT_of ⟨hg, hg, rfl, trivial⟩) (fun hg => av_index_str und9 rfl rfl (get_g h17 hg))
            · exact ob_v ⟨rfl, rfl, rfl, _, rfl, rfl⟩ (fun hg => allT_of ⟨hg, rfl, trivial⟩) (fun hg => av_gtr rfl rfl)
            · exact ob_pick (b := false) (p := decide (((UInt8.toNat x15 : Nat) : Int) < 33)) (q := decide (126 < ((UInt8.toNat ((ix x6 i9).getD default) : Nat) : Int))) rfl rfl rfl (fun hg => allT_of ⟨rfl, trivial⟩) rfl rfl rfl rfl rfl
            refine athen_norm ?_
            refine awc_cond (b := (decide (((UInt8.toNat x15 : Nat) : Int) < 33)) || (decide (126 < ((UInt8.toNat ((ix x6 i9).getD default) : Nat) : Int)))) rfl (fun hc18 => ?_) (fun hc18 => ?_)
            · have hr := if_t hc18 hr
              refine awc_seq ?_
              refine awc_region ?_
              refine awl_v (av_assign rfl) ?_
              have hr := Option.some.inj hr
              subst hr
              exact awl_nil (athen_norm (awc_ret (ablock_ret (athen_ret (⟨rfl, (wk_of hX [] 4 rfl rfl ⟨⟨_, rfl, cv0⟩, trivial⟩ trivial)⟩)))))
            · have hr := if_f hc18 hr
              refine awc_skip (ablock_norm (athen_norm ?_))
              refine awc_region ?_
              refine awl_v (av_add rfl rfl) ?_
              refine awl_v (av_move rfl) ?_
              have hr := Option.some.inj hr
              subst hr
              exact awl_nil ((wk_of hX [0] 4 rfl rfl ⟨⟨_, rfl, cv0⟩, ⟨_, rfl, cv0⟩, ⟨_, rfl, cv0⟩, ⟨_, rfl, cv0⟩, ⟨_, rfl, cv0⟩, ⟨_, rfl, cv0⟩, ⟨_, rfl, cv0⟩, ⟨_, rfl, cv0⟩, trivial⟩ ⟨cvo0, trivial⟩))
          · obtain rfl := rb_f hc14 ho
            exact awc_exit (athen_exit (⟨rfl, (wk_of hX [0] 4 rfl rfl ⟨⟨_, rfl, cv0⟩, ⟨_, rfl, cv0⟩, ⟨_, rfl, cv0⟩, ⟨_, rfl, cv0⟩, ⟨_, rfl, cv0⟩, trivial⟩ ⟨cvo0, trivial⟩)⟩))
    · obtain rfl := rb_f hc5 ho
      exact awc_exit (athen_exit (⟨rfl, (wk_of hX [0] 4 rfl rfl ⟨⟨_, rfl, cv0⟩, ⟨_, rfl, cv0⟩, trivial⟩ ⟨cvo0, trivial⟩)⟩))
theorem f10_runs {p0 : List (Str × Str)} {r : Bool} (hr : f10 p0 = some r) : RunsP Try.prog 10 [.sl Y1 p0] [.bool r] := by
  refine runs_w Try.func10 Try.ntmps10 rfl (rs := [.tmp 2]) rfl rfl fun w0 X hX => ?_
  refine awc_seq ?_
  refine awc_region ?_
  refine awl_v (av_assign rfl) ?_
  refine awl_nil (athen_norm (awc_seq (awc_seq ?_)))
  refine awc_region ?_
  refine awl_v (av_move rfl) ?_
  refine awl_v (av_len_sl (t := Y1) rfl rfl und22 rfl) ?_
  refine awl_v (av_move rfl) ?_
  refine awl_nil (athen_norm (awc_block ?_))
  obtain ⟨o3, e4, hr⟩ := bnd_some hr
  refine awc_len (t := 0) rfl (fun hl => ?_)
  refine awc_range (S := Unit) (R := Unit) (List.length p0 : Int) (f10_b0 p0) (fun p => match p with | (i1, ()) => (⟨[(0, .sl Y1 p0), (2, .bool false), (5, .sl Y1 p0), (6, .int .i64 (List.length p0 : Int)), (7, .int .i64 i1)], [], 0⟩ : AS)) (fun o e st => match o with | .inl () => e = .exit 0 ∧ Wk X st ⟨[(0, .sl Y1 p0), (2, .bool false)], [], 0⟩ | .inr () => e = .ret ∧ Wk X st ⟨[(2, .bool false)], [], 0⟩) (len_ok hl) e4 (wk_of hX [] 4 rfl rfl ⟨⟨_, rfl, cv0⟩, ⟨_, rfl, cv0⟩, ⟨_, rfl, cv0⟩, ⟨_, rfl, cv0⟩, ⟨_, rfl, cv0⟩, trivial⟩ trivial) ?_ ?_
  · intro e st hx
    rcases o3 with _ | _
    · obtain ⟨rfl, hw⟩ := hx
      refine ablock_here (athen_norm ((awc_wk hw) (awc_seq ?_)))
      refine awc_text [0] [(true, .sl Y1 p0), (true, .int .i64 (List.length p0 : Int)), (true, .bool (decide (1 ≤ (List.length p0 : Int)))), (true, .bool (decide (1 ≤ (List.length p0 : Int)))), (decide (1 ≤ (List.length p0 : Int)), .sl Y1 p0), (decide (1 ≤ (List.length p0 : Int)), .int .i64 (List.length p0 : Int)), (decide (1 ≤ (List.length p0 : Int)), .bool (decide ((List.length p0 : Int) ≤ 20))), (true, .bool ((decide (1 ≤ (List.length p0 : Int))) && (decide ((List.length p0 : Int) ≤ 20)))), (true, .bool ((decide (1 ≤ (List.length p0 : Int))) && (decide ((List.length p0 : Int) ≤ 20))))] [[], [0], [1], [2], [3], [4, 3], [5, 3], [6, 3], [7]] [8] rfl rfl rfl rfl rfl ⟨?_, ?_, ?_, ?_, ?_, ?_, ?_, ?_, ?_, trivial⟩ (allT_of ⟨rfl, trivial⟩) ?_
      · exact ob_v rfl (fun hg => allT_of trivial) (fun hg => av_move rfl)
      · exact ob_v rfl (fun hg => allT_of ⟨rfl, trivial⟩) (fun hg => av_len_sl (t := Y1) rfl rfl und22 rfl)
      · exact ob_v rfl (fun hg => allT_of ⟨rfl, trivial⟩) (fun hg => av_geq rfl rfl)
      · exact ob_v rfl (fun hg => allT_of ⟨rfl, trivial⟩) (fun hg => av_move rfl)
      · exact ob_v ⟨rfl, rfl, rfl, _, rfl, rfl⟩ (fun hg => allT_of ⟨rfl, trivial⟩) (fun hg => av_move rfl)
      · exact ob_v ⟨rfl, rfl, rfl, _, rfl, rfl⟩ (fun hg => allT_of ⟨hg, rfl, trivial⟩) (fun hg => av_len_sl (t := Y1) rfl rfl und22 rfl)
      · exact ob_v ⟨rfl, rfl, rfl, _, rfl, rfl⟩ (fun hg => allT_of ⟨hg, rfl, trivial⟩) (fun hg => av_leq rfl rfl)
      · exact ob_pick (b := true) (p := decide (1 ≤ (List.length p0 : Int))) (q := decide ((List.length p0 : Int) ≤ 20)) rfl rfl rfl (fun hg => allT_of ⟨rfl, trivial⟩) rfl rfl rfl rfl rfl
      · exact ob_v rfl (fun hg => allT_of ⟨rfl, trivial⟩) (fun hg => av_assign rfl)
      have hr := Option.some.inj hr
      subst hr
      exact athen_norm (awc_ret (ret_q (l' := [(2, .bool ((decide (1 ≤ (List.length p0 : Int))) && (decide ((List.length p0 : Int) ≤ 20))))]) (wk_of hX [] 4 rfl rfl ⟨⟨_, rfl, cv0⟩, trivial⟩ trivial) rfl ⟨rfl, trivial⟩))
    · obtain ⟨rfl, hw⟩ := hx
      have hr := Option.some.inj hr
      subst hr
      exact ablock_ret (athen_ret (ret_q (l' := [(2, .bool false)]) (Wk.trans hw (wk_of hX [] 4 rfl rfl ⟨⟨_, rfl, cv0⟩, trivial⟩ trivial)) rfl ⟨rfl, trivial⟩))
  · rintro i1 _ o ho
    refine awc_seq ?_
    refine awc_region ?_
    refine awl_v (av_lss rfl rfl) ?_
    refine awl_nil (athen_norm (awc_seq ?_))
    refine awc_cond (b := decide (i1 < (List.length p0 : Int))) rfl (fun hc5 => ?_) (fun hc5 => ?_)
    · obtain ⟨q, hr, rfl⟩ := rb_t hc5 ho
      refine awc_skip (athen_norm (awc_seq (awc_block (awc_seq ?_))))
      refine awc_region ?_
      obtain ⟨x6, e7, hr⟩ := bnd_some hr
      refine awl_v (av_ia_sl (t := Y1) (e := x6) und22 sz25 rfl rfl e7) ?_
      refine awl_v (av_load_rpN ts25 rfl rfl rfl) ?_
      refine awl_op (aop_alloc zero25 rfl ?_)
      refine awl_op (aop_store sz25 rfl rfl rfl rfl rfl rfl rfl ?_)
      refine awl_nil (athen_norm (awc_seq ?_))
      refine awc_region ?_
      refine awl_v (av_load_ptrN ts25 rfl rfl rfl rfl) ?_
      obtain ⟨x8, e9, hr⟩ := bnd_some hr
      refine awl_v (av_call (f22_runs e9).x ent22 rfl rfl) ?_
      refine awl_v (av_not rfl) ?_
      refine awl_nil (athen_norm ?_)
      refine awc_cond (b := !x8) rfl (fun hc10 => ?_) (fun hc10 => ?_)
      · have hr := if_t hc10 hr
        refine awc_seq ?_
        refine awc_region ?_
        refine awl_v (av_assign rfl) ?_
        have hr := Option.some.inj hr
        subst hr
        exact awl_nil (athen_norm (awc_ret (ablock_ret (athen_ret (⟨rfl, (wk_of hX [] 4 rfl rfl ⟨⟨_, rfl, cv0⟩, trivial⟩ trivial)⟩)))))
      · have hr := if_f hc10 hr
        refine awc_skip (ablock_norm (athen_norm ?_))
        refine awc_region ?_
        refine awl_v (av_add rfl rfl) ?_
        refine awl_v (av_move rfl) ?_
        have hr := Option.some.inj hr
        subst hr
        exact awl_nil ((wk_of hX [] 4 rfl rfl ⟨⟨_, rfl, cv0⟩, ⟨_, rfl, cv0⟩, ⟨_, rfl, cv0⟩, ⟨_, rfl, cv0⟩, ⟨_, rfl, cv0⟩, trivial⟩ trivial))
    · obtain rfl := rb_f hc5 ho
      exact awc_exit (athen_exit (⟨rfl, (wk_of hX [] 4 rfl rfl ⟨⟨_, rfl, cv0⟩, ⟨_, rfl, cv0⟩, trivial⟩ trivial)⟩))
end Go.Ab
