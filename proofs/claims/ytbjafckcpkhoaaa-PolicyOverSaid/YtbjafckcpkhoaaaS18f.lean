/- Lemmas for a law of the seat: what functions of the program do, each stated as a contract of its own (module S18f). -/
import Derived.Test.YtbjafckcpkhoaaaS18e
import Derived.Test.YtbjafckcpkhoaaaChecked
set_option linter.unusedVariables false
set_option maxRecDepth 100000
namespace Go.Eng
open Go.RowKit Go.Shelf Go.Proofs Pol

theorem ent75 : Enters Try.prog 75 := enters_of Try.func75 (by kernel_rfl) rfl

def strengthI (v : Int) : Int := if v = 1 then 1 else if v = 3 then 2 else if v = 4 then 3 else 0
theorem strength_index {v : Int} (h0 : 0 ≤ v) (h4 : v ≤ 4) : ∀ w, (Instr.index 87 (.agg #[.int .i64 0, .int .i64 1, .int .i64 0, .int .i64 2, .int .i64 3]) (.int .i64 v)).run Try.prog w = .ok (.int .i64 (strengthI v)) w := by
  have hk : v = 0 ∨ v = 1 ∨ v = 2 ∨ v = 3 ∨ v = 4 := by omega
  rcases hk with rfl | rfl | rfl | rfl | rfl <;> (intro w; kernel_rfl)

theorem Agree1_spec {w : World} {u : Int} : Ret Try.prog 43 #[.int .i64 u] w (fun v w' => v = .int .i64 u ∧ Below w.heap.size w w') := by
  refine ret_of (args := [.int .i64 u]) Try.func43 rfl Try.ntmps43 rfl (rs := [.tmp 2]) rfl ?_
  refine wc_seq ?_
  refine wc_region ?_
  refine wl_op rfl (op_assign rfl rfl ?_)
  refine (wl_done (then_norm ?_))
  refine wc_seq ?_
  refine wc_region ?_
  refine wl_op rfl (op_move rfl rfl ?_)
  refine wl_op rfl (op_assign rfl rfl ?_)
  refine (wl_done (then_norm ?_))
  refine wc_ret ?_
  refine ⟨[_], ⟨rfl, trivial⟩, ⟨?_, (Below.refl _ _)⟩⟩
  exact rfl

theorem strength_spec {w : World} {u : Int} (hv0 : 0 ≤ u) (hv4 : u ≤ 4) : Ret Try.prog 44 #[.int .i64 u] w (fun v w' => v = .int .i64 (strengthI u) ∧ Below w.heap.size w w') := by
  refine ret_of (args := [.int .i64 u]) Try.func44 rfl Try.ntmps44 rfl (rs := [.tmp 2]) rfl ?_
  refine wc_seq ?_
  refine wc_region ?_
  refine wl_op rfl (op_assign rfl rfl ?_)
  refine (wl_done (then_norm ?_))
  refine wc_seq ?_
  refine wc_region ?_
  refine wl_op rfl (op_build (v := .agg #[.int .i64 0, .int .i64 1, .int .i64 0, .int .i64 2, .int .i64 3]) rfl (fun w => by kernel_rfl) rfl ?_)
  refine wl_op rfl (op_move rfl rfl ?_)
  refine wl_op rfl (op_index rfl rfl (strength_index hv0 hv4) rfl ?_)
  refine wl_op rfl (op_assign rfl rfl ?_)
  refine (wl_done (then_norm ?_))
  refine wc_ret ?_
  refine ⟨[_], ⟨rfl, trivial⟩, ⟨?_, (Below.refl _ _)⟩⟩
  exact rfl

theorem Agree2_spec {w : World} {a b : Int} : Ret Try.prog 46 #[.agg #[.int .i64 a, .int .i64 b]] w (fun v w' => v = .bool (decide (a = 12)) ∧ Below w.heap.size w w') := by
  refine ret_of (args := [.agg #[.int .i64 a, .int .i64 b]]) Try.func46 rfl Try.ntmps46 rfl (rs := [.tmp 2]) rfl ?_
  refine wc_seq ?_
  refine wc_region ?_
  refine wl_op rfl (op_box rfl rfl ?_)
  intro W1 b2 hN3
  have hb4 : W1.heap[b2]? = some (.cells #[.int .i64 a, .int .i64 b] 46 (0, 0)) := hN3.blk
  refine wl_op rfl (op_assign rfl rfl ?_)
  refine (wl_done (then_norm ?_))
  refine wc_seq ?_
  refine wc_region ?_
  refine wl_op rfl (op_fieldAddr rfl fa46_0 rfl ?_)
  refine wl_op rfl (op_load1 (v := .int .i64 a) rfl agg3 (cell_blk hb4 rfl) rfl ?_)
  refine wl_op rfl (op_eql rfl rfl rfl ?_)
  refine wl_op rfl (op_assign rfl rfl ?_)
  refine (wl_done (then_norm ?_))
  refine wc_ret ?_
  have hB5 : Below w.heap.size w W1 := (below_new (Below.refl _ _) hN3)
  refine ⟨[_], ⟨rfl, trivial⟩, ⟨?_, hB5⟩⟩
  exact rfl

theorem greater_spec {w : World} {a b : Int} {g : Nat} {caps : Array Value} {f : Int → Int} (hent : Enters Try.prog g) (hk : ∀ W x, x = a ∨ x = b → Below w.heap.size w W → Ret Try.prog g (#[.int .i64 x] ++ caps) W (fun v W' => v = .int .i64 (f x) ∧ Below W.heap.size W W')) : Ret Try.prog 42 #[.int .i64 a, .int .i64 b, .func (.func g) #[] caps] w (fun v w' => v = .int .i64 (if f a < f b then b else a) ∧ Below w.heap.size w w') := by
  refine ret_of (args := [.int .i64 a, .int .i64 b, .func (.func g) #[] caps]) Try.func42 rfl Try.ntmps42 rfl (rs := [.tmp 6]) rfl ?_
  refine wc_seq ?_
  refine wc_region ?_
  refine wl_op rfl (op_assign rfl rfl ?_)
  refine (wl_done (then_norm ?_))
  refine wc_seq ?_
  refine wc_seq ?_
  refine wc_region ?_
  refine wl_op rfl (op_move rfl rfl ?_)
  refine wl_op rfl (op_move rfl rfl ?_)
  refine wl_op rfl (op_callv (f := g) rfl hent rfl rfl (hk _ _ (by simp) (Below.refl _ _)) rfl ?_)
  rintro _ W1 ⟨rfl, hE2⟩
  refine wl_op rfl (op_move rfl rfl ?_)
  refine wl_op rfl (op_move rfl rfl ?_)
  have hB3 : Below w.heap.size w W1 := (below_step (Below.refl _ _) hE2)
  refine wl_op rfl (op_callv (f := g) rfl hent rfl rfl (hk _ _ (by simp) hB3) rfl ?_)
  rintro _ W4 ⟨rfl, hE5⟩
  refine wl_op rfl (op_gtr rfl rfl rfl ?_)
  refine (wl_done (then_norm ?_))
  refine WC.sub [(0, .int .i64 a), (1, .int .i64 b), (6, .int .i64 0), (13, .bool (decide (f a < f b)))] ⟨rfl, rfl, rfl, rfl, trivial⟩ ?_
  refine wc_cond (b := decide (f a < f b)) rfl (fun hc6 => ?_) (fun hc6 => ?_)
  · have hc6r := hc6
    have hc6 := of_decide_eq_true hc6
    refine wc_seq ?_
    refine wc_region ?_
    refine wl_op rfl (op_move rfl rfl ?_)
    refine wl_op rfl (op_assign rfl rfl ?_)
    refine (wl_done (then_norm ?_))
    refine wc_ret ?_
    refine (then_ret ?_)
    have hB7 : Below w.heap.size w W4 := (below_step hB3 hE5)
    refine ⟨[_], ⟨rfl, trivial⟩, ⟨?_, hB7⟩⟩
    rw [if_pos (by assumption)]
    rfl
  · have hc6r := hc6
    have hc6 := of_decide_eq_false hc6
    refine wc_skip ?_
    refine (then_norm ?_)
    refine wc_seq ?_
    refine wc_region ?_
    refine wl_op rfl (op_move rfl rfl ?_)
    refine wl_op rfl (op_assign rfl rfl ?_)
    refine (wl_done (then_norm ?_))
    refine wc_ret ?_
    have hB8 : Below w.heap.size w W4 := (below_step hB3 hE5)
    refine ⟨[_], ⟨rfl, trivial⟩, ⟨?_, hB8⟩⟩
    rw [if_neg (by assumption)]
    rfl

theorem any_of_take {s : List Pol} {keep : Pol → Bool} (h : ∀ (i : Nat) (x : Pol), i < s.length → s[i]? = some x → keep x = false) : s.any keep = false := by
  rw [List.any_eq_false]
  intro x hx
  obtain ⟨i, hi, rfl⟩ := List.getElem_of_mem hx
  simp [h i _ hi (List.getElem?_eq_getElem hi)]
theorem any_of_get {s : List Pol} {keep : Pol → Bool} {i : Nat} {x : Pol} (h : s[i]? = some x) (hk : keep x = true) : s.any keep = true := List.any_eq_true.2 ⟨x, List.mem_of_getElem? h, hk⟩

theorem IndexFunc_spec {w : World} {A : Option Addr} {n c : Nat} {s : List Pol} {g : Nat} {caps : Array Value} {keep : Pol → Bool} (hs : RdP w A n s) (hent : Enters Try.prog g) (hk : ∀ W a b, (⟨a, b⟩ : Pol) ∈ s → Below w.heap.size w W → Ret Try.prog g (#[.agg #[.int .i64 a, .int .i64 b]] ++ caps) W (fun v W' => v = .bool (keep ⟨a, b⟩) ∧ Below W.heap.size W W')) : Ret Try.prog 75 #[.slice A n c, .func (.func g) #[] caps] w (fun v w' => ∃ (r : Int), v = .int .i64 r ∧ decide (0 ≤ r) = s.any keep ∧ Below w.heap.size w w') := by
  obtain ⟨bs1, os2, hA3, hc4⟩ := hs.flat
  have hln5 := hs.len
  have hbd6 := hs.bd
  have hlen_s := hs.len
  refine ret_of (args := [.slice A n c, .func (.func g) #[] caps]) Try.func75 rfl Try.ntmps75 rfl (rs := [.tmp 4]) rfl ?_
  refine wc_seq ?_
  refine wc_region ?_
  refine wl_op rfl (op_assign rfl rfl ?_)
  refine (wl_done (then_norm ?_))
  refine wc_seq ?_
  refine wc_seq ?_
  refine wc_region ?_
  refine wl_op rfl (op_move rfl rfl ?_)
  refine wl_op rfl (op_len_slice rfl rfl und22 rfl rfl ?_)
  refine wl_op rfl (op_move rfl rfl ?_)
  refine (wl_done (then_norm ?_))
  refine wc_block ?_
  refine wc_loop (σ := Nat × World) (fun st_ => [(0, .slice A n c), (1, .func (.func g) #[] caps), (4, .int .i64 0), (7, .int .i64 ((n : Nat) : Int)), (8, .int .i64 (st_.1 : Int))]) (fun st_ => st_.2) (fun st_ => (st_.1 ≤ n) ∧ (∀ (i : Nat) (x : Pol), i < st_.1 → s[i]? = some x → keep x = false) ∧ (Below w.heap.size w st_.2)) (fun st_ => n - st_.1) (0, w) ⟨(by first | omega | (dsimp only; omega)), (fun i x hi => absurd hi (by omega)), (Below.refl _ _)⟩ ⟨rfl, rfl, rfl, rfl, rfl, trivial⟩ rfl ?_
  rintro ⟨k, W7⟩ ⟨hk1, hall, hE8⟩
  dsimp only at hk1 hall hE8
  refine wc_at [(0, .slice A n c), (1, .func (.func g) #[] caps), (4, .int .i64 0), (7, .int .i64 ((n : Nat) : Int)), (8, .int .i64 (k : Int))] W7 ⟨rfl, rfl, rfl, rfl, rfl, trivial⟩ rfl ?_
  refine wc_seq ?_
  refine wc_region ?_
  refine wl_op rfl (op_lss rfl rfl rfl ?_)
  refine (wl_done (then_norm ?_))
  refine wc_seq ?_
  refine wc_cond (b := decide ((k : Int) < ((n : Nat) : Int))) rfl (fun hc9 => ?_) (fun hc9 => ?_)
  · have hc9r := hc9
    have hc9 := of_decide_eq_true hc9
    refine wc_skip ?_
    refine (then_norm ?_)
    refine wc_seq ?_
    refine wc_block ?_
    refine wc_seq ?_
    refine wc_region ?_
    refine wl_op rfl (op_move rfl rfl ?_)
    refine wl_op rfl (op_assign rfl rfl ?_)
    refine (wl_done (then_norm ?_))
    refine wc_seq ?_
    refine wc_region ?_
    refine wl_op rfl (op_move rfl rfl ?_)
    refine wl_op rfl (op_move rfl rfl ?_)
    refine wl_op rfl (op_move rfl rfl ?_)
    obtain ⟨x_s_k, hx_s_k⟩ : ∃ x, s[k]? = some x := ⟨_, List.getElem?_eq_getElem (by have := hs.len; omega)⟩
    refine wl_op rfl (op_indexAddr (j := k) rfl rfl und22 sz46 (hA3 (by omega)) rfl (by omega) rfl ?_)
    have hB10 : Below w.heap.size w W7 := (below_step (Below.refl _ _) hE8)
    refine wl_op rfl (op_loadN (vs := [.int .i64 x_s_k.kind, .int .i64 x_s_k.val]) rfl agg46 sz46 rfl ((hc4 k x_s_k hx_s_k).ext hB10) rfl ?_)
    refine wl_op rfl (op_callv (f := g) rfl hent rfl rfl (hk _ _ _ (List.mem_of_getElem? hx_s_k) hB10) rfl ?_)
    rintro _ W11 ⟨rfl, hE12⟩
    refine (wl_done (then_norm ?_))
    refine wc_cond (b := keep ⟨x_s_k.kind, x_s_k.val⟩) rfl (fun hc13 => ?_) (fun hc13 => ?_)
    · have hyes : keep x_s_k = true := hc13
      refine wc_seq ?_
      refine wc_region ?_
      refine wl_op rfl (op_move rfl rfl ?_)
      refine wl_op rfl (op_assign rfl rfl ?_)
      refine (wl_done (then_norm ?_))
      refine wc_ret ?_
      refine (block_ret (then_ret (then_ret (block_ret (then_ret ?_)))))
      have hB14 : Below w.heap.size w W11 := (below_step hB10 hE12)
      refine ⟨[_], ⟨rfl, trivial⟩, ⟨(k : Int), ?_, (by rw [any_of_get hx_s_k hyes]; exact decide_eq_true (by omega)), hB14⟩⟩
      exact rfl
    · have hno : keep x_s_k = false := hc13
      refine wc_skip ?_
      refine (block_norm (then_norm ?_))
      refine wc_region ?_
      refine wl_op rfl (op_add (r := ((k + 1 : Nat) : Int)) rfl rfl (by omega) (by omega) rfl ?_)
      refine wl_op rfl (op_move rfl rfl ?_)
      refine (wl_done (then_norm ?_))
      have hB15 : Below w.heap.size w W11 := (below_step hB10 hE12)
      refine ⟨((k + 1), W11), ⟨(by first | omega | (dsimp only; omega)), (fun i x hi hx => by rcases Nat.lt_or_ge i k with h | h; exact hall i x h hx; have e : i = k := (by dsimp only at hi; omega); subst e; rw [hx_s_k] at hx; cases hx; exact hno), hB15⟩, ?_, ⟨rfl, rfl, rfl, rfl, rfl, trivial⟩, rfl⟩
      · dsimp only; omega
  · have hc9r := hc9
    have hc9 := of_decide_eq_false hc9
    refine wc_exit ?_
    refine (then_exit (then_exit (block_here (then_norm ?_))))
    refine wc_seq ?_
    refine wc_region ?_
    refine wl_op rfl (op_assign rfl rfl ?_)
    refine (wl_done (then_norm ?_))
    refine wc_ret ?_
    have hB16 : Below w.heap.size w W7 := (below_step (Below.refl _ _) hE8)
    refine ⟨[_], ⟨rfl, trivial⟩, ⟨(-1), ?_, (by rw [any_of_take (fun i x hi hx => hall i x (by omega) hx)]; rfl), hB16⟩⟩
    exact rfl

theorem ContainsFunc_spec {w : World} {A : Option Addr} {n c : Nat} {s : List Pol} {g : Nat} {caps : Array Value} {keep : Pol → Bool} (hs : RdP w A n s) (hent : Enters Try.prog g) (hk : ∀ W a b, (⟨a, b⟩ : Pol) ∈ s → Below w.heap.size w W → Ret Try.prog g (#[.agg #[.int .i64 a, .int .i64 b]] ++ caps) W (fun v W' => v = .bool (keep ⟨a, b⟩) ∧ Below W.heap.size W W')) : Ret Try.prog 45 #[.slice A n c, .func (.func g) #[] caps] w (fun v w' => v = .bool (s.any keep) ∧ Below w.heap.size w w') := by
  obtain ⟨bs1, os2, hA3, hc4⟩ := hs.flat
  have hln5 := hs.len
  have hbd6 := hs.bd
  have hlen_s := hs.len
  refine ret_of (args := [.slice A n c, .func (.func g) #[] caps]) Try.func45 rfl Try.ntmps45 rfl (rs := [.tmp 4]) rfl ?_
  refine wc_seq ?_
  refine wc_region ?_
  refine wl_op rfl (op_assign rfl rfl ?_)
  refine (wl_done (then_norm ?_))
  refine wc_seq ?_
  refine wc_region ?_
  refine wl_op rfl (op_move rfl rfl ?_)
  refine wl_op rfl (op_move rfl rfl ?_)
  refine wl_op rfl (op_call ent75 rfl (IndexFunc_spec hs hent hk (keep := keep)) rfl ?_)
  rintro _ W9 ⟨r7, rfl, hp8, hE10⟩
  refine wl_op rfl (op_geq rfl rfl rfl ?_)
  refine wl_op rfl (op_assign rfl rfl ?_)
  refine (wl_done (then_norm ?_))
  refine WC.sub [(4, .bool (decide (0 ≤ r7)))] ⟨rfl, trivial⟩ ?_
  refine wc_ret ?_
  have hB11 : Below w.heap.size w W9 := (below_step (Below.refl _ _) hE10)
  refine ⟨[_], ⟨rfl, trivial⟩, ⟨?_, hB11⟩⟩
  exact congrArg Value.bool hp8

end Go.Eng
