/- Lemmas for a law of the seat: what functions of the program do, each stated as a contract of its own (module L29c). -/
import Derived.Test.YtjagcoeihmhabaaAbT
import Derived.Test.YtjagcoeihmhabaaL29b
set_option linter.unusedVariables false
namespace Go.Ab
open Go.RowKit Go.Shelf Go.Proofs Go.Eng
def encI (x : Int) : List Value := [Value.int .i64 x]
abbrev RdI (w : World) (A : Option Addr) (n : Nat) (xs : List Int) : Prop := Rd (Flat encI) 1 w A n xs
theorem arg_ints {W : World} {A : Option Addr} {n c : Nat} {xs : List Int} (h : RdI W A n xs) (hc : n ≤ c) : RepA (allM W []) [] (.sl (.int .i64) xs) (.slice A n c) :=
  arg_slice (t := .int .i64) (R := Flat encI) h hc (fun cs x hx => hx)
theorem CauseNumbers_spec {W : World} {a0 a1 : Option Addr} {n0 n1 c0 c1 : Nat} {x0 x1 : List Int} (h0 : RdI W a0 n0 x0) (h1 : RdI W a1 n1 x1) (k0 : n0 ≤ c0) (k1 : n1 ≤ c1) :
    Ret Try.prog 3 #[.slice a0 n0 c0, .slice a1 n1 c1] W fun v W' => v = .bool true ∧ Below W.heap.size W W' :=
  law_calls (f3_runs (f3_t x0 x1)) (vs := [.slice a0 n0 c0, .slice a1 n1 c1]) (by simp only [RepL]; exact ⟨arg_ints h0 k0, arg_ints h1 k1, trivial⟩)
end Go.Ab
