/- Lemmas for a law of the seat: what functions of the program do, each stated as a contract of its own (module PolSpec). -/
import Derived.Test.YtbjafckcpkhoaaaEngE
namespace Go.Eng
structure Pol where
  kind : Int
  val : Int
instance : DecidableEq Pol := fun a b => decidable_of_iff (a.kind = b.kind ∧ a.val = b.val) (by cases a; cases b; simp)
instance : Inhabited Pol := ⟨⟨0, 0⟩⟩
abbrev encP (p : Pol) : List Value := [.int .i64 p.kind, .int .i64 p.val]
abbrev RdP (w : World) (A : Option Addr) (n : Nat) (xs : List Pol) : Prop := Rd (Flat encP) 2 w A n xs
namespace Pol
def isB (k : Int) : Bool := decide (1 ≤ k) && decide (k ≤ 13)
def leastI (k : Int) : Int := if k = 10 then 0 else if k = 12 then 0 else 1
def mostI (k : Int) : Int := if k = 6 then 3 else if k = 8 then 3 else if k = 9 then 4 else if k = 10 then 1000000 else if k = 11 then 3 else if k = 12 then 100 else if k = 13 then 4 else 2
def validB (p : Pol) : Bool := (isB p.kind && decide (leastI p.kind ≤ p.val)) && decide (p.val ≤ mostI p.kind)
end Pol
end Go.Eng
