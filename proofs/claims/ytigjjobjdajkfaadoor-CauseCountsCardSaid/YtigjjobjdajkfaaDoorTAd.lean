/- Lemmas for a law of the seat: what functions of the program do, each stated as a contract of its own (TAd). -/
import Derived.Test.YtigjjobjdajkfaaDoorPu
set_option linter.unusedVariables false
set_option maxRecDepth 100000
namespace Go.Ab
def f44  : Option ((List (Int × Int × Int × Int × Str))) :=
some [(0, 1, 0, 0, ([] : Str)), (0, 2, 1, 0, ([] : Str)), (1, 1, 0, 0, ([] : Str)), (1, 3, 1, 0, ([] : Str))]
def f80 (p0 : Int × Int × Int × Int × Str) : Option (Bool) :=
some (((((decide (1 ≤ p0.2.1)) && (decide (p0.2.1 ≤ 5))) && (((decide (p0.2.1 = 2)) || (decide (p0.2.1 = 3))) || (decide (p0.2.2.1 = 0)))) && (((decide (p0.2.1 = 4)) || (decide (p0.2.1 = 5))) || (decide (p0.2.2.2.1 = 0)))) && (decide ((List.length p0.2.2.2.2 : Int) ≤ 32)))
def f49 (p0_0 : Int) (p0_1 : List (Int × Bool)) (p0_2 : List (Int × Int)) (p0_3 : List (Int × Int)) (p1 : Int × Int × Int × Int × Str) : Option (Int × (List (Int × Bool)) × (List (Int × Int)) × (List (Int × Int))) :=
bif (decide (p1.1 < 0)) || (decide (p0_0 ≤ p1.1)) then
(some (7, p0_1, p0_2, p0_3))
else
(bif (((decide (p1.2.1 = 2)) || (decide (p1.2.1 = 3))) && (decide (p1.2.2.1 < 1))) || (((decide (p1.2.1 = 4)) || (decide (p1.2.1 = 5))) && (decide (p1.2.2.2.1 < 1))) then
(some (7, p0_1, p0_2, p0_3))
else
((f80 p1).bind fun x6 =>
bif !x6 then
(some (10, p0_1, p0_2, p0_3))
else
(bif (((decide (p1.2.1 = 2)) && ((mget p0_1 p1.2.2.1).getD false)) || ((decide (p1.2.1 = 4)) && ((mget p0_2 p1.2.2.2.1).isSome))) || ((decide (p1.2.1 = 5)) && ((mget p0_3 p1.2.2.2.1).isSome)) then
(some (6, p0_1, p0_2, p0_3))
else
(bif ((decide (p1.2.1 = 3)) && (!((mget p0_1 p1.2.2.1).getD false))) || ((decide (p1.2.1 = 5)) && (!((mget p0_2 p1.2.2.2.1).isSome))) then
(some (8, p0_1, p0_2, p0_3))
else
(bif (decide (p1.2.1 = 5)) && (!decide (((mget p0_2 p1.2.2.2.1).getD 0) = p1.1)) then
(some (9, p0_1, p0_2, p0_3))
else
(((bif decide (p1.2.1 = 2) then
(some (.inl ((mset p0_1 p1.2.2.1 true), p0_2, p0_3)))
else
(bif decide (p1.2.1 = 4) then
(some (.inl (p0_1, (mset p0_2 p1.2.2.2.1 p1.1), p0_3)))
else
(bif decide (p1.2.1 = 5) then
(some (.inl (p0_1, p0_2, (mset p0_3 p1.2.2.2.1 p1.1))))
else
(some (.inl (p0_1, p0_2, p0_3)))))) : Option (((List (Int × Bool)) × (List (Int × Int)) × (List (Int × Int))) ⊕ Unit)).bind fun o15 => match o15 with
| .inl (s12, s13, s14) => (some (0, s12, s13, s14))
| .inr _ => none))))))
def f15_b0 (p0 : Int) (p1 : List (Int × Int × Int × Int × Str)) (i2 : Int) (s : (List (Int × Bool)) × (List (Int × Int)) × (List (Int × Int))) : Option (((List (Int × Bool)) × (List (Int × Int)) × (List (Int × Int))) ⊕ (Int × Int)) :=
match s with
| (s4, s5, s6) => ((ix p1 i2).bind fun x16 =>
bif decide (i2 = 1000) then
(some (.inr (i2, 4)))
else
((f49 p0 s4 s5 s6 x16).bind fun x19 =>
bif !decide (x19.1 = 0) then
(some (.inr (i2, x19.1)))
else
(some (.inl (x19.2.1, x19.2.2.1, x19.2.2.2)))))
def f15 (p0 : Int) (p1 : List (Int × Int × Int × Int × Str)) : Option (Int × Int) :=
bif (decide (p0 < 1)) || (decide (16 < p0)) then
(some (0, 7))
else
((rng (f15_b0 p0 p1) (Int.toNat (List.length p1 : Int)) 0 ([], [], [])).bind fun o13 => match o13 with
| .inl (s4, s5, s6) => (some ((-1), 0))
| .inr (s11, s12) => (some (s11, s12)))
def f17 (p0 : Int) (p1 : List (Int × Int × Int × Int × Str)) : Option (Bool) :=
(f15 p0 p1).bind fun x1 =>
some (decide (x1.2 = 0))
def f81 (p0 : Int) (p1 : List (Int × Int × Int × Int × Str)) : Option (Bool) :=
some ((decide (p0 < 0)) || (decide ((List.length p1 : Int) ≤ p0)))
def f86_b0 (p0 : List Int) (q1 : Int → Option Bool) (i1 : Int) (s : Unit) : Option (Unit ⊕ Int) :=
(ix p0 i1).bind fun x7 =>
(q1 x7).bind fun x9 =>
bif x9 then
(some (.inr i1))
else
(some (.inl ()))
def f86 (p0 : List Int) (q1 : Int → Option Bool) : Option (Int) :=
(rng (f86_b0 p0 q1) (Int.toNat (List.length p0 : Int)) 0 ()).bind fun o4 => match o4 with
| .inl () => (some (-1))
| .inr s3 => (some s3)
def f75 (p0 : List Int) (q1 : Int → Option Bool) : Option (Bool) :=
(f86 p0 q1).bind fun x1 =>
some (decide (0 ≤ x1))
def f57 (p0 : Int) (p1 : List (Int × Int × Int × Int × Str)) (p2 : List Int) : Option (Int) :=
(f17 p0 p1).bind fun x1 =>
bif !x1 then
(some 1)
else
((f75 p2 (fun y1 => f81 y1 p1)).bind fun x4 =>
bif x4 then
(some 7)
else
(some 0))
def f82_b0 {σ : Type} (q : σ → (Int × List Int) → Option σ) (p2 : List (Int × Int × Int × Int × Str)) (i3 : Int) (s : σ × List Int × (List (Int × Int))) : Option ((σ × List Int × (List (Int × Int))) ⊕ σ) :=
match s with
| (s5, s6, s7) => ((ix p2 i3).bind fun x16 =>
(((ix s6 x16.1).bind fun x21 =>
bif decide (0 < x21) then
(bif apOk 8 (List.length [(w64 (x21 - 1))]) then
some (.inl [(w64 (x21 - 1))])
else none)
else
(some (.inl ([] : List Int)))) : Option ((List Int) ⊕ Unit)).bind fun o19 => match o19 with
| .inl s18 => (((bif decide (x16.2.1 = 3) then
(bif apOk 8 (List.length s18 + List.length [((mget s7 x16.2.2.1).getD 0)]) then
some (.inl (s18 ++ [((mget s7 x16.2.2.1).getD 0)]))
else none)
else
(some (.inl s18))) : Option ((List Int) ⊕ Unit)).bind fun o26 => match o26 with
| .inl s25 => (((bif decide (x16.2.1 = 2) then
(some (.inl (mset s7 x16.2.2.1 i3)))
else
(some (.inl s7))) : Option (((List (Int × Int))) ⊕ Unit)).bind fun o31 => match o31 with
| .inl s30 => ((ix s6 x16.1).bind fun x34 =>
(f73 s25).bind fun x36 =>
(f83 x36).bind fun x38 =>
(q s5 (i3, x38)).bind fun x40 =>
bif !true then
(some (.inr x40))
else
(some (.inl (x40, (s6.set (Int.toNat x16.1) (w64 (i3 + 1))), s30))))
| .inr _ => none)
| .inr _ => none)
| .inr _ => none)
def f82 {σ : Type} (q : σ → (Int × List Int) → Option σ) (s0 : σ) (p1 : Int) (p2 : List (Int × Int × Int × Int × Str)) : Option (σ) :=
bif mkOk 8 p1 p1 then
(rng (f82_b0 q p2) (Int.toNat (List.length p2 : Int)) 0 (s0, (List.replicate (Int.toNat p1) 0), [])).bind fun o13 => match o13 with
| .inl (s5, s6, s7) => (some s5)
| .inr s12 => (some s12)
else none
def f62 (p0 : Int) (p1 : List (Int × Int × Int × Int × Str)) : Option (Unit) :=
some ()
def f68 (p0 : List Int) : Option (List Int) :=
bif apOk 8 (List.length ([] : List Int) + List.length p0) then
some (([] : List Int) ++ p0)
else none
def f48_b0 (p1 : List Int) (i4 : Int) (s6 : List Int) : Option ((List Int) ⊕ Unit) :=
(ix s6 i4).bind fun x12 =>
(ix p1 i4).bind fun x14 =>
some (.inl (s6.set (Int.toNat i4) (max x12 x14)))
def f48 (p0 : List Int) (p1 : List Int) : Option (List Int) :=
(f68 p0).bind fun x2 =>
(rng (f48_b0 p1) (Int.toNat (List.length x2 : Int)) 0 x2).bind fun o9 => match o9 with
| .inl s6 => (some s6)
| .inr _ => none
def f52_b1 (s5 : List (List Int)) (y12 : List Int) (i14 : Int) (s16 : List Int) : Option ((List Int) ⊕ Unit) :=
(ix y12 i14).bind fun x27 =>
(ix s5 x27).bind fun x29 =>
(f48 s16 x29).bind fun x31 =>
some (.inl x31)
def f52_b0 (p0 : Int) (p1 : List (Int × Int × Int × Int × Str)) (s5 : List (List Int)) (x : Int × List Int) : Option (List (List Int)) :=
match x with
| (y11, y12) => (bif mkOk 8 p0 p0 then
(rng (f52_b1 s5 y12) (Int.toNat (List.length y12 : Int)) 0 (List.replicate (Int.toNat p0) 0)).bind fun o19 => match o19 with
| .inl s16 => ((ix p1 y11).bind fun x21 =>
(ix s16 x21.1).bind fun x23 =>
bif apOk 24 (List.length s5 + List.length [(s16.set (Int.toNat x21.1) (w64 (x23 + 1)))]) then
some (s5 ++ [(s16.set (Int.toNat x21.1) (w64 (x23 + 1)))])
else none)
| .inr _ => none
else none)
def f52 (p0 : Int) (p1 : List (Int × Int × Int × Int × Str)) : Option (List (List Int)) :=
(f62 p0 p1).bind fun x1 =>
(f82 (f52_b0 p0 p1) ([] : List (List Int)) p0 p1).bind fun s5 => match s5 with
| s5 => (some s5)
def f58 (p0 : List (Int × Int × Int × Int × Str)) (p1 : List (List Int)) (p2 : Int) (p3 : Int) : Option (Bool) :=
bif (!(!decide (p2 = p3)) || Option.isSome (ix p1 p3)) then
bif (!(!decide (p2 = p3)) || Option.isSome (ix p0 p2)) then
bif (!(!decide (p2 = p3)) || Option.isSome (ix ((ix p1 p3).getD default) ((((ix p0 p2).getD default)).1))) then
bif (!(!decide (p2 = p3)) || Option.isSome (ix p1 p2)) then
bif (!(!decide (p2 = p3)) || Option.isSome (ix ((ix p1 p2).getD default) ((((ix p0 p2).getD default)).1))) then
some ((!decide (p2 = p3)) && (decide (((ix ((ix p1 p2).getD default) ((((ix p0 p2).getD default)).1)).getD default) ≤ ((ix ((ix p1 p3).getD default) ((((ix p0 p2).getD default)).1)).getD default))))
else none
else none
else none
else none
else none
def f24 (p0 : Int) (p1 : List (Int × Int × Int × Int × Str)) (p2 : Int) (p3 : Int) : Option (Bool × Int) :=
(f57 p0 p1 [p2, p3]).bind fun x1 =>
bif !decide (x1 = 0) then
(some (false, x1))
else
((f52 p0 p1).bind fun x4 =>
(f58 p1 x4 p2 p3).bind fun x6 =>
some (x6, 0))
def f19 (p0 : Int) (p1 : List (Int × Int × Int × Int × Str)) : Option (List (List Int) × Int) :=
(f17 p0 p1).bind fun x1 =>
bif !x1 then
(some (([] : List (List Int)), 1))
else
((f52 p0 p1).bind fun x4 =>
some (x4, 0))
def f84 (p0 : Int) : Option (Bool) :=
some (decide (p0 < 0))
def f85_b0 (p1 : List (Int × Int × Int × Int × Str)) (i2 : Int) (s4 : List Int) : Option ((List Int) ⊕ Unit) :=
(ix p1 i2).bind fun x10 =>
(ix s4 x10.1).bind fun x12 =>
some (.inl (s4.set (Int.toNat x10.1) (w64 (x12 + 1))))
def f85 (p0 : Int) (p1 : List (Int × Int × Int × Int × Str)) : Option (List Int) :=
bif mkOk 8 p0 p0 then
(rng (f85_b0 p1) (Int.toNat (List.length p1 : Int)) 0 (List.replicate (Int.toNat p0) 0)).bind fun o7 => match o7 with
| .inl s4 => (some s4)
| .inr _ => none
else none
def f63_b0 (p2 : List Int) (x5 : List Int) (i7 : Int) (s : Unit) : Option (Unit ⊕ Unit) :=
(ix x5 i7).bind fun x12 =>
(ix p2 i7).bind fun x14 =>
bif decide (x12 < x14) then
(some (.inr ()))
else
(some (.inl ()))
def f63 (p0 : Int) (p1 : List (Int × Int × Int × Int × Str)) (p2 : List Int) : Option (Int) :=
(f17 p0 p1).bind fun x1 =>
bif (!(!((!x1) || (!decide ((List.length p2 : Int) = p0)))) || Option.isSome (f75 p2 (fun y1 => f84 y1))) then
bif ((!x1) || (!decide ((List.length p2 : Int) = p0))) || ((f75 p2 (fun y1 => f84 y1)).getD default) then
(some 1)
else
((f85 p0 p1).bind fun x5 =>
(rng (f63_b0 p2 x5) (Int.toNat (List.length x5 : Int)) 0 ()).bind fun o9 => match o9 with
| .inl () => (some 0)
| .inr () => (some 7))
else none
def f69 (p0 : List Int) (p1 : List Int) (p2 : Int) : Option (Bool) :=
(ix p0 p2).bind fun x1 =>
(ix p1 p2).bind fun x3 =>
some (decide (x1 ≤ x3))
def f70_b0 (p0 : List Int) (p1 : List Int) (i1 : Int) (s : Unit) : Option (Unit ⊕ Unit) :=
(ix p0 i1).bind fun x6 =>
(ix p1 i1).bind fun x8 =>
bif decide (x8 < x6) then
(some (.inr ()))
else
(some (.inl ()))
def f70 (p0 : List Int) (p1 : List Int) : Option (Bool) :=
(rng (f70_b0 p0 p1) (Int.toNat (List.length p0 : Int)) 0 ()).bind fun o3 => match o3 with
| .inl () => (some true)
| .inr () => (some false)
def f64_b0 (p0 : List (Int × Int × Int × Int × Str)) (p1 : List (List Int)) (p2 : List Int) (i1 : Int) (s : Unit) : Option (Unit ⊕ Unit) :=
(ix p0 i1).bind fun x6 =>
(ix p1 i1).bind fun x8 =>
(f69 x8 p2 x6.1).bind fun x10 =>
bif (!x10 || Option.isSome (ix p1 i1)) then
bif (!x10 || Option.isSome (f70 ((ix p1 i1).getD default) p2)) then
bif x10 && (!((f70 ((ix p1 i1).getD default) p2).getD default)) then
(some (.inr ()))
else
(some (.inl ()))
else none
else none
def f64 (p0 : List (Int × Int × Int × Int × Str)) (p1 : List (List Int)) (p2 : List Int) : Option (Bool) :=
(rng (f64_b0 p0 p1 p2) (Int.toNat (List.length p0 : Int)) 0 ()).bind fun o3 => match o3 with
| .inl () => (some true)
| .inr () => (some false)
def f32 (p0 : Int) (p1 : List (Int × Int × Int × Int × Str)) (p2 : List Int) : Option (Bool × Int) :=
(f63 p0 p1 p2).bind fun x1 =>
bif !decide (x1 = 0) then
(some (false, x1))
else
((f52 p0 p1).bind fun x4 =>
(f64 p1 x4 p2).bind fun x6 =>
some (x6, 0))
def f13_b0 (p0 : List Int) (p1 : List Int) (i2 : Int) (s : Unit) : Option (Unit ⊕ Unit) :=
(ix p0 i2).bind fun x7 =>
(ix p1 i2).bind fun x9 =>
bif !decide (x7 = x9) then
(some (.inr ()))
else
(some (.inl ()))
def f13 (p0 : List Int) (p1 : List Int) : Option (Bool) :=
bif !decide ((List.length p0 : Int) = (List.length p1 : Int)) then
(some false)
else
((rng (f13_b0 p0 p1) (Int.toNat (List.length p0 : Int)) 0 ()).bind fun o4 => match o4 with
| .inl () => (some true)
| .inr () => (some false))
def f8  : Option (Bool) :=
(f44).bind fun x1 =>
(f24 2 x1 0 3).bind fun x3 =>
(f44).bind fun x5 =>
(f19 2 x5).bind fun x7 =>
(f44).bind fun x9 =>
(f32 2 x9 [0, 2]).bind fun x11 =>
bif (!((((decide (x3.2 = 0)) && x3.1) && (decide (x7.2 = 0))) && (decide ((List.length x7.1 : Int) = 4))) || Option.isSome (ix x7.1 3)) then
bif (!((((decide (x3.2 = 0)) && x3.1) && (decide (x7.2 = 0))) && (decide ((List.length x7.1 : Int) = 4))) || Option.isSome (f13 ((ix x7.1 3).getD default) [2, 2])) then
some (((((((decide (x3.2 = 0)) && x3.1) && (decide (x7.2 = 0))) && (decide ((List.length x7.1 : Int) = 4))) && ((f13 ((ix x7.1 3).getD default) [2, 2]).getD default)) && (decide (x11.2 = 0))) && (!x11.1))
else none
else none
def f79 (p0 : Int) : Option (Bool) :=
some (decide (p0 < 0))
def f45 (p0 : List Int) (p1 : List Int) : Option (Bool) :=
bif (!(((decide ((List.length p0 : Int) = (List.length p1 : Int))) && (decide (1 ≤ (List.length p0 : Int)))) && (decide ((List.length p0 : Int) ≤ 16))) || Option.isSome (f75 p0 (fun y1 => f79 y1))) then
bif (!((((decide ((List.length p0 : Int) = (List.length p1 : Int))) && (decide (1 ≤ (List.length p0 : Int)))) && (decide ((List.length p0 : Int) ≤ 16))) && (!((f75 p0 (fun y1 => f79 y1)).getD default))) || Option.isSome (f75 p1 (fun y1 => f79 y1))) then
some (((((decide ((List.length p0 : Int) = (List.length p1 : Int))) && (decide (1 ≤ (List.length p0 : Int)))) && (decide ((List.length p0 : Int) ≤ 16))) && (!((f75 p0 (fun y1 => f79 y1)).getD default))) && (!((f75 p1 (fun y1 => f79 y1)).getD default)))
else none
else none
def f9_b0 (p0 : List Int) (p1 : List Int) (i4 : Int) (s : Bool × Bool) : Option ((Bool × Bool) ⊕ Unit) :=
match s with
| (s5, s6) => (bif (!(!s5) || Option.isSome (ix p0 i4)) then
bif (!(!s5) || Option.isSome (ix p1 i4)) then
bif (!(!s6) || Option.isSome (ix p0 i4)) then
bif (!(!s6) || Option.isSome (ix p1 i4)) then
some (.inl (s5 || (decide (((ix p0 i4).getD default) < ((ix p1 i4).getD default))), s6 || (decide (((ix p1 i4).getD default) < ((ix p0 i4).getD default)))))
else none
else none
else none
else none)
def f9 (p0 : List Int) (p1 : List Int) : Option (Int × Int) :=
(f45 p0 p1).bind fun x1 =>
bif !x1 then
(some (0, 1))
else
((rng (f9_b0 p0 p1) (Int.toNat (List.length p0 : Int)) 0 (false, false)).bind fun o11 => match o11 with
| .inl (s5, s6) => (bif s5 && s6 then
(some (2, 0))
else
(bif s5 then
(some ((-1), 0))
else
(bif s6 then
(some (1, 0))
else
(some (0, 0)))))
| .inr _ => none)
def f46 (p0 : List Int) : Option (Bool) :=
some ((decide (1 ≤ (List.length p0 : Int))) && (decide ((List.length p0 : Int) ≤ 16)))
def f47_b1 (x6 : List Int) (i9 : Int) (s : Unit) : Option (Unit ⊕ Unit) :=
(ix x6 i9).bind fun x14 =>
bif decide (x14 < 0) then
(some (.inr ()))
else
(some (.inl ()))
def f47_b0 (p0 : Int) (p1 : List (List Int)) (i1 : Int) (s : Unit) : Option (Unit ⊕ Unit) :=
(ix p1 i1).bind fun x6 =>
bif !decide ((List.length x6 : Int) = p0) then
(some (.inr ()))
else
((rng (f47_b1 x6) (Int.toNat (List.length x6 : Int)) 0 ()).bind fun o11 => match o11 with
| .inl () => (some (.inl ()))
| .inr () => (some (.inr ())))
def f47 (p0 : Int) (p1 : List (List Int)) : Option (Bool) :=
(rng (f47_b0 p0 p1) (Int.toNat (List.length p1 : Int)) 0 ()).bind fun o3 => match o3 with
| .inl () => (some true)
| .inr () => (some false)
def f10_b0 (p0 : List Int) (p1 : List Int) (i5 : Int) (s : Bool × Bool) : Option ((Bool × Bool) ⊕ Unit) :=
match s with
| (s6, s7) => (bif (!(!s6) || Option.isSome (ix p0 i5)) then
bif (!(!s6) || Option.isSome (ix p1 i5)) then
bif (!(!s7) || Option.isSome (ix p0 i5)) then
bif (!(!s7) || Option.isSome (ix p1 i5)) then
some (.inl (s6 || (decide (((ix p0 i5).getD default) < ((ix p1 i5).getD default))), s7 || (decide (((ix p1 i5).getD default) < ((ix p0 i5).getD default)))))
else none
else none
else none
else none)
def f10 (p0 : List Int) (p1 : List Int) : Option (Int × Int) :=
(f46 p0).bind fun x1 =>
bif (!(!(!x1)) || Option.isSome (f47 (List.length p0 : Int) [p0, p1])) then
bif (!x1) || (!((f47 (List.length p0 : Int) [p0, p1]).getD default)) then
(some (0, 1))
else
((rng (f10_b0 p0 p1) (Int.toNat (List.length p0 : Int)) 0 (false, false)).bind fun o12 => match o12 with
| .inl (s6, s7) => (bif s6 && s7 then
(some (2, 0))
else
(bif s6 then
(some ((-1), 0))
else
(bif s7 then
(some (1, 0))
else
(some (0, 0)))))
| .inr _ => none)
else none
def f11 (p0 : List Int) (p1 : List Int) : Option (List Int × Int) :=
(f45 p0 p1).bind fun x1 =>
bif !x1 then
(some (([] : List Int), 1))
else
((f48 p0 p1).bind fun x4 =>
some (x4, 0))
def f12_b0 (p0 : List Int) (p1 : List Int) (i5 : Int) (s7 : List Int) : Option ((List Int) ⊕ Unit) :=
(ix p0 i5).bind fun x13 =>
(ix p1 i5).bind fun x15 =>
bif apOk 8 (List.length s7 + List.length [(max x13 x15)]) then
some (.inl (s7 ++ [(max x13 x15)]))
else none
def f12 (p0 : List Int) (p1 : List Int) : Option (List Int × Int) :=
(f46 p0).bind fun x1 =>
bif (!(!(!x1)) || Option.isSome (f47 (List.length p0 : Int) [p0, p1])) then
bif (!x1) || (!((f47 (List.length p0 : Int) [p0, p1]).getD default)) then
(some (([] : List Int), 1))
else
((rng (f12_b0 p0 p1) (Int.toNat (List.length p0 : Int)) 0 ([] : List Int)).bind fun o10 => match o10 with
| .inl s7 => (some (s7, 0))
| .inr _ => none)
else none
def f3 (p0 : List Int) (p1 : List Int) : Option (Bool) :=
bif (decide (50 < (List.length p0 : Int))) || (decide (50 < (List.length p1 : Int))) then
((f8).bind fun x2 =>
some x2)
else
((f9 p0 p1).bind fun x4 =>
(f10 p0 p1).bind fun x6 =>
(f11 p0 p1).bind fun x8 =>
(f12 p0 p1).bind fun x10 =>
bif (!((decide (x4.1 = x6.1)) && (decide (x4.2 = x6.2))) || Option.isSome (f13 x8.1 x10.1)) then
bif (!((((decide (x4.1 = x6.1)) && (decide (x4.2 = x6.2))) && ((f13 x8.1 x10.1).getD default)) && (decide (x8.2 = x10.2))) || Option.isSome (f8)) then
some (((((decide (x4.1 = x6.1)) && (decide (x4.2 = x6.2))) && ((f13 x8.1 x10.1).getD default)) && (decide (x8.2 = x10.2))) && ((f8).getD default))
else none
else none)
def f14_b0 (p0 : List (Int × Int × Int × Int × Str)) (i1 : Int) (s : Unit) : Option (Unit ⊕ Unit) :=
(ix p0 i1).bind fun x6 =>
bif decide (60 < (List.length x6.2.2.2.2 : Int)) then
(some (.inr ()))
else
(some (.inl ()))
def f14 (p0 : List (Int × Int × Int × Int × Str)) : Option (Bool) :=
(rng (f14_b0 p0) (Int.toNat (List.length p0 : Int)) 0 ()).bind fun o3 => match o3 with
| .inl () => (some (decide ((List.length p0 : Int) ≤ 40)))
| .inr () => (some false)
def f50 (p0 : Int × Int × Int × Int × Str) : Option (Bool) :=
some (((((decide (1 ≤ p0.2.1)) && (decide (p0.2.1 ≤ 5))) && (((decide (p0.2.1 = 2)) || (decide (p0.2.1 = 3))) || (decide (p0.2.2.1 = 0)))) && (((decide (p0.2.1 = 4)) || (decide (p0.2.1 = 5))) || (decide (p0.2.2.2.1 = 0)))) && (decide ((List.length p0.2.2.2.2 : Int) ≤ 32)))
def f51_b0 (p0 : List (Int × Int × Int × Int × Str)) (p1 : Int) (p2 : Int) (i1 : Int) (s : Unit) : Option (Unit ⊕ Int) :=
(ix p0 i1).bind fun x7 =>
bif (decide (x7.2.1 = p1)) && (decide ((w64 (x7.2.2.1 + x7.2.2.2.1)) = p2)) then
(some (.inr i1))
else
(some (.inl ()))
def f51 (p0 : List (Int × Int × Int × Int × Str)) (p1 : Int) (p2 : Int) : Option (Int) :=
(rng (f51_b0 p0 p1 p2) (Int.toNat (List.length p0 : Int)) 0 ()).bind fun o4 => match o4 with
| .inl () => (some (-1))
| .inr s3 => (some s3)
def f16_b0 (p0 : Int) (p1 : List (Int × Int × Int × Int × Str)) (i2 : Int) (s : Unit) : Option (Unit ⊕ (Int × Int)) :=
(((ix p1 i2).bind fun x12 =>
bif decide (i2 = 1000) then
(some (.inr 4))
else
(bif (((decide (x12.1 < 0)) || (decide (p0 ≤ x12.1))) || (((decide (x12.2.1 = 2)) || (decide (x12.2.1 = 3))) && (decide (x12.2.2.1 < 1)))) || (((decide (x12.2.1 = 4)) || (decide (x12.2.1 = 5))) && (decide (x12.2.2.2.1 < 1))) then
(some (.inr 7))
else
((f50 x12).bind fun x16 =>
bif !x16 then
(some (.inr 10))
else
(bif (!((!decide (x12.2.1 = 1)) && (!decide (x12.2.1 = 3))) || (slOk 0 i2 (List.length p1))) then
bif (!((!decide (x12.2.1 = 1)) && (!decide (x12.2.1 = 3))) || Option.isSome (f51 ((p1.take (Int.toNat i2)).drop (Int.toNat 0)) x12.2.1 (w64 (x12.2.2.1 + x12.2.2.2.1)))) then
bif ((!decide (x12.2.1 = 1)) && (!decide (x12.2.1 = 3))) && (decide (0 ≤ ((f51 ((p1.take (Int.toNat i2)).drop (Int.toNat 0)) x12.2.1 (w64 (x12.2.2.1 + x12.2.2.2.1))).getD default))) then
(some (.inr 6))
else
(bif (!(decide (x12.2.1 = 3)) || (slOk 0 i2 (List.length p1))) then
bif (!(decide (x12.2.1 = 3)) || Option.isSome (f51 ((p1.take (Int.toNat i2)).drop (Int.toNat 0)) 2 x12.2.2.1)) then
bif (decide (x12.2.1 = 3)) && (decide (((f51 ((p1.take (Int.toNat i2)).drop (Int.toNat 0)) 2 x12.2.2.1).getD default) < 0)) then
(some (.inr 8))
else
(bif decide (x12.2.1 = 5) then
(bif slOk 0 i2 (List.length p1) then
(f51 ((p1.take (Int.toNat i2)).drop (Int.toNat 0)) 4 x12.2.2.2.1).bind fun x27 =>
bif decide (x27 < 0) then
(some (.inr 8))
else
((ix p1 x27).bind fun x30 =>
bif !decide (x30.1 = x12.1) then
(some (.inr 9))
else
(some (.inl ())))
else none)
else
(some (.inl ())))
else none
else none)
else none
else none)))) : Option (Unit ⊕ Int)).bind fun o10 => match o10 with
| .inl () => (some (.inl ()))
| .inr s9 => (some (.inr (i2, s9)))
def f16 (p0 : Int) (p1 : List (Int × Int × Int × Int × Str)) : Option (Int × Int) :=
bif (decide (p0 < 1)) || (decide (16 < p0)) then
(some (0, 7))
else
((rng (f16_b0 p0 p1) (Int.toNat (List.length p1 : Int)) 0 ()).bind fun o6 => match o6 with
| .inl () => (some ((-1), 0))
| .inr (s4, s5) => (some (s4, s5)))
def f18 (p0 : Int) (p1 : List (Int × Int × Int × Int × Str)) : Option (Bool) :=
(f16 p0 p1).bind fun x1 =>
some (decide (x1.2 = 0))
def f53_b0 (p1 : List (Int × Int × Int × Int × Str)) (p2 : List Int) (i4 : Int) (s : Unit) : Option (Unit ⊕ Unit) :=
(ix p2 i4).bind fun x9 =>
bif (decide (x9 < 0)) || (decide ((List.length p1 : Int) ≤ x9)) then
(some (.inr ()))
else
(some (.inl ()))
def f53 (p0 : Int) (p1 : List (Int × Int × Int × Int × Str)) (p2 : List Int) : Option (Int) :=
(f18 p0 p1).bind fun x1 =>
bif !x1 then
(some 1)
else
((rng (f53_b0 p1 p2) (Int.toNat (List.length p2 : Int)) 0 ()).bind fun o6 => match o6 with
| .inl () => (some 0)
| .inr () => (some 7))
def f56_b0 (p0 : List (Int × Int × Int × Int × Str)) (p1 : Int) (p2 : Int) (i11 : Int) (s : Unit) : Option (Unit ⊕ Unit) :=
(ix ((p0.take (Int.toNat p2)).drop (Int.toNat (w64 (p1 + 1)))) i11).bind fun x16 =>
(ix p0 p1).bind fun x18 =>
bif decide (x16.1 = x18.1) then
(some (.inr ()))
else
(some (.inl ()))
def f56 (p0 : List (Int × Int × Int × Int × Str)) (p1 : Int) (p2 : Int) : Option (Bool) :=
(ix p0 p1).bind fun x1 =>
bif (!(decide (x1.2.1 = 2)) || Option.isSome (ix p0 p2)) then
bif (!((decide (x1.2.1 = 2)) && (decide ((((((ix p0 p2).getD default)).2).1) = 3))) || Option.isSome (ix p0 p1)) then
bif (!((decide (x1.2.1 = 2)) && (decide ((((((ix p0 p2).getD default)).2).1) = 3))) || Option.isSome (ix p0 p2)) then
bif ((decide (x1.2.1 = 2)) && (decide ((((((ix p0 p2).getD default)).2).1) = 3))) && (decide (((((((ix p0 p1).getD default)).2).2).1) = ((((((ix p0 p2).getD default)).2).2).1))) then
(some true)
else
(bif (!(!(decide (p2 ≤ p1))) || Option.isSome (ix p0 p1)) then
bif (!(!(decide (p2 ≤ p1))) || Option.isSome (ix p0 p2)) then
bif (decide (p2 ≤ p1)) || (!decide (((((ix p0 p1).getD default)).1) = ((((ix p0 p2).getD default)).1))) then
(some false)
else
(bif slOk (w64 (p1 + 1)) p2 (List.length p0) then
(rng (f56_b0 p0 p1 p2) (Int.toNat (List.length ((p0.take (Int.toNat p2)).drop (Int.toNat (w64 (p1 + 1)))) : Int)) 0 ()).bind fun o13 => match o13 with
| .inl () => (some true)
| .inr () => (some false)
else none)
else none
else none)
else none
else none
else none
def f23_b2 (i2 : Int) (i13 : Int) (i32 : Int) (s34 : List (List Bool)) : Option ((List (List Bool)) ⊕ Unit) :=
(ix s34 i2).bind fun x41 =>
(ix x41 i32).bind fun x43 =>
bif (!(!x43) || Option.isSome (ix s34 i13)) then
bif (!(!x43) || Option.isSome (ix ((ix s34 i13).getD default) i32)) then
some (.inl (s34.set (Int.toNat i2) (x41.set (Int.toNat i32) (x43 || ((ix ((ix s34 i13).getD default) i32).getD default)))))
else none
else none
def f23_b1 (p0 : List (Int × Int × Int × Int × Str)) (i2 : Int) (i13 : Int) (s15 : List (List Bool)) : Option ((List (List Bool)) ⊕ Unit) :=
(((f56 p0 i13 i2).bind fun x25 =>
bif !x25 then
(some (.inl s15))
else
((ix s15 i2).bind fun x28 =>
(ix x28 i13).bind fun x30 =>
bif decide (i13 ≤ 9223372036854775807) then
(rng (f23_b2 i2 i13) (Int.toNat i13) 0 (s15.set (Int.toNat i2) (x28.set (Int.toNat i13) true))).bind fun o38 => match o38 with
| .inl s34 => (some (.inl s34))
| .inr _ => none
else none)) : Option ((List (List Bool)) ⊕ Unit)).bind fun o23 => match o23 with
| .inl s22 => (some (.inl s22))
| .inr _ => none
def f23_b0 (p0 : List (Int × Int × Int × Int × Str)) (i2 : Int) (s4 : List (List Bool)) : Option ((List (List Bool)) ⊕ Unit) :=
bif mkOk 1 (List.length p0 : Int) (List.length p0 : Int) then
(ix s4 i2).bind fun x11 =>
bif decide (i2 ≤ 9223372036854775807) then
(rng (f23_b1 p0 i2) (Int.toNat i2) 0 (s4.set (Int.toNat i2) (List.replicate (Int.toNat (List.length p0 : Int)) false))).bind fun o19 => match o19 with
| .inl s15 => (some (.inl s15))
| .inr _ => none
else none
else none
def f23 (p0 : List (Int × Int × Int × Int × Str)) : Option (List (List Bool)) :=
bif mkOk 24 (List.length p0 : Int) (List.length p0 : Int) then
(rng (f23_b0 p0) (Int.toNat (List.length p0 : Int)) 0 (List.replicate (Int.toNat (List.length p0 : Int)) ([] : List Bool))).bind fun o7 => match o7 with
| .inl s4 => (some s4)
| .inr _ => none
else none
def f20_b1 (p1 : List (Int × Int × Int × Int × Str)) (i7 : Int) (x24 : List Bool) (i26 : Int) (s28 : List (List Int)) : Option ((List (List Int)) ⊕ Unit) :=
(((ix x24 i26).bind fun x37 =>
bif x37 then
((ix s28 i7).bind fun x40 =>
(ix p1 i26).bind fun x42 =>
(ix x40 x42.1).bind fun x44 =>
some (.inl (s28.set (Int.toNat i7) (x40.set (Int.toNat x42.1) (w64 (x44 + 1))))))
else
(some (.inl s28))) : Option ((List (List Int)) ⊕ Unit)).bind fun o35 => match o35 with
| .inl s34 => (some (.inl s34))
| .inr _ => none
def f20_b0 (p0 : Int) (p1 : List (Int × Int × Int × Int × Str)) (x4 : List (List Bool)) (i7 : Int) (s9 : List (List Int)) : Option ((List (List Int)) ⊕ Unit) :=
bif mkOk 8 p0 p0 then
(ix s9 i7).bind fun x16 =>
(ix (s9.set (Int.toNat i7) (List.replicate (Int.toNat p0) 0)) i7).bind fun x18 =>
(ix p1 i7).bind fun x20 =>
(ix x18 x20.1).bind fun x22 =>
(ix x4 i7).bind fun x24 =>
(rng (f20_b1 p1 i7 x24) (Int.toNat (List.length x24 : Int)) 0 ((s9.set (Int.toNat i7) (List.replicate (Int.toNat p0) 0)).set (Int.toNat i7) (x18.set (Int.toNat x20.1) 1))).bind fun o31 => match o31 with
| .inl s28 => (some (.inl s28))
| .inr _ => none
else none
def f20 (p0 : Int) (p1 : List (Int × Int × Int × Int × Str)) : Option (List (List Int) × Int) :=
(f53 p0 p1 ([] : List Int)).bind fun x1 =>
bif !decide (x1 = 0) then
(some (([] : List (List Int)), x1))
else
((f23 p1).bind fun x4 =>
bif mkOk 24 (List.length p1 : Int) (List.length p1 : Int) then
(rng (f20_b0 p0 p1 x4) (Int.toNat (List.length p1 : Int)) 0 (List.replicate (Int.toNat (List.length p1 : Int)) ([] : List Int))).bind fun o12 => match o12 with
| .inl s9 => (some (s9, 0))
| .inr _ => none
else none)
def f67_b0 (p1 : List (Int × Int × Int × Int × Str)) (i2 : Int) (s : List Int × List Int) : Option ((List Int × List Int) ⊕ Unit) :=
match s with
| (s4, s5) => ((ix p1 i2).bind fun x12 =>
(ix s4 x12.1).bind fun x14 =>
(ix (s4.set (Int.toNat x12.1) (w64 (x14 + 1))) x12.1).bind fun x16 =>
bif apOk 8 (List.length s5 + List.length [x16]) then
some (.inl ((s4.set (Int.toNat x12.1) (w64 (x14 + 1))), (s5 ++ [x16])))
else none)
def f67 (p0 : Int) (p1 : List (Int × Int × Int × Int × Str)) : Option (List Int) :=
bif mkOk 8 p0 p0 then
(rng (f67_b0 p1) (Int.toNat (List.length p1 : Int)) 0 ((List.replicate (Int.toNat p0) 0), ([] : List Int))).bind fun o9 => match o9 with
| .inl (s4, s5) => (some s5)
| .inr _ => none
else none
end Go.Ab

