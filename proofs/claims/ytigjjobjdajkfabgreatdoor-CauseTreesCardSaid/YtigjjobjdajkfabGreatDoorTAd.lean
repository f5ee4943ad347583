/- Lemmas for a law of the seat: what functions of the program do, each stated as a contract of its own (TAd). -/
import Derived.Test.YtigjjobjdajkfabGreatDoorPu
set_option linter.unusedVariables false
set_option maxRecDepth 100000
namespace Go.Ab
def f44  : Option ((List (Int × Int × Int × Int × Str))) :=
some [(0, 1, 0, 0, ([] : Str)), (0, 2, 1, 0, ([] : Str)), (1, 1, 0, 0, ([] : Str)), (1, 3, 1, 0, ([] : Str))]
def f80 (p0 : Int × Int × Int × Int × Str) : Option (Bool) :=
some (((((decide (1 ≤ p0.2.1)) && (decide (p0.2.1 ≤ 5))) && (((decide (p0.2.1 = 2)) || (decide (p0.2.1 = 3))) || (decide (p0.2.2.1 = 0)))) && (((decide (p0.2.1 = 4)) || (decide (p0.2.1 = 5))) || (decide (p0.2.2.2.1 = 0)))) && (decide ((List.length p0.2.2.2.2 : Int) ≤ 32)))
def f49 (p0_0 : Int) (p0_1 : List (Int × Bool)) (p0_2 : List (Int × Int)) (p0_3 : List (Int × Int)) (p1 : Int × Int × Int × Int × Str) : Option (Int × (List (Int × Bool)) × (List (Int × Int)) × (List (Int × Int))) :=
bif (decide (p1.1 < 0)) || (decide (p0_0 ≤ p1.1)) then
(some (7, p0_1, p0_2, p0_3))
else
(bif (((decide (p1.2.1 = 2)) || (decide (p1.2.1 = 3))) && (decide (p1.2.2.1 < 1))) || (((decide (p1.2.1 = 4)) || (decide (p1.2.1 = 5))) && (decide (p1.2.2.2.1 < 1))) then
(some (7, p0_1, p0_2, p0_3))
else
((f80 p1).bind fun x6 =>
bif !x6 then
(some (10, p0_1, p0_2, p0_3))
else
(bif (((decide (p1.2.1 = 2)) && ((mget p0_1 p1.2.2.1).getD false)) || ((decide (p1.2.1 = 4)) && ((mget p0_2 p1.2.2.2.1).isSome))) || ((decide (p1.2.1 = 5)) && ((mget p0_3 p1.2.2.2.1).isSome)) then
(some (6, p0_1, p0_2, p0_3))
else
(bif ((decide (p1.2.1 = 3)) && (!((mget p0_1 p1.2.2.1).getD false))) || ((decide (p1.2.1 = 5)) && (!((mget p0_2 p1.2.2.2.1).isSome))) then
(some (8, p0_1, p0_2, p0_3))
else
(bif (decide (p1.2.1 = 5)) && (!decide (((mget p0_2 p1.2.2.2.1).getD 0) = p1.1)) then
(some (9, p0_1, p0_2, p0_3))
else
(((bif decide (p1.2.1 = 2) then
(some (.inl ((mset p0_1 p1.2.2.1 true), p0_2, p0_3)))
else
(bif decide (p1.2.1 = 4) then
(some (.inl (p0_1, (mset p0_2 p1.2.2.2.1 p1.1), p0_3)))
else
(bif decide (p1.2.1 = 5) then
(some (.inl (p0_1, p0_2, (mset p0_3 p1.2.2.2.1 p1.1))))
else
(some (.inl (p0_1, p0_2, p0_3)))))) : Option (((List (Int × Bool)) × (List (Int × Int)) × (List (Int × Int))) ⊕ Unit)).bind fun o15 => match o15 with
| .inl (s12, s13, s14) => (some (0, s12, s13, s14))
| .inr _ => none))))))
def f15_b0 (p0 : Int) (p1 : List (Int × Int × Int × Int × Str)) (i2 : Int) (s : (List (Int × Bool)) × (List (Int × Int)) × (List (Int × Int))) : Option (((List (Int × Bool)) × (List (Int × Int)) × (List (Int × Int))) ⊕ (Int × Int)) :=
match s with
| (s4, s5, s6) => ((ix p1 i2).bind fun x16 =>
bif decide (i2 = 1000) then
(some (.inr (i2, 4)))
else
((f49 p0 s4 s5 s6 x16).bind fun x19 =>
bif !decide (x19.1 = 0) then
(some (.inr (i2, x19.1)))
else
(some (.inl (x19.2.1, x19.2.2.1, x19.2.2.2)))))
def f15 (p0 : Int) (p1 : List (Int × Int × Int × Int × Str)) : Option (Int × Int) :=
bif (decide (p0 < 1)) || (decide (16 < p0)) then
(some (0, 7))
else
((rng (f15_b0 p0 p1) (Int.toNat (List.length p1 : Int)) 0 ([], [], [])).bind fun o13 => match o13 with
| .inl (s4, s5, s6) => (some ((-1), 0))
| .inr (s11, s12) => (some (s11, s12)))
def f17 (p0 : Int) (p1 : List (Int × Int × Int × Int × Str)) : Option (Bool) :=
(f15 p0 p1).bind fun x1 =>
some (decide (x1.2 = 0))
def f81 (p0 : Int) (p1 : List (Int × Int × Int × Int × Str)) : Option (Bool) :=
some ((decide (p0 < 0)) || (decide ((List.length p1 : Int) ≤ p0)))
def f86_b0 (p0 : List Int) (q1 : Int → Option Bool) (i1 : Int) (s : Unit) : Option (Unit ⊕ Int) :=
(ix p0 i1).bind fun x7 =>
(q1 x7).bind fun x9 =>
bif x9 then
(some (.inr i1))
else
(some (.inl ()))
def f86 (p0 : List Int) (q1 : Int → Option Bool) : Option (Int) :=
(rng (f86_b0 p0 q1) (Int.toNat (List.length p0 : Int)) 0 ()).bind fun o4 => match o4 with
| .inl () => (some (-1))
| .inr s3 => (some s3)
def f75 (p0 : List Int) (q1 : Int → Option Bool) : Option (Bool) :=
(f86 p0 q1).bind fun x1 =>
some (decide (0 ≤ x1))
def f57 (p0 : Int) (p1 : List (Int × Int × Int × Int × Str)) (p2 : List Int) : Option (Int) :=
(f17 p0 p1).bind fun x1 =>
bif !x1 then
(some 1)
else
((f75 p2 (fun y1 => f81 y1 p1)).bind fun x4 =>
bif x4 then
(some 7)
else
(some 0))
def f82_b0 {σ : Type} (q : σ → (Int × List Int) → Option σ) (p2 : List (Int × Int × Int × Int × Str)) (i3 : Int) (s : σ × List Int × (List (Int × Int))) : Option ((σ × List Int × (List (Int × Int))) ⊕ σ) :=
match s with
| (s5, s6, s7) => ((ix p2 i3).bind fun x16 =>
(((ix s6 x16.1).bind fun x21 =>
bif decide (0 < x21) then
(bif apOk 8 (List.length [(w64 (x21 - 1))]) then
some (.inl [(w64 (x21 - 1))])
else none)
else
(some (.inl ([] : List Int)))) : Option ((List Int) ⊕ Unit)).bind fun o19 => match o19 with
| .inl s18 => (((bif decide (x16.2.1 = 3) then
(bif apOk 8 (List.length s18 + List.length [((mget s7 x16.2.2.1).getD 0)]) then
some (.inl (s18 ++ [((mget s7 x16.2.2.1).getD 0)]))
else none)
else
(some (.inl s18))) : Option ((List Int) ⊕ Unit)).bind fun o26 => match o26 with
| .inl s25 => (((bif decide (x16.2.1 = 2) then
(some (.inl (mset s7 x16.2.2.1 i3)))
else
(some (.inl s7))) : Option (((List (Int × Int))) ⊕ Unit)).bind fun o31 => match o31 with
| .inl s30 => ((ix s6 x16.1).bind fun x34 =>
(f73 s25).bind fun x36 =>
(f83 x36).bind fun x38 =>
(q s5 (i3, x38)).bind fun x40 =>
bif !true then
(some (.inr x40))
else
(some (.inl (x40, (s6.set (Int.toNat x16.1) (w64 (i3 + 1))), s30))))
| .inr _ => none)
| .inr _ => none)
| .inr _ => none)
def f82 {σ : Type} (q : σ → (Int × List Int) → Option σ) (s0 : σ) (p1 : Int) (p2 : List (Int × Int × Int × Int × Str)) : Option (σ) :=
bif mkOk 8 p1 p1 then
(rng (f82_b0 q p2) (Int.toNat (List.length p2 : Int)) 0 (s0, (List.replicate (Int.toNat p1) 0), [])).bind fun o13 => match o13 with
| .inl (s5, s6, s7) => (some s5)
| .inr s12 => (some s12)
else none
def f62 (p0 : Int) (p1 : List (Int × Int × Int × Int × Str)) : Option (Unit) :=
some ()
def f68 (p0 : List Int) : Option (List Int) :=
bif apOk 8 (List.length ([] : List Int) + List.length p0) then
some (([] : List Int) ++ p0)
else none
def f48_b0 (p1 : List Int) (i4 : Int) (s6 : List Int) : Option ((List Int) ⊕ Unit) :=
(ix s6 i4).bind fun x12 =>
(ix p1 i4).bind fun x14 =>
some (.inl (s6.set (Int.toNat i4) (max x12 x14)))
def f48 (p0 : List Int) (p1 : List Int) : Option (List Int) :=
(f68 p0).bind fun x2 =>
(rng (f48_b0 p1) (Int.toNat (List.length x2 : Int)) 0 x2).bind fun o9 => match o9 with
| .inl s6 => (some s6)
| .inr _ => none
def f52_b1 (s5 : List (List Int)) (y12 : List Int) (i14 : Int) (s16 : List Int) : Option ((List Int) ⊕ Unit) :=
(ix y12 i14).bind fun x27 =>
(ix s5 x27).bind fun x29 =>
(f48 s16 x29).bind fun x31 =>
some (.inl x31)
def f52_b0 (p0 : Int) (p1 : List (Int × Int × Int × Int × Str)) (s5 : List (List Int)) (x : Int × List Int) : Option (List (List Int)) :=
match x with
| (y11, y12) => (bif mkOk 8 p0 p0 then
(rng (f52_b1 s5 y12) (Int.toNat (List.length y12 : Int)) 0 (List.replicate (Int.toNat p0) 0)).bind fun o19 => match o19 with
| .inl s16 => ((ix p1 y11).bind fun x21 =>
(ix s16 x21.1).bind fun x23 =>
bif apOk 24 (List.length s5 + List.length [(s16.set (Int.toNat x21.1) (w64 (x23 + 1)))]) then
some (s5 ++ [(s16.set (Int.toNat x21.1) (w64 (x23 + 1)))])
else none)
| .inr _ => none
else none)
def f52 (p0 : Int) (p1 : List (Int × Int × Int × Int × Str)) : Option (List (List Int)) :=
(f62 p0 p1).bind fun x1 =>
(f82 (f52_b0 p0 p1) ([] : List (List Int)) p0 p1).bind fun s5 => match s5 with
| s5 => (some s5)
def f58 (p0 : List (Int × Int × Int × Int × Str)) (p1 : List (List Int)) (p2 : Int) (p3 : Int) : Option (Bool) :=
bif (!(!decide (p2 = p3)) || Option.isSome (ix p1 p3)) then
bif (!(!decide (p2 = p3)) || Option.isSome (ix p0 p2)) then
bif (!(!decide (p2 = p3)) || Option.isSome (ix ((ix p1 p3).getD default) ((((ix p0 p2).getD default)).1))) then
bif (!(!decide (p2 = p3)) || Option.isSome (ix p1 p2)) then
bif (!(!decide (p2 = p3)) || Option.isSome (ix ((ix p1 p2).getD default) ((((ix p0 p2).getD default)).1))) then
some ((!decide (p2 = p3)) && (decide (((ix ((ix p1 p2).getD default) ((((ix p0 p2).getD default)).1)).getD default) ≤ ((ix ((ix p1 p3).getD default) ((((ix p0 p2).getD default)).1)).getD default))))
else none
else none
else none
else none
else none
def f24 (p0 : Int) (p1 : List (Int × Int × Int × Int × Str)) (p2 : Int) (p3 : Int) : Option (Bool × Int) :=
(f57 p0 p1 [p2, p3]).bind fun x1 =>
bif !decide (x1 = 0) then
(some (false, x1))
else
((f52 p0 p1).bind fun x4 =>
(f58 p1 x4 p2 p3).bind fun x6 =>
some (x6, 0))
def f19 (p0 : Int) (p1 : List (Int × Int × Int × Int × Str)) : Option (List (List Int) × Int) :=
(f17 p0 p1).bind fun x1 =>
bif !x1 then
(some (([] : List (List Int)), 1))
else
((f52 p0 p1).bind fun x4 =>
some (x4, 0))
def f84 (p0 : Int) : Option (Bool) :=
some (decide (p0 < 0))
def f85_b0 (p1 : List (Int × Int × Int × Int × Str)) (i2 : Int) (s4 : List Int) : Option ((List Int) ⊕ Unit) :=
(ix p1 i2).bind fun x10 =>
(ix s4 x10.1).bind fun x12 =>
some (.inl (s4.set (Int.toNat x10.1) (w64 (x12 + 1))))
def f85 (p0 : Int) (p1 : List (Int × Int × Int × Int × Str)) : Option (List Int) :=
bif mkOk 8 p0 p0 then
(rng (f85_b0 p1) (Int.toNat (List.length p1 : Int)) 0 (List.replicate (Int.toNat p0) 0)).bind fun o7 => match o7 with
| .inl s4 => (some s4)
| .inr _ => none
else none
def f63_b0 (p2 : List Int) (x5 : List Int) (i7 : Int) (s : Unit) : Option (Unit ⊕ Unit) :=
(ix x5 i7).bind fun x12 =>
(ix p2 i7).bind fun x14 =>
bif decide (x12 < x14) then
(some (.inr ()))
else
(some (.inl ()))
def f63 (p0 : Int) (p1 : List (Int × Int × Int × Int × Str)) (p2 : List Int) : Option (Int) :=
(f17 p0 p1).bind fun x1 =>
bif (!(!((!x1) || (!decide ((List.length p2 : Int) = p0)))) || Option.isSome (f75 p2 (fun y1 => f84 y1))) then
bif ((!x1) || (!decide ((List.length p2 : Int) = p0))) || ((f75 p2 (fun y1 => f84 y1)).getD default) then
(some 1)
else
((f85 p0 p1).bind fun x5 =>
(rng (f63_b0 p2 x5) (Int.toNat (List.length x5 : Int)) 0 ()).bind fun o9 => match o9 with
| .inl () => (some 0)
| .inr () => (some 7))
else none
def f69 (p0 : List Int) (p1 : List Int) (p2 : Int) : Option (Bool) :=
(ix p0 p2).bind fun x1 =>
(ix p1 p2).bind fun x3 =>
some (decide (x1 ≤ x3))
def f70_b0 (p0 : List Int) (p1 : List Int) (i1 : Int) (s : Unit) : Option (Unit ⊕ Unit) :=
(ix p0 i1).bind fun x6 =>
(ix p1 i1).bind fun x8 =>
bif decide (x8 < x6) then
(some (.inr ()))
else
(some (.inl ()))
def f70 (p0 : List Int) (p1 : List Int) : Option (Bool) :=
(rng (f70_b0 p0 p1) (Int.toNat (List.length p0 : Int)) 0 ()).bind fun o3 => match o3 with
| .inl () => (some true)
| .inr () => (some false)
def f64_b0 (p0 : List (Int × Int × Int × Int × Str)) (p1 : List (List Int)) (p2 : List Int) (i1 : Int) (s : Unit) : Option (Unit ⊕ Unit) :=
(ix p0 i1).bind fun x6 =>
(ix p1 i1).bind fun x8 =>
(f69 x8 p2 x6.1).bind fun x10 =>
bif (!x10 || Option.isSome (ix p1 i1)) then
bif (!x10 || Option.isSome (f70 ((ix p1 i1).getD default) p2)) then
bif x10 && (!((f70 ((ix p1 i1).getD default) p2).getD default)) then
(some (.inr ()))
else
(some (.inl ()))
else none
else none
def f64 (p0 : List (Int × Int × Int × Int × Str)) (p1 : List (List Int)) (p2 : List Int) : Option (Bool) :=
(rng (f64_b0 p0 p1 p2) (Int.toNat (List.length p0 : Int)) 0 ()).bind fun o3 => match o3 with
| .inl () => (some true)
| .inr () => (some false)
def f32 (p0 : Int) (p1 : List (Int × Int × Int × Int × Str)) (p2 : List Int) : Option (Bool × Int) :=
(f63 p0 p1 p2).bind fun x1 =>
bif !decide (x1 = 0) then
(some (false, x1))
else
((f52 p0 p1).bind fun x4 =>
(f64 p1 x4 p2).bind fun x6 =>
some (x6, 0))
def f13_b0 (p0 : List Int) (p1 : List Int) (i2 : Int) (s : Unit) : Option (Unit ⊕ Unit) :=
(ix p0 i2).bind fun x7 =>
(ix p1 i2).bind fun x9 =>
bif !decide (x7 = x9) then
(some (.inr ()))
else
(some (.inl ()))
def f13 (p0 : List Int) (p1 : List Int) : Option (Bool) :=
bif !decide ((List.length p0 : Int) = (List.length p1 : Int)) then
(some false)
else
((rng (f13_b0 p0 p1) (Int.toNat (List.length p0 : Int)) 0 ()).bind fun o4 => match o4 with
| .inl () => (some true)
| .inr () => (some false))
def f8  : Option (Bool) :=
(f44).bind fun x1 =>
(f24 2 x1 0 3).bind fun x3 =>
(f44).bind fun x5 =>
(f19 2 x5).bind fun x7 =>
(f44).bind fun x9 =>
(f32 2 x9 [0, 2]).bind fun x11 =>
bif (!((((decide (x3.2 = 0)) && x3.1) && (decide (x7.2 = 0))) && (decide ((List.length x7.1 : Int) = 4))) || Option.isSome (ix x7.1 3)) then
bif (!((((decide (x3.2 = 0)) && x3.1) && (decide (x7.2 = 0))) && (decide ((List.length x7.1 : Int) = 4))) || Option.isSome (f13 ((ix x7.1 3).getD default) [2, 2])) then
some (((((((decide (x3.2 = 0)) && x3.1) && (decide (x7.2 = 0))) && (decide ((List.length x7.1 : Int) = 4))) && ((f13 ((ix x7.1 3).getD default) [2, 2]).getD default)) && (decide (x11.2 = 0))) && (!x11.1))
else none
else none
def f79 (p0 : Int) : Option (Bool) :=
some (decide (p0 < 0))
def f45 (p0 : List Int) (p1 : List Int) : Option (Bool) :=
bif (!(((decide ((List.length p0 : Int) = (List.length p1 : Int))) && (decide (1 ≤ (List.length p0 : Int)))) && (decide ((List.length p0 : Int) ≤ 16))) || Option.isSome (f75 p0 (fun y1 => f79 y1))) then
bif (!((((decide ((List.length p0 : Int) = (List.length p1 : Int))) && (decide (1 ≤ (List.length p0 : Int)))) && (decide ((List.length p0 : Int) ≤ 16))) && (!((f75 p0 (fun y1 => f79 y1)).getD default))) || Option.isSome (f75 p1 (fun y1 => f79 y1))) then
some (((((decide ((List.length p0 : Int) = (List.length p1 : Int))) && (decide (1 ≤ (List.length p0 : Int)))) && (decide ((List.length p0 : Int) ≤ 16))) && (!((f75 p0 (fun y1 => f79 y1)).getD default))) && (!((f75 p1 (fun y1 => f79 y1)).getD default)))
else none
else none
def f9_b0 (p0 : List Int) (p1 : List Int) (i4 : Int) (s : Bool × Bool) : Option ((Bool × Bool) ⊕ Unit) :=
match s with
| (s5, s6) => (bif (!(!s5) || Option.isSome (ix p0 i4)) then
bif (!(!s5) || Option.isSome (ix p1 i4)) then
bif (!(!s6) || Option.isSome (ix p0 i4)) then
bif (!(!s6) || Option.isSome (ix p1 i4)) then
some (.inl (s5 || (decide (((ix p0 i4).getD default) < ((ix p1 i4).getD default))), s6 || (decide (((ix p1 i4).getD default) < ((ix p0 i4).getD default)))))
else none
else none
else none
else none)
def f9 (p0 : List Int) (p1 : List Int) : Option (Int × Int) :=
(f45 p0 p1).bind fun x1 =>
bif !x1 then
(some (0, 1))
else
((rng (f9_b0 p0 p1) (Int.toNat (List.length p0 : Int)) 0 (false, false)).bind fun o11 => match o11 with
| .inl (s5, s6) => (bif s5 && s6 then
(some (2, 0))
else
(bif s5 then
(some ((-1), 0))
else
(bif s6 then
(some (1, 0))
else
(some (0, 0)))))
| .inr _ => none)
def f46 (p0 : List Int) : Option (Bool) :=
some ((decide (1 ≤ (List.length p0 : Int))) && (decide ((List.length p0 : Int) ≤ 16)))
def f47_b1 (x6 : List Int) (i9 : Int) (s : Unit) : Option (Unit ⊕ Unit) :=
(ix x6 i9).bind fun x14 =>
bif decide (x14 < 0) then
(some (.inr ()))
else
(some (.inl ()))
def f47_b0 (p0 : Int) (p1 : List (List Int)) (i1 : Int) (s : Unit) : Option (Unit ⊕ Unit) :=
(ix p1 i1).bind fun x6 =>
bif !decide ((List.length x6 : Int) = p0) then
(some (.inr ()))
else
((rng (f47_b1 x6) (Int.toNat (List.length x6 : Int)) 0 ()).bind fun o11 => match o11 with
| .inl () => (some (.inl ()))
| .inr () => (some (.inr ())))
def f47 (p0 : Int) (p1 : List (List Int)) : Option (Bool) :=
(rng (f47_b0 p0 p1) (Int.toNat (List.length p1 : Int)) 0 ()).bind fun o3 => match o3 with
| .inl () => (some true)
| .inr () => (some false)
def f10_b0 (p0 : List Int) (p1 : List Int) (i5 : Int) (s : Bool × Bool) : Option ((Bool × Bool) ⊕ Unit) :=
match s with
| (s6, s7) => (bif (!(!s6) || Option.isSome (ix p0 i5)) then
bif (!(!s6) || Option.isSome (ix p1 i5)) then
bif (!(!s7) || Option.isSome (ix p0 i5)) then
bif (!(!s7) || Option.isSome (ix p1 i5)) then
some (.inl (s6 || (decide (((ix p0 i5).getD default) < ((ix p1 i5).getD default))), s7 || (decide (((ix p1 i5).getD default) < ((ix p0 i5).getD default)))))
else none
else none
else none
else none)
def f10 (p0 : List Int) (p1 : List Int) : Option (Int × Int) :=
(f46 p0).bind fun x1 =>
bif (!(!(!x1)) || Option.isSome (f47 (List.length p0 : Int) [p0, p1])) then
bif (!x1) || (!((f47 (List.length p0 : Int) [p0, p1]).getD default)) then
(some (0, 1))
else
((rng (f10_b0 p0 p1) (Int.toNat (List.length p0 : Int)) 0 (false, false)).bind fun o12 => match o12 with
| .inl (s6, s7) => (bif s6 && s7 then
(some (2, 0))
else
(bif s6 then
(some ((-1), 0))
else
(bif s7 then
(some (1, 0))
else
(some (0, 0)))))
| .inr _ => none)
else none
def f11 (p0 : List Int) (p1 : List Int) : Option (List Int × Int) :=
(f45 p0 p1).bind fun x1 =>
bif !x1 then
(some (([] : List Int), 1))
else
((f48 p0 p1).bind fun x4 =>
some (x4, 0))
def f12_b0 (p0 : List Int) (p1 : List Int) (i5 : Int) (s7 : List Int) : Option ((List Int) ⊕ Unit) :=
(ix p0 i5).bind fun x13 =>
(ix p1 i5).bind fun x15 =>
bif apOk 8 (List.length s7 + List.length [(max x13 x15)]) then
some (.inl (s7 ++ [(max x13 x15)]))
else none
def f12 (p0 : List Int) (p1 : List Int) : Option (List Int × Int) :=
(f46 p0).bind fun x1 =>
bif (!(!(!x1)) || Option.isSome (f47 (List.length p0 : Int) [p0, p1])) then
bif (!x1) || (!((f47 (List.length p0 : Int) [p0, p1]).getD default)) then
(some (([] : List Int), 1))
else
((rng (f12_b0 p0 p1) (Int.toNat (List.length p0 : Int)) 0 ([] : List Int)).bind fun o10 => match o10 with
| .inl s7 => (some (s7, 0))
| .inr _ => none)
else none
def f3 (p0 : List Int) (p1 : List Int) : Option (Bool) :=
bif (decide (50 < (List.length p0 : Int))) || (decide (50 < (List.length p1 : Int))) then
((f8).bind fun x2 =>
some x2)
else
((f9 p0 p1).bind fun x4 =>
(f10 p0 p1).bind fun x6 =>
(f11 p0 p1).bind fun x8 =>
(f12 p0 p1).bind fun x10 =>
bif (!((decide (x4.1 = x6.1)) && (decide (x4.2 = x6.2))) || Option.isSome (f13 x8.1 x10.1)) then
bif (!((((decide (x4.1 = x6.1)) && (decide (x4.2 = x6.2))) && ((f13 x8.1 x10.1).getD default)) && (decide (x8.2 = x10.2))) || Option.isSome (f8)) then
some (((((decide (x4.1 = x6.1)) && (decide (x4.2 = x6.2))) && ((f13 x8.1 x10.1).getD default)) && (decide (x8.2 = x10.2))) && ((f8).getD default))
else none
else none)
def f14_b0 (p0 : List (Int × Int × Int × Int × Str)) (i1 : Int) (s : Unit) : Option (Unit ⊕ Unit) :=
(ix p0 i1).bind fun x6 =>
bif decide (60 < (List.length x6.2.2.2.2 : Int)) then
(some (.inr ()))
else
(some (.inl ()))
def f14 (p0 : List (Int × Int × Int × Int × Str)) : Option (Bool) :=
(rng (f14_b0 p0) (Int.toNat (List.length p0 : Int)) 0 ()).bind fun o3 => match o3 with
| .inl () => (some (decide ((List.length p0 : Int) ≤ 40)))
| .inr () => (some false)
def f50 (p0 : Int × Int × Int × Int × Str) : Option (Bool) :=
some (((((decide (1 ≤ p0.2.1)) && (decide (p0.2.1 ≤ 5))) && (((decide (p0.2.1 = 2)) || (decide (p0.2.1 = 3))) || (decide (p0.2.2.1 = 0)))) && (((decide (p0.2.1 = 4)) || (decide (p0.2.1 = 5))) || (decide (p0.2.2.2.1 = 0)))) && (decide ((List.length p0.2.2.2.2 : Int) ≤ 32)))
def f51_b0 (p0 : List (Int × Int × Int × Int × Str)) (p1 : Int) (p2 : Int) (i1 : Int) (s : Unit) : Option (Unit ⊕ Int) :=
(ix p0 i1).bind fun x7 =>
bif (decide (x7.2.1 = p1)) && (decide ((w64 (x7.2.2.1 + x7.2.2.2.1)) = p2)) then
(some (.inr i1))
else
(some (.inl ()))
def f51 (p0 : List (Int × Int × Int × Int × Str)) (p1 : Int) (p2 : Int) : Option (Int) :=
(rng (f51_b0 p0 p1 p2) (Int.toNat (List.length p0 : Int)) 0 ()).bind fun o4 => match o4 with
| .inl () => (some (-1))
| .inr s3 => (some s3)
def f16_b0 (p0 : Int) (p1 : List (Int × Int × Int × Int × Str)) (i2 : Int) (s : Unit) : Option (Unit ⊕ (Int × Int)) :=
(((ix p1 i2).bind fun x12 =>
bif decide (i2 = 1000) then
(some (.inr 4))
else
(bif (((decide (x12.1 < 0)) || (decide (p0 ≤ x12.1))) || (((decide (x12.2.1 = 2)) || (decide (x12.2.1 = 3))) && (decide (x12.2.2.1 < 1)))) || (((decide (x12.2.1 = 4)) || (decide (x12.2.1 = 5))) && (decide (x12.2.2.2.1 < 1))) then
(some (.inr 7))
else
((f50 x12).bind fun x16 =>
bif !x16 then
(some (.inr 10))
else
(bif (!((!decide (x12.2.1 = 1)) && (!decide (x12.2.1 = 3))) || (slOk 0 i2 (List.length p1))) then
bif (!((!decide (x12.2.1 = 1)) && (!decide (x12.2.1 = 3))) || Option.isSome (f51 ((p1.take (Int.toNat i2)).drop (Int.toNat 0)) x12.2.1 (w64 (x12.2.2.1 + x12.2.2.2.1)))) then
bif ((!decide (x12.2.1 = 1)) && (!decide (x12.2.1 = 3))) && (decide (0 ≤ ((f51 ((p1.take (Int.toNat i2)).drop (Int.toNat 0)) x12.2.1 (w64 (x12.2.2.1 + x12.2.2.2.1))).getD default))) then
(some (.inr 6))
else
(bif (!(decide (x12.2.1 = 3)) || (slOk 0 i2 (List.length p1))) then
bif (!(decide (x12.2.1 = 3)) || Option.isSome (f51 ((p1.take (Int.toNat i2)).drop (Int.toNat 0)) 2 x12.2.2.1)) then
bif (decide (x12.2.1 = 3)) && (decide (((f51 ((p1.take (Int.toNat i2)).drop (Int.toNat 0)) 2 x12.2.2.1).getD default) < 0)) then
(some (.inr 8))
else
(bif decide (x12.2.1 = 5) then
(bif slOk 0 i2 (List.length p1) then
(f51 ((p1.take (Int.toNat i2)).drop (Int.toNat 0)) 4 x12.2.2.2.1).bind fun x27 =>
bif decide (x27 < 0) then
(some (.inr 8))
else
((ix p1 x27).bind fun x30 =>
bif !decide (x30.1 = x12.1) then
(some (.inr 9))
else
(some (.inl ())))
else none)
else
(some (.inl ())))
else none
else none)
else none
else none)))) : Option (Unit ⊕ Int)).bind fun o10 => match o10 with
| .inl () => (some (.inl ()))
| .inr s9 => (some (.inr (i2, s9)))
def f16 (p0 : Int) (p1 : List (Int × Int × Int × Int × Str)) : Option (Int × Int) :=
bif (decide (p0 < 1)) || (decide (16 < p0)) then
(some (0, 7))
else
((rng (f16_b0 p0 p1) (Int.toNat (List.length p1 : Int)) 0 ()).bind fun o6 => match o6 with
| .inl () => (some ((-1), 0))
| .inr (s4, s5) => (some (s4, s5)))
def f18 (p0 : Int) (p1 : List (Int × Int × Int × Int × Str)) : Option (Bool) :=
(f16 p0 p1).bind fun x1 =>
some (decide (x1.2 = 0))
def f53_b0 (p1 : List (Int × Int × Int × Int × Str)) (p2 : List Int) (i4 : Int) (s : Unit) : Option (Unit ⊕ Unit) :=
(ix p2 i4).bind fun x9 =>
bif (decide (x9 < 0)) || (decide ((List.length p1 : Int) ≤ x9)) then
(some (.inr ()))
else
(some (.inl ()))
def f53 (p0 : Int) (p1 : List (Int × Int × Int × Int × Str)) (p2 : List Int) : Option (Int) :=
(f18 p0 p1).bind fun x1 =>
bif !x1 then
(some 1)
else
((rng (f53_b0 p1 p2) (Int.toNat (List.length p2 : Int)) 0 ()).bind fun o6 => match o6 with
| .inl () => (some 0)
| .inr () => (some 7))
def f56_b0 (p0 : List (Int × Int × Int × Int × Str)) (p1 : Int) (p2 : Int) (i11 : Int) (s : Unit) : Option (Unit ⊕ Unit) :=
(ix ((p0.take (Int.toNat p2)).drop (Int.toNat (w64 (p1 + 1)))) i11).bind fun x16 =>
(ix p0 p1).bind fun x18 =>
bif decide (x16.1 = x18.1) then
(some (.inr ()))
else
(some (.inl ()))
def f56 (p0 : List (Int × Int × Int × Int × Str)) (p1 : Int) (p2 : Int) : Option (Bool) :=
(ix p0 p1).bind fun x1 =>
bif (!(decide (x1.2.1 = 2)) || Option.isSome (ix p0 p2)) then
bif (!((decide (x1.2.1 = 2)) && (decide ((((((ix p0 p2).getD default)).2).1) = 3))) || Option.isSome (ix p0 p1)) then
bif (!((decide (x1.2.1 = 2)) && (decide ((((((ix p0 p2).getD default)).2).1) = 3))) || Option.isSome (ix p0 p2)) then
bif ((decide (x1.2.1 = 2)) && (decide ((((((ix p0 p2).getD default)).2).1) = 3))) && (decide (((((((ix p0 p1).getD default)).2).2).1) = ((((((ix p0 p2).getD default)).2).2).1))) then
(some true)
else
(bif (!(!(decide (p2 ≤ p1))) || Option.isSome (ix p0 p1)) then
bif (!(!(decide (p2 ≤ p1))) || Option.isSome (ix p0 p2)) then
bif (decide (p2 ≤ p1)) || (!decide (((((ix p0 p1).getD default)).1) = ((((ix p0 p2).getD default)).1))) then
(some false)
else
(bif slOk (w64 (p1 + 1)) p2 (List.length p0) then
(rng (f56_b0 p0 p1 p2) (Int.toNat (List.length ((p0.take (Int.toNat p2)).drop (Int.toNat (w64 (p1 + 1)))) : Int)) 0 ()).bind fun o13 => match o13 with
| .inl () => (some true)
| .inr () => (some false)
else none)
else none
else none)
else none
else none
else none
def f23_b2 (i2 : Int) (i13 : Int) (i32 : Int) (s34 : List (List Bool)) : Option ((List (List Bool)) ⊕ Unit) :=
(ix s34 i2).bind fun x41 =>
(ix x41 i32).bind fun x43 =>
bif (!(!x43) || Option.isSome (ix s34 i13)) then
bif (!(!x43) || Option.isSome (ix ((ix s34 i13).getD default) i32)) then
some (.inl (s34.set (Int.toNat i2) (x41.set (Int.toNat i32) (x43 || ((ix ((ix s34 i13).getD default) i32).getD default)))))
else none
else none
def f23_b1 (p0 : List (Int × Int × Int × Int × Str)) (i2 : Int) (i13 : Int) (s15 : List (List Bool)) : Option ((List (List Bool)) ⊕ Unit) :=
(((f56 p0 i13 i2).bind fun x25 =>
bif !x25 then
(some (.inl s15))
else
((ix s15 i2).bind fun x28 =>
(ix x28 i13).bind fun x30 =>
bif decide (i13 ≤ 9223372036854775807) then
(rng (f23_b2 i2 i13) (Int.toNat i13) 0 (s15.set (Int.toNat i2) (x28.set (Int.toNat i13) true))).bind fun o38 => match o38 with
| .inl s34 => (some (.inl s34))
| .inr _ => none
else none)) : Option ((List (List Bool)) ⊕ Unit)).bind fun o23 => match o23 with
| .inl s22 => (some (.inl s22))
| .inr _ => none
def f23_b0 (p0 : List (Int × Int × Int × Int × Str)) (i2 : Int) (s4 : List (List Bool)) : Option ((List (List Bool)) ⊕ Unit) :=
bif mkOk 1 (List.length p0 : Int) (List.length p0 : Int) then
(ix s4 i2).bind fun x11 =>
bif decide (i2 ≤ 9223372036854775807) then
(rng (f23_b1 p0 i2) (Int.toNat i2) 0 (s4.set (Int.toNat i2) (List.replicate (Int.toNat (List.length p0 : Int)) false))).bind fun o19 => match o19 with
| .inl s15 => (some (.inl s15))
| .inr _ => none
else none
else none
def f23 (p0 : List (Int × Int × Int × Int × Str)) : Option (List (List Bool)) :=
bif mkOk 24 (List.length p0 : Int) (List.length p0 : Int) then
(rng (f23_b0 p0) (Int.toNat (List.length p0 : Int)) 0 (List.replicate (Int.toNat (List.length p0 : Int)) ([] : List Bool))).bind fun o7 => match o7 with
| .inl s4 => (some s4)
| .inr _ => none
else none
def f20_b1 (p1 : List (Int × Int × Int × Int × Str)) (i7 : Int) (x24 : List Bool) (i26 : Int) (s28 : List (List Int)) : Option ((List (List Int)) ⊕ Unit) :=
(((ix x24 i26).bind fun x37 =>
bif x37 then
((ix s28 i7).bind fun x40 =>
(ix p1 i26).bind fun x42 =>
(ix x40 x42.1).bind fun x44 =>
some (.inl (s28.set (Int.toNat i7) (x40.set (Int.toNat x42.1) (w64 (x44 + 1))))))
else
(some (.inl s28))) : Option ((List (List Int)) ⊕ Unit)).bind fun o35 => match o35 with
| .inl s34 => (some (.inl s34))
| .inr _ => none
def f20_b0 (p0 : Int) (p1 : List (Int × Int × Int × Int × Str)) (x4 : List (List Bool)) (i7 : Int) (s9 : List (List Int)) : Option ((List (List Int)) ⊕ Unit) :=
bif mkOk 8 p0 p0 then
(ix s9 i7).bind fun x16 =>
(ix (s9.set (Int.toNat i7) (List.replicate (Int.toNat p0) 0)) i7).bind fun x18 =>
(ix p1 i7).bind fun x20 =>
(ix x18 x20.1).bind fun x22 =>
(ix x4 i7).bind fun x24 =>
(rng (f20_b1 p1 i7 x24) (Int.toNat (List.length x24 : Int)) 0 ((s9.set (Int.toNat i7) (List.replicate (Int.toNat p0) 0)).set (Int.toNat i7) (x18.set (Int.toNat x20.1) 1))).bind fun o31 => match o31 with
| .inl s28 => (some (.inl s28))
| .inr _ => none
else none
def f20 (p0 : Int) (p1 : List (Int × Int × Int × Int × Str)) : Option (List (List Int) × Int) :=
(f53 p0 p1 ([] : List Int)).bind fun x1 =>
bif !decide (x1 = 0) then
(some (([] : List (List Int)), x1))
else
((f23 p1).bind fun x4 =>
bif mkOk 24 (List.length p1 : Int) (List.length p1 : Int) then
(rng (f20_b0 p0 p1 x4) (Int.toNat (List.length p1 : Int)) 0 (List.replicate (Int.toNat (List.length p1 : Int)) ([] : List Int))).bind fun o12 => match o12 with
| .inl s9 => (some (s9, 0))
| .inr _ => none
else none)
def f54_b1 (s5 : List Int) (y12 : List Int) (i13 : Int) (s14 : Int) : Option (Int ⊕ Unit) :=
(ix y12 i13).bind fun x22 =>
(ix s5 x22).bind fun x24 =>
some (.inl (max s14 x24))
def f54_b0 (s5 : List Int) (x : Int × List Int) : Option (List Int) :=
match x with
| (y11, y12) => ((rng (f54_b1 s5 y12) (Int.toNat (List.length y12 : Int)) 0 0).bind fun o18 => match o18 with
| .inl s14 => (bif apOk 8 (List.length s5 + List.length [(w64 (s14 + 1))]) then
some (s5 ++ [(w64 (s14 + 1))])
else none)
| .inr _ => none)
def f54 (p0 : Int) (p1 : List (Int × Int × Int × Int × Str)) : Option (List Int) :=
(f62 p0 p1).bind fun x1 =>
(f82 f54_b0 ([] : List Int) p0 p1).bind fun s5 => match s5 with
| s5 => (some s5)
def f21 (p0 : Int) (p1 : List (Int × Int × Int × Int × Str)) : Option (List Int × Int) :=
(f17 p0 p1).bind fun x1 =>
bif !x1 then
(some (([] : List Int), 1))
else
((f54 p0 p1).bind fun x4 =>
some (x4, 0))
def f55_b1 (i4 : Int) (x14 : List Bool) (i16 : Int) (s18 : List Int) : Option ((List Int) ⊕ Unit) :=
(((ix x14 i16).bind fun x27 =>
bif x27 then
((ix s18 i4).bind fun x30 =>
(ix s18 i16).bind fun x32 =>
some (.inl (s18.set (Int.toNat i4) (max x30 (w64 (x32 + 1))))))
else
(some (.inl s18))) : Option ((List Int) ⊕ Unit)).bind fun o25 => match o25 with
| .inl s24 => (some (.inl s24))
| .inr _ => none
def f55_b0 (x1 : List (List Bool)) (i4 : Int) (s6 : List Int) : Option ((List Int) ⊕ Unit) :=
(ix s6 i4).bind fun x12 =>
(ix x1 i4).bind fun x14 =>
(rng (f55_b1 i4 x14) (Int.toNat (List.length x14 : Int)) 0 (s6.set (Int.toNat i4) 1)).bind fun o21 => match o21 with
| .inl s18 => (some (.inl s18))
| .inr _ => none
def f55 (p0 : List (Int × Int × Int × Int × Str)) : Option (List Int) :=
(f23 p0).bind fun x1 =>
bif mkOk 8 (List.length p0 : Int) (List.length p0 : Int) then
(rng (f55_b0 x1) (Int.toNat (List.length p0 : Int)) 0 (List.replicate (Int.toNat (List.length p0 : Int)) 0)).bind fun o9 => match o9 with
| .inl s6 => (some s6)
| .inr _ => none
else none
def f22 (p0 : Int) (p1 : List (Int × Int × Int × Int × Str)) : Option (List Int × Int) :=
(f53 p0 p1 ([] : List Int)).bind fun x1 =>
bif !decide (x1 = 0) then
(some (([] : List Int), x1))
else
((f55 p1).bind fun x4 =>
some (x4, 0))
def f25 (p0 : Int) (p1 : List (Int × Int × Int × Int × Str)) (p2 : Int) (p3 : Int) : Option (Bool × Int) :=
(f53 p0 p1 [p2, p3]).bind fun x1 =>
bif !decide (x1 = 0) then
(some (false, x1))
else
((f23 p1).bind fun x4 =>
(ix x4 p3).bind fun x6 =>
(ix x6 p2).bind fun x8 =>
some (x8, 0))
def f60 (p0 : List (List Int)) (p1 : Int) (p2 : List (Int × Int × Int × Int × Str)) (p3 : Int) : Option (Bool) :=
(f58 p2 p0 p3 p1).bind fun x1 =>
bif (!(!x1) || Option.isSome (f58 p2 p0 p1 p3)) then
some ((!x1) && (!((f58 p2 p0 p1 p3).getD default)))
else none
def f59_b0 (p2 : Int) (q3 : (List (List Int)) → Int → Option Bool) (x4 : List (List Int)) (i6 : Int) (s8 : List Int) : Option ((List Int) ⊕ Unit) :=
((bif (!(!decide (i6 = p2)) || Option.isSome (q3 x4 i6)) then
bif (!decide (i6 = p2)) && ((q3 x4 i6).getD default) then
(bif apOk 8 (List.length s8 + List.length [i6]) then
some (.inl (s8 ++ [i6]))
else none)
else
(some (.inl s8))
else none) : Option ((List Int) ⊕ Unit)).bind fun o15 => match o15 with
| .inl s14 => (some (.inl s14))
| .inr _ => none
def f59 (p0 : Int) (p1 : List (Int × Int × Int × Int × Str)) (p2 : Int) (q3 : (List (List Int)) → Int → Option Bool) : Option (List Int × Int) :=
(f57 p0 p1 [p2]).bind fun x1 =>
bif !decide (x1 = 0) then
(some (([] : List Int), x1))
else
((f52 p0 p1).bind fun x4 =>
(rng (f59_b0 p2 q3 x4) (Int.toNat (List.length p1 : Int)) 0 ([] : List Int)).bind fun o11 => match o11 with
| .inl s8 => (some (s8, 0))
| .inr _ => none)
def f26 (p0 : Int) (p1 : List (Int × Int × Int × Int × Str)) (p2 : Int) : Option (List Int × Int) :=
(f59 p0 p1 p2 (fun y1 y2 => f60 y1 y2 p1 p2)).bind fun x1 =>
some (x1.1, x1.2)
def f27_b0 (p2 : Int) (x4 : List (List Bool)) (i6 : Int) (s8 : List Int) : Option ((List Int) ⊕ Unit) :=
((bif (!(!decide (i6 = p2)) || Option.isSome (ix x4 p2)) then
bif (!(!decide (i6 = p2)) || Option.isSome (ix ((ix x4 p2).getD default) i6)) then
bif (!((!decide (i6 = p2)) && (!((ix ((ix x4 p2).getD default) i6).getD default))) || Option.isSome (ix x4 i6)) then
bif (!((!decide (i6 = p2)) && (!((ix ((ix x4 p2).getD default) i6).getD default))) || Option.isSome (ix ((ix x4 i6).getD default) p2)) then
bif ((!decide (i6 = p2)) && (!((ix ((ix x4 p2).getD default) i6).getD default))) && (!((ix ((ix x4 i6).getD default) p2).getD default)) then
(bif apOk 8 (List.length s8 + List.length [i6]) then
some (.inl (s8 ++ [i6]))
else none)
else
(some (.inl s8))
else none
else none
else none
else none) : Option ((List Int) ⊕ Unit)).bind fun o15 => match o15 with
| .inl s14 => (some (.inl s14))
| .inr _ => none
def f27 (p0 : Int) (p1 : List (Int × Int × Int × Int × Str)) (p2 : Int) : Option (List Int × Int) :=
(f53 p0 p1 [p2]).bind fun x1 =>
bif !decide (x1 = 0) then
(some (([] : List Int), x1))
else
((f23 p1).bind fun x4 =>
(rng (f27_b0 p2 x4) (Int.toNat (List.length p1 : Int)) 0 ([] : List Int)).bind fun o11 => match o11 with
| .inl s8 => (some (s8, 0))
| .inr _ => none)
def f61 (p0 : List (List Int)) (p1 : Int) (p2 : List (Int × Int × Int × Int × Str)) (p3 : Int) : Option (Bool) :=
(f58 p2 p0 p1 p3).bind fun x1 =>
some x1
def f28 (p0 : Int) (p1 : List (Int × Int × Int × Int × Str)) (p2 : Int) : Option (List Int × Int) :=
(f59 p0 p1 p2 (fun y1 y2 => f61 y1 y2 p1 p2)).bind fun x1 =>
some (x1.1, x1.2)
def f29_b0 (x6 : List Bool) (i8 : Int) (s10 : List Int) : Option ((List Int) ⊕ Unit) :=
(((ix x6 i8).bind fun x19 =>
bif x19 then
(bif apOk 8 (List.length s10 + List.length [i8]) then
some (.inl (s10 ++ [i8]))
else none)
else
(some (.inl s10))) : Option ((List Int) ⊕ Unit)).bind fun o17 => match o17 with
| .inl s16 => (some (.inl s16))
| .inr _ => none
def f29 (p0 : Int) (p1 : List (Int × Int × Int × Int × Str)) (p2 : Int) : Option (List Int × Int) :=
(f53 p0 p1 [p2]).bind fun x1 =>
bif !decide (x1 = 0) then
(some (([] : List Int), x1))
else
((f23 p1).bind fun x4 =>
(ix x4 p2).bind fun x6 =>
(rng (f29_b0 x6) (Int.toNat (List.length x6 : Int)) 0 ([] : List Int)).bind fun o13 => match o13 with
| .inl s10 => (some (s10, 0))
| .inr _ => none)
def f65_b1 (p2 : List Int) (s8 : List Int) (i13 : Int) (s : Unit) : Option (Unit ⊕ Unit) :=
(ix p2 i13).bind fun x18 =>
(ix s8 i13).bind fun x20 =>
bif decide (x20 < x18) then
(some (.inr ()))
else
(some (.inl ()))
def f65_b0 (p1 : List (Int × Int × Int × Int × Str)) (i6 : Int) (s8 : List Int) : Option ((List Int) ⊕ Unit) :=
(ix p1 i6).bind fun x24 =>
(ix s8 x24.1).bind fun x26 =>
some (.inl (s8.set (Int.toNat x24.1) (w64 (x26 + 1))))
def f65 (p0 : Int) (p1 : List (Int × Int × Int × Int × Str)) (p2 : List Int) : Option (Int) :=
(f18 p0 p1).bind fun x1 =>
bif (!(!(!x1)) || Option.isSome (f47 p0 [p2])) then
bif (!x1) || (!((f47 p0 [p2]).getD default)) then
(some 1)
else
(bif mkOk 8 p0 p0 then
(rng (f65_b0 p1) (Int.toNat (List.length p1 : Int)) 0 (List.replicate (Int.toNat p0) 0)).bind fun o11 => match o11 with
| .inl s8 => ((rng (f65_b1 p2 s8) (Int.toNat (List.length p2 : Int)) 0 ()).bind fun o15 => match o15 with
| .inl () => (some 0)
| .inr () => (some 7))
| .inr _ => none
else none)
else none
def f67_b0 (p1 : List (Int × Int × Int × Int × Str)) (i2 : Int) (s : List Int × List Int) : Option ((List Int × List Int) ⊕ Unit) :=
match s with
| (s4, s5) => ((ix p1 i2).bind fun x12 =>
(ix s4 x12.1).bind fun x14 =>
(ix (s4.set (Int.toNat x12.1) (w64 (x14 + 1))) x12.1).bind fun x16 =>
bif apOk 8 (List.length s5 + List.length [x16]) then
some (.inl ((s4.set (Int.toNat x12.1) (w64 (x14 + 1))), (s5 ++ [x16])))
else none)
def f67 (p0 : Int) (p1 : List (Int × Int × Int × Int × Str)) : Option (List Int) :=
bif mkOk 8 p0 p0 then
(rng (f67_b0 p1) (Int.toNat (List.length p1 : Int)) 0 ((List.replicate (Int.toNat p0) 0), ([] : List Int))).bind fun o9 => match o9 with
| .inl (s4, s5) => (some s5)
| .inr _ => none
else none
def f66_b1 (p0 : List (Int × Int × Int × Int × Str)) (p1 : List Int) (p3 : List Int) (x15 : List Bool) (i17 : Int) (s : Unit) : Option (Unit ⊕ Unit) :=
(ix x15 i17).bind fun x22 =>
bif (!x22 || Option.isSome (ix p1 i17)) then
bif (!x22 || Option.isSome (ix p0 i17)) then
bif (!x22 || Option.isSome (ix p3 ((((ix p0 i17).getD default)).1))) then
bif x22 && (decide (((ix p3 ((((ix p0 i17).getD default)).1)).getD default) < ((ix p1 i17).getD default))) then
(some (.inr ()))
else
(some (.inl ()))
else none
else none
else none
def f66_b0 (p0 : List (Int × Int × Int × Int × Str)) (p1 : List Int) (p2 : List (List Bool)) (p3 : List Int) (i1 : Int) (s : Unit) : Option (Unit ⊕ Unit) :=
(((ix p0 i1).bind fun x8 =>
(ix p1 i1).bind fun x10 =>
(ix p3 x8.1).bind fun x12 =>
bif decide (x12 < x10) then
(some (.inl ()))
else
((ix p2 i1).bind fun x15 =>
(rng (f66_b1 p0 p1 p3 x15) (Int.toNat (List.length x15 : Int)) 0 ()).bind fun o19 => match o19 with
| .inl () => (some (.inl ()))
| .inr () => (some (.inr ())))) : Option (Unit ⊕ Unit)).bind fun o6 => match o6 with
| .inl () => (some (.inl ()))
| .inr () => (some (.inr ()))
def f66 (p0 : List (Int × Int × Int × Int × Str)) (p1 : List Int) (p2 : List (List Bool)) (p3 : List Int) : Option (Bool) :=
(rng (f66_b0 p0 p1 p2 p3) (Int.toNat (List.length p0 : Int)) 0 ()).bind fun o3 => match o3 with
| .inl () => (some true)
| .inr () => (some false)
def f33 (p0 : Int) (p1 : List (Int × Int × Int × Int × Str)) (p2 : List Int) : Option (Bool × Int) :=
(f65 p0 p1 p2).bind fun x1 =>
bif !decide (x1 = 0) then
(some (false, x1))
else
((f67 p0 p1).bind fun x4 =>
(f23 p1).bind fun x6 =>
(f66 p1 x4 x6 p2).bind fun x8 =>
some (x8, 0))
def f34_b0 (p2 : List Int) (x4 : List (List Int)) (i7 : Int) (s9 : List Int) : Option ((List Int) ⊕ Unit) :=
(ix p2 i7).bind fun x15 =>
(ix x4 x15).bind fun x17 =>
(f48 s9 x17).bind fun x19 =>
some (.inl x19)
def f34 (p0 : Int) (p1 : List (Int × Int × Int × Int × Str)) (p2 : List Int) : Option (List Int × Int) :=
(f57 p0 p1 p2).bind fun x1 =>
bif !decide (x1 = 0) then
(some (([] : List Int), x1))
else
((f52 p0 p1).bind fun x4 =>
bif mkOk 8 p0 p0 then
(rng (f34_b0 p2 x4) (Int.toNat (List.length p2 : Int)) 0 (List.replicate (Int.toNat p0) 0)).bind fun o12 => match o12 with
| .inl s9 => (some (s9, 0))
| .inr _ => none
else none)
def f35_b1 (p1 : List (Int × Int × Int × Int × Str)) (x4 : List Int) (x25 : List Bool) (i27 : Int) (s29 : List Int) : Option ((List Int) ⊕ Unit) :=
(((ix x25 i27).bind fun x38 =>
bif x38 then
((ix p1 i27).bind fun x41 =>
(ix s29 x41.1).bind fun x43 =>
(ix x4 i27).bind fun x45 =>
some (.inl (s29.set (Int.toNat x41.1) (max x43 x45))))
else
(some (.inl s29))) : Option ((List Int) ⊕ Unit)).bind fun o36 => match o36 with
| .inl s35 => (some (.inl s35))
| .inr _ => none
def f35_b0 (p1 : List (Int × Int × Int × Int × Str)) (p2 : List Int) (x4 : List Int) (x6 : List (List Bool)) (i9 : Int) (s11 : List Int) : Option ((List Int) ⊕ Unit) :=
(ix p2 i9).bind fun x17 =>
(ix p1 x17).bind fun x19 =>
(ix s11 x19.1).bind fun x21 =>
(ix x4 x17).bind fun x23 =>
(ix x6 x17).bind fun x25 =>
(rng (f35_b1 p1 x4 x25) (Int.toNat (List.length x25 : Int)) 0 (s11.set (Int.toNat x19.1) (max x21 x23))).bind fun o32 => match o32 with
| .inl s29 => (some (.inl s29))
| .inr _ => none
def f35 (p0 : Int) (p1 : List (Int × Int × Int × Int × Str)) (p2 : List Int) : Option (List Int × Int) :=
(f53 p0 p1 p2).bind fun x1 =>
bif !decide (x1 = 0) then
(some (([] : List Int), x1))
else
((f67 p0 p1).bind fun x4 =>
(f23 p1).bind fun x6 =>
bif mkOk 8 p0 p0 then
(rng (f35_b0 p1 p2 x4 x6) (Int.toNat (List.length p2 : Int)) 0 (List.replicate (Int.toNat p0) 0)).bind fun o14 => match o14 with
| .inl s11 => (some (s11, 0))
| .inr _ => none
else none)
def f36_b1 (p1 : List (Int × Int × Int × Int × Str)) (x4 : List (List Int)) (i17 : Int) (s : Bool × List Int) : Option ((Bool × List Int) ⊕ Unit) :=
match s with
| (s18, s20) => ((((ix p1 i17).bind fun x31 =>
(ix x4 i17).bind fun x33 =>
(f69 x33 s20 x31.1).bind fun x35 =>
bif (!x35 || Option.isSome (ix x4 i17)) then
bif (!x35 || Option.isSome (f70 ((ix x4 i17).getD default) s20)) then
bif x35 && (!((f70 ((ix x4 i17).getD default) s20).getD default)) then
((ix x33 x31.1).bind fun x40 =>
(ix s20 x31.1).bind fun x42 =>
some (.inl (true, (s20.set (Int.toNat x31.1) (w64 (x40 - 1))))))
else
(some (.inl (s18, s20)))
else none
else none) : Option ((Bool × List Int) ⊕ Unit)).bind fun o29 => match o29 with
| .inl (s27, s28) => (some (.inl (s27, s28)))
| .inr _ => none)
def f36_b0 (p1 : List (Int × Int × Int × Int × Str)) (x4 : List (List Int)) (s : Bool × List Int) : Option ((Bool × List Int) ⊕ (List Int)) :=
match s with
| (s8, s9) => (bif s8 then
((rng (f36_b1 p1 x4) (Int.toNat (List.length p1 : Int)) 0 (false, s9)).bind fun o24 => match o24 with
| .inl (s18, s20) => (some (.inl (s18, s20)))
| .inr _ => none)
else
(some (.inr s9)))
def f36 (p0 : Int) (p1 : List (Int × Int × Int × Int × Str)) (p2 : List Int) : Option (List Int × Int) :=
(f63 p0 p1 p2).bind fun x1 =>
bif !decide (x1 = 0) then
(some (([] : List Int), x1))
else
((f52 p0 p1).bind fun x4 =>
(f68 p2).bind fun x6 =>
(lrun (f36_b0 p1 x4) (List.length p1 + 2) (true, x6)).bind fun s13 => match s13 with
| s13 => (some (s13, 0)))
def f37_b1 (p1 : List (Int × Int × Int × Int × Str)) (p2 : List Int) (x4 : List Int) (i9 : Int) (x17 : Int × Int × Int × Int × Str) (x19 : List Bool) (i21 : Int) (s23 : List Int) : Option ((List Int) ⊕ Unit) :=
(((ix x19 i21).bind fun x32 =>
bif (!x32 || Option.isSome (ix x4 i21)) then
bif (!x32 || Option.isSome (ix p1 i21)) then
bif (!x32 || Option.isSome (ix p2 ((((ix p1 i21).getD default)).1))) then
bif x32 && (decide (((ix p2 ((((ix p1 i21).getD default)).1)).getD default) < ((ix x4 i21).getD default))) then
((ix s23 x17.1).bind fun x38 =>
(ix x4 i9).bind fun x40 =>
some (.inl (s23.set (Int.toNat x17.1) (min x38 (w64 (x40 - 1))))))
else
(some (.inl s23))
else none
else none
else none) : Option ((List Int) ⊕ Unit)).bind fun o30 => match o30 with
| .inl s29 => (some (.inl s29))
| .inr _ => none
def f37_b0 (p1 : List (Int × Int × Int × Int × Str)) (p2 : List Int) (x4 : List Int) (x6 : List (List Bool)) (i9 : Int) (s11 : List Int) : Option ((List Int) ⊕ Unit) :=
(ix p1 i9).bind fun x17 =>
(ix x6 i9).bind fun x19 =>
(rng (f37_b1 p1 p2 x4 i9 x17 x19) (Int.toNat (List.length x19 : Int)) 0 s11).bind fun o26 => match o26 with
| .inl s23 => (some (.inl s23))
| .inr _ => none
def f37 (p0 : Int) (p1 : List (Int × Int × Int × Int × Str)) (p2 : List Int) : Option (List Int × Int) :=
(f65 p0 p1 p2).bind fun x1 =>
bif !decide (x1 = 0) then
(some (([] : List Int), x1))
else
((f67 p0 p1).bind fun x4 =>
(f23 p1).bind fun x6 =>
bif apOk 8 (List.length p2) then
(rng (f37_b0 p1 p2 x4 x6) (Int.toNat (List.length p1 : Int)) 0 p2).bind fun o14 => match o14 with
| .inl s11 => (some (s11, 0))
| .inr _ => none
else none)
def f72 (p0 : Int) (p1 : Int × Int × Int × Int × Str) : Option (Bool) :=
some (decide (p0 = p1.2.2.1))
def f71_b0 (q1 : Int → Option Bool) (s : Int × Int × List Int) : Option ((Int × Int × List Int) ⊕ (Int × List Int)) :=
match s with
| (s5, s6, s7) => (bif decide (s6 < (List.length s7 : Int)) then
((((ix s7 s6).bind fun x23 =>
(q1 x23).bind fun x25 =>
bif !x25 then
((ix s7 s5).bind fun x28 =>
some (.inl ((w64 (s5 + 1)), (s7.set (Int.toNat s5) x23))))
else
(some (.inl (s5, s7)))) : Option ((Int × List Int) ⊕ Unit)).bind fun o21 => match o21 with
| .inl (s19, s20) => (some (.inl (s19, (w64 (s6 + 1)), s20)))
| .inr _ => none)
else
(some (.inr (s5, s7))))
def f71 (p0_0 : List Int) (q1 : Int → Option Bool) : Option (List Int) :=
(f86 p0_0 q1).bind fun x2 =>
bif decide (x2 = (-1)) then
(some p0_0)
else
((lrun (f71_b0 q1) (List.length p0_0 + 2) (x2, (w64 (x2 + 1)), p0_0)).bind fun o14 => match o14 with
| (s11, s13) => (bif slOk s11 (List.length s13 : Int) (List.length s13) then
bif slOk 0 s11 (List.length (s13.take (Int.toNat s11) ++ List.replicate (List.length s13 - Int.toNat s11) 0)) then
some ((s13.take (Int.toNat s11) ++ List.replicate (List.length s13 - Int.toNat s11) 0).take (Int.toNat s11))
else none
else none))
def f38_b0 (p1 : List (Int × Int × Int × Int × Str)) (p2 : List Int) (x4 : List (List Int)) (i9 : Int) (s11 : List Int) : Option ((List Int) ⊕ Unit) :=
(((ix p1 i9).bind fun x22 =>
(ix x4 i9).bind fun x24 =>
(f69 x24 p2 x22.1).bind fun x26 =>
bif !x26 then
(some (.inl s11))
else
(bif decide (x22.2.1 = 2) then
(bif apOk 8 (List.length s11 + List.length [x22.2.2.1]) then
some (.inl (s11 ++ [x22.2.2.1]))
else none)
else
(bif decide (x22.2.1 = 3) then
((f71 s11 (fun y1 => f72 y1 x22)).bind fun x32 =>
some (.inl x32))
else
(some (.inl s11))))) : Option ((List Int) ⊕ Unit)).bind fun o20 => match o20 with
| .inl s19 => (some (.inl s19))
| .inr _ => none
def f38 (p0 : Int) (p1 : List (Int × Int × Int × Int × Str)) (p2 : List Int) : Option (List Int × Int) :=
(f63 p0 p1 p2).bind fun x1 =>
bif !decide (x1 = 0) then
(some (([] : List Int), x1))
else
((f52 p0 p1).bind fun x4 =>
(f64 p1 x4 p2).bind fun x6 =>
bif !x6 then
(some (([] : List Int), 9))
else
((rng (f38_b0 p1 p2 x4) (Int.toNat (List.length p1 : Int)) 0 ([] : List Int)).bind fun o14 => match o14 with
| .inl s11 => ((f73 s11).bind fun x16 =>
some (x16, 0))
| .inr _ => none))
def f74 (p0_0 : List Int) : Option (List Int) :=
(f73 p0_0).bind fun x2 =>
some x2
def f39_b1 (p1 : List (Int × Int × Int × Int × Str)) (p2 : List Int) (x4 : List Int) (x24 : Int × Int × Int × Int × Str) (i29 : Int) (s30 : Bool) : Option (Bool ⊕ Unit) :=
(ix p1 i29).bind fun x39 =>
bif (!((!s30) && ((decide (x39.2.1 = 3)) && (decide (x39.2.2.1 = x24.2.2.1)))) || Option.isSome (ix x4 i29)) then
bif (!((!s30) && ((decide (x39.2.1 = 3)) && (decide (x39.2.2.1 = x24.2.2.1)))) || Option.isSome (ix p2 x39.1)) then
some (.inl (s30 || (((decide (x39.2.1 = 3)) && (decide (x39.2.2.1 = x24.2.2.1))) && (decide (((ix x4 i29).getD default) ≤ ((ix p2 x39.1).getD default))))))
else none
else none
def f39_b0 (p1 : List (Int × Int × Int × Int × Str)) (p2 : List Int) (x4 : List Int) (i11 : Int) (s13 : List Int) : Option ((List Int) ⊕ Unit) :=
(((ix p1 i11).bind fun x24 =>
bif (!(!(!decide (x24.2.1 = 2))) || Option.isSome (ix x4 i11)) then
bif (!(!(!decide (x24.2.1 = 2))) || Option.isSome (ix p2 x24.1)) then
bif (!decide (x24.2.1 = 2)) || (decide (((ix p2 x24.1).getD default) < ((ix x4 i11).getD default))) then
(some (.inl s13))
else
((rng (f39_b1 p1 p2 x4 x24) (Int.toNat (List.length p1 : Int)) 0 false).bind fun o34 => match o34 with
| .inl s30 => (bif !s30 then
(bif apOk 8 (List.length s13 + List.length [x24.2.2.1]) then
some (.inl (s13 ++ [x24.2.2.1]))
else none)
else
(some (.inl s13)))
| .inr _ => none)
else none
else none) : Option ((List Int) ⊕ Unit)).bind fun o22 => match o22 with
| .inl s21 => (some (.inl s21))
| .inr _ => none
def f39 (p0 : Int) (p1 : List (Int × Int × Int × Int × Str)) (p2 : List Int) : Option (List Int × Int) :=
(f65 p0 p1 p2).bind fun x1 =>
bif !decide (x1 = 0) then
(some (([] : List Int), x1))
else
((f67 p0 p1).bind fun x4 =>
(f23 p1).bind fun x6 =>
(f66 p1 x4 x6 p2).bind fun x8 =>
bif !x8 then
(some (([] : List Int), 9))
else
((rng (f39_b0 p1 p2 x4) (Int.toNat (List.length p1 : Int)) 0 ([] : List Int)).bind fun o16 => match o16 with
| .inl s13 => ((f74 s13).bind fun x18 =>
some (x18, 0))
| .inr _ => none))
def f40_b0 (p0 : List Int) (p1 : List Int) (i1 : Int) (s : Unit) : Option (Unit ⊕ Unit) :=
(ix p0 i1).bind fun x6 =>
(ix p1 i1).bind fun x8 =>
bif decide (x8 < x6) then
(some (.inr ()))
else
(some (.inl ()))
def f40 (p0 : List Int) (p1 : List Int) : Option (Bool) :=
(rng (f40_b0 p0 p1) (Int.toNat (List.length p0 : Int)) 0 ()).bind fun o3 => match o3 with
| .inl () => (some true)
| .inr () => (some false)
def f6_b0 (p2 : List Int) (p3 : List Int) (i47 : Int) (s : List Int × List Int) : Option ((List Int × List Int) ⊕ Unit) :=
match s with
| (s49, s50) => ((ix p2 i47).bind fun x62 =>
(ix p3 i47).bind fun x64 =>
bif apOk 8 (List.length s49 + List.length [(max x62 x64)]) then
bif apOk 8 (List.length s50 + List.length [(min x62 x64)]) then
some (.inl ((s49 ++ [(max x62 x64)]), (s50 ++ [(min x62 x64)])))
else none
else none)
def f6 (p0 : Int) (p1 : List (Int × Int × Int × Int × Str)) (p2 : List Int) (p3 : List Int) (p4 : List Int) : Option (Bool) :=
(f14 p1).bind fun x1 =>
bif (((!x1) || (decide (40 < (List.length p2 : Int)))) || (decide (40 < (List.length p3 : Int)))) || (decide (60 < (List.length p4 : Int))) then
((f8).bind fun x4 =>
some x4)
else
((f32 p0 p1 p2).bind fun x6 =>
(f33 p0 p1 p2).bind fun x8 =>
(f34 p0 p1 p4).bind fun x10 =>
(f35 p0 p1 p4).bind fun x12 =>
bif (!(!((!decide (x6.1 = x8.1)) || (!decide (x6.2 = x8.2)))) || Option.isSome (f13 x10.1 x12.1)) then
bif (((!decide (x6.1 = x8.1)) || (!decide (x6.2 = x8.2))) || (!((f13 x10.1 x12.1).getD default))) || (!decide (x10.2 = x12.2)) then
(some false)
else
((f36 p0 p1 p2).bind fun x16 =>
(f37 p0 p1 p2).bind fun x18 =>
(f38 p0 p1 p2).bind fun x20 =>
(f39 p0 p1 p2).bind fun x22 =>
(f13 x16.1 x18.1).bind fun x24 =>
bif (!(!((!x24) || (!decide (x16.2 = x18.2)))) || Option.isSome (f13 x20.1 x22.1)) then
bif (((!x24) || (!decide (x16.2 = x18.2))) || (!((f13 x20.1 x22.1).getD default))) || (!decide (x20.2 = x22.2)) then
(some false)
else
(((bif decide (x10.2 = 0) then
((f32 p0 p1 x10.1).bind fun x31 =>
bif (!decide (x31.2 = 0)) || (!x31.1) then
(some (.inr ()))
else
(some (.inl ())))
else
(some (.inl ()))) : Option (Unit ⊕ Unit)).bind fun o28 => match o28 with
| .inl () => (((bif decide (x16.2 = 0) then
((f32 p0 p1 x16.1).bind fun x37 =>
bif (!(!((!decide (x37.2 = 0)) || (!x37.1))) || Option.isSome (f40 x16.1 p2)) then
bif (!((!(((!decide (x37.2 = 0)) || (!x37.1)) || (!((f40 x16.1 p2).getD default)))) && x6.1) || Option.isSome (f13 x16.1 p2)) then
bif (((!decide (x37.2 = 0)) || (!x37.1)) || (!((f40 x16.1 p2).getD default))) || (x6.1 && (!((f13 x16.1 p2).getD default))) then
(some (.inr ()))
else
(some (.inl ()))
else none
else none)
else
(some (.inl ()))) : Option (Unit ⊕ Unit)).bind fun o34 => match o34 with
| .inl () => ((f32 p0 p1 p3).bind fun x42 =>
bif (((!decide (x6.2 = 0)) || (!decide (x42.2 = 0))) || (!x6.1)) || (!x42.1) then
((f8).bind fun x45 =>
some x45)
else
((rng (f6_b0 p2 p3) (Int.toNat (List.length p2 : Int)) 0 (([] : List Int), ([] : List Int))).bind fun o54 => match o54 with
| .inl (s49, s50) => ((f32 p0 p1 s49).bind fun x56 =>
(f32 p0 p1 s50).bind fun x58 =>
bif (!((((decide (x56.2 = 0)) && (decide (x58.2 = 0))) && x56.1) && x58.1) || Option.isSome (f8)) then
some (((((decide (x56.2 = 0)) && (decide (x58.2 = 0))) && x56.1) && x58.1) && ((f8).getD default))
else none)
| .inr _ => none))
| .inr () => (some false))
| .inr () => (some false))
else none)
else none)
def f90 (p0 : Int × Int × Int) (p1 : Int × Int × Int × Int × Str) : Option (Bool) :=
some (decide (p0.1 = p1.2.2.2.1))
def f89_b0 (p0 : List (Int × Int × Int)) (q1 : (Int × Int × Int) → Option Bool) (i1 : Int) (s : Unit) : Option (Unit ⊕ Int) :=
(ix p0 i1).bind fun x7 =>
(q1 x7).bind fun x9 =>
bif x9 then
(some (.inr i1))
else
(some (.inl ()))
def f89 (p0 : List (Int × Int × Int)) (q1 : (Int × Int × Int) → Option Bool) : Option (Int) :=
(rng (f89_b0 p0 q1) (Int.toNat (List.length p0 : Int)) 0 ()).bind fun o4 => match o4 with
| .inl () => (some (-1))
| .inr s3 => (some s3)
def f78_b0 (p0 : List (Int × Int × Int × Int × Str)) (i1 : Int) (s3 : (List (Int × Int × Int))) : Option (((List (Int × Int × Int))) ⊕ Unit) :=
(((ix p0 i1).bind fun x14 =>
bif decide (x14.2.1 = 4) then
(bif apOk 24 (List.length s3 + List.length [(x14.2.2.2.1, i1, (-1))]) then
some (.inl (s3 ++ [(x14.2.2.2.1, i1, (-1))]))
else none)
else
(bif decide (x14.2.1 = 5) then
((f89 s3 (fun y1 => f90 y1 x14)).bind fun x19 =>
(ix s3 x19).bind fun x21 =>
some (.inl (s3.set (Int.toNat x19) (x21.1, x21.2.1, i1))))
else
(some (.inl s3)))) : Option (((List (Int × Int × Int))) ⊕ Unit)).bind fun o12 => match o12 with
| .inl s11 => (some (.inl s11))
| .inr _ => none
def f78 (p0 : List (Int × Int × Int × Int × Str)) : Option ((List (Int × Int × Int))) :=
(rng (f78_b0 p0) (Int.toNat (List.length p0 : Int)) 0 ([] : List (Int × Int × Int))).bind fun o6 => match o6 with
| .inl s3 => ((f91 s3).bind fun x8 =>
some x8)
| .inr _ => none
def f43_b1 (p1 : List (Int × Int × Int × Int × Str)) (x4 : List (List Int)) (x6 : List Int) (x8 : (List (Int × Int × Int))) (x18 : Int × Int × Int) (i20 : Int) (s : Int × Int) : Option ((Int × Int) ⊕ Unit) :=
match s with
| (s21, s22) => ((((ix x8 i20).bind fun x35 =>
(f58 p1 x4 x35.2.1 x18.2.1).bind fun x37 =>
bif (!(x37 && (!(decide (x35.2.2 < 0)))) || Option.isSome (f58 p1 x4 x35.2.2 x18.2.1)) then
bif (!(x37 && ((decide (x35.2.2 < 0)) || (!((f58 p1 x4 x35.2.2 x18.2.1).getD default)))) || Option.isSome (ix x6 x35.2.1)) then
bif (x37 && ((decide (x35.2.2 < 0)) || (!((f58 p1 x4 x35.2.2 x18.2.1).getD default)))) && (decide (s22 ≤ ((ix x6 x35.2.1).getD default))) then
((ix x6 x35.2.1).bind fun x42 =>
some (.inl (x35.1, x42)))
else
(some (.inl (s21, s22)))
else none
else none) : Option ((Int × Int) ⊕ Unit)).bind fun o33 => match o33 with
| .inl (s31, s32) => (some (.inl (s31, s32)))
| .inr _ => none)
def f43_b0 (p1 : List (Int × Int × Int × Int × Str)) (x4 : List (List Int)) (x6 : List Int) (x8 : (List (Int × Int × Int))) (i10 : Int) (s12 : (List (Int × Int))) : Option (((List (Int × Int))) ⊕ Unit) :=
(ix x8 i10).bind fun x18 =>
(rng (f43_b1 p1 x4 x6 x8 x18) (Int.toNat (List.length x8 : Int)) 0 (0, (-1))).bind fun o27 => match o27 with
| .inl (s21, s22) => (bif apOk 16 (List.length s12 + List.length [(x18.1, s21)]) then
some (.inl (s12 ++ [(x18.1, s21)]))
else none)
| .inr _ => none
def f43 (p0 : Int) (p1 : List (Int × Int × Int × Int × Str)) : Option ((List (Int × Int)) × Int) :=
(f17 p0 p1).bind fun x1 =>
bif !x1 then
(some (([] : List (Int × Int)), 1))
else
((f52 p0 p1).bind fun x4 =>
(f54 p0 p1).bind fun x6 =>
(f78 p1).bind fun x8 =>
(rng (f43_b0 p1 x4 x6 x8) (Int.toNat (List.length x8 : Int)) 0 ([] : List (Int × Int))).bind fun o15 => match o15 with
| .inl s12 => (some (s12, 0))
| .inr _ => none)
end Go.Ab

