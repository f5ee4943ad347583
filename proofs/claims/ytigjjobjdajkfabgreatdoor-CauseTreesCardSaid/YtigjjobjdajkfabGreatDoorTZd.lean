/- Lemmas for a law of the seat: what functions of the program do, each stated as a contract of its own (TZd). -/
import Derived.Test.YtigjjobjdajkfabGreatDoorPu
import Derived.Test.YtigjjobjdajkfabGreatDoorTAd
set_option linter.unusedVariables false
set_option maxRecDepth 100000
namespace Go.Ab
def z29_b0 (p0 : List (Int × Int × Int × Int × Str)) (p1 : List (List Bool)) (p2 : List Int) (p3 : Int) (x1 : Int) (i3 : Int) (s4 : Int) : Option (Int ⊕ Unit) :=
(((ix p0 i3).bind fun x17 =>
bif (!(!((!decide (x17.2.1 = 4)) || (decide (x17.2.2.2.1 = p3)))) || Option.isSome (ix p1 x1)) then
bif (!(!((!decide (x17.2.1 = 4)) || (decide (x17.2.2.2.1 = p3)))) || Option.isSome (ix ((ix p1 x1).getD default) i3)) then
bif ((!decide (x17.2.1 = 4)) || (decide (x17.2.2.2.1 = p3))) || (!((ix ((ix p1 x1).getD default) i3).getD default)) then
(some (.inl s4))
else
((f51 p0 5 x17.2.2.2.1).bind fun x22 =>
bif (!(decide (0 ≤ x22)) || Option.isSome (ix p1 x1)) then
bif (!(decide (0 ≤ x22)) || Option.isSome (ix ((ix p1 x1).getD default) x22)) then
bif (decide (0 ≤ x22)) && ((ix ((ix p1 x1).getD default) x22).getD default) then
(some (.inl s4))
else
(bif (!(!(decide (s4 < 0))) || Option.isSome (ix p2 i3)) then
bif (!(!(decide (s4 < 0))) || Option.isSome (ix p2 s4)) then
bif (!(!((decide (s4 < 0)) || (decide (((ix p2 s4).getD default) < ((ix p2 i3).getD default))))) || Option.isSome (ix p2 i3)) then
bif (!(!((decide (s4 < 0)) || (decide (((ix p2 s4).getD default) < ((ix p2 i3).getD default))))) || Option.isSome (ix p2 s4)) then
bif (!((!((decide (s4 < 0)) || (decide (((ix p2 s4).getD default) < ((ix p2 i3).getD default))))) && (decide (((ix p2 i3).getD default) = ((ix p2 s4).getD default)))) || Option.isSome (ix p0 s4)) then
bif ((decide (s4 < 0)) || (decide (((ix p2 s4).getD default) < ((ix p2 i3).getD default)))) || ((decide (((ix p2 i3).getD default) = ((ix p2 s4).getD default))) && (decide ((((((((ix p0 s4).getD default)).2).2).2).1) < x17.2.2.2.1))) then
(some (.inl i3))
else
(some (.inl s4))
else none
else none
else none
else none
else none)
else none
else none)
else none
else none) : Option (Int ⊕ Unit)).bind fun o15 => match o15 with
| .inl s14 => (some (.inl s14))
| .inr _ => none
def z29 (p0 : List (Int × Int × Int × Int × Str)) (p1 : List (List Bool)) (p2 : List Int) (p3 : Int) : Option (Int) :=
(f51 p0 4 p3).bind fun x1 =>
(rng (z29_b0 p0 p1 p2 p3 x1) (Int.toNat (List.length p0 : Int)) 0 (-1)).bind fun o8 => match o8 with
| .inl s4 => (bif decide (s4 < 0) then
(some 0)
else
((ix p0 s4).bind fun x11 =>
some x11.2.2.2.1))
| .inr _ => none
def z8_b1 (p1 : List (Int × Int × Int × Int × Str)) (x4 : List (List Bool)) (x6 : List Int) (x15 : List Int) (i17 : Int) (s19 : (List (Int × Int))) : Option (((List (Int × Int))) ⊕ Unit) :=
(ix x15 i17).bind fun x25 =>
(z29 p1 x4 x6 x25).bind fun x27 =>
bif apOk 16 (List.length s19 + List.length [(x25, x27)]) then
some (.inl (s19 ++ [(x25, x27)]))
else none
def z8_b0 (p1 : List (Int × Int × Int × Int × Str)) (i8 : Int) (s10 : List Int) : Option ((List Int) ⊕ Unit) :=
(((ix p1 i8).bind fun x34 =>
bif decide (x34.2.1 = 4) then
(bif apOk 8 (List.length s10 + List.length [x34.2.2.2.1]) then
some (.inl (s10 ++ [x34.2.2.2.1]))
else none)
else
(some (.inl s10))) : Option ((List Int) ⊕ Unit)).bind fun o32 => match o32 with
| .inl s31 => (some (.inl s31))
| .inr _ => none
def z8 (p0 : Int) (p1 : List (Int × Int × Int × Int × Str)) : Option ((List (Int × Int)) × Int) :=
(f18 p0 p1).bind fun x1 =>
bif !x1 then
(some (([] : List (Int × Int)), 1))
else
((f23 p1).bind fun x4 =>
(f55 p1).bind fun x6 =>
(rng (z8_b0 p1) (Int.toNat (List.length p1 : Int)) 0 ([] : List Int)).bind fun o13 => match o13 with
| .inl s10 => ((f74 s10).bind fun x15 =>
(rng (z8_b1 p1 x4 x6 x15) (Int.toNat (List.length x15 : Int)) 0 ([] : List (Int × Int))).bind fun o22 => match o22 with
| .inl s19 => (some (s19, 0))
| .inr _ => none)
| .inr _ => none)
def z30_b0 (p0 : Int) (p1 : Str) (p2 : List (Int × Int)) (p4 : List (Int × Str)) (rec : Int → Str → (List (Int × Int)) → Str → (List (Int × Str)) → Option (Str)) (i2 : Int) (s4 : Str) : Option (Str ⊕ Unit) :=
(((ix p2 i2).bind fun x13 =>
bif decide (x13.2 = p0) then
((fItoa x13.1).bind fun x16 =>
bif strOk (List.length p1 + List.length x16) then
bif strOk (List.length (p1 ++ x16) + List.length ([32] : Str)) then
bif strOk (List.length ((p1 ++ x16) ++ ([32] : Str)) + List.length ((mget p4 x13.1).getD ([] : Str))) then
bif strOk (List.length (((p1 ++ x16) ++ ([32] : Str)) ++ ((mget p4 x13.1).getD ([] : Str))) + List.length ([10] : Str)) then
(fWS s4 ((((p1 ++ x16) ++ ([32] : Str)) ++ ((mget p4 x13.1).getD ([] : Str))) ++ ([10] : Str))).bind fun x22 =>
bif strOk (List.length p1 + List.length ([32, 32] : Str)) then
(rec x13.1 (p1 ++ ([32, 32] : Str)) p2 x22.2 p4).bind fun x25 =>
some (.inl x25)
else none
else none
else none
else none
else none)
else
(some (.inl s4))) : Option (Str ⊕ Unit)).bind fun o11 => match o11 with
| .inl s10 => (some (.inl s10))
| .inr _ => none
def z30_r (rec : Int → Str → (List (Int × Int)) → Str → (List (Int × Str)) → Option (Str)) (p0 : Int) (p1 : Str) (p2 : List (Int × Int)) (p3_0 : Str) (p4 : List (Int × Str)) : Option (Str) :=
(rng (z30_b0 p0 p1 p2 p4 rec) (Int.toNat (List.length p2 : Int)) 0 p3_0).bind fun o7 => match o7 with
| .inl s4 => (some s4)
| .inr _ => none
def z30 : Nat → Int → Str → (List (Int × Int)) → Str → (List (Int × Str)) → Option (Str)
  | 0, _, _, _, _, _ => none
  | n + 1, p0, p1, p2, p3_0, p4 => z30_r (z30 n) p0 p1 p2 p3_0 p4
def z9_b0 (p1 : List (Int × Int × Int × Int × Str)) (i4 : Int) (s6 : (List (Int × Str))) : Option (((List (Int × Str))) ⊕ Unit) :=
(((ix p1 i4).bind fun x19 =>
bif decide (x19.2.1 = 4) then
(some (.inl (mset s6 x19.2.2.2.1 x19.2.2.2.2)))
else
(some (.inl s6))) : Option (((List (Int × Str))) ⊕ Unit)).bind fun o17 => match o17 with
| .inl s16 => (some (.inl s16))
| .inr _ => none
def z9 (p0 : Int) (p1 : List (Int × Int × Int × Int × Str)) : Option (Str × Int) :=
(f43 p0 p1).bind fun x1 =>
bif !decide (x1.2 = 0) then
(some (([] : Str), x1.2))
else
((rng (z9_b0 p1) (Int.toNat (List.length p1 : Int)) 0 []).bind fun o9 => match o9 with
| .inl s6 => ((z30 (List.length x1.1 + 1) 0 ([] : Str) x1.1 ([] : Str) s6).bind fun x11 =>
(fBS x11).bind fun x13 =>
some (x13, 0))
| .inr _ => none)
def z34_b0 (p0 : List (Int × Int × Int × Int × Str)) (p1 : List (Int × Int)) (p2 : Int) (p3 : Str) (rec : (List (Int × Int × Int × Int × Str)) → (List (Int × Int)) → Int → Str → Option (Str)) (i1 : Int) (s2 : Str) : Option (Str ⊕ Unit) :=
(((ix p1 i1).bind fun x12 =>
bif decide (x12.2 = p2) then
((fItoa x12.1).bind fun x15 =>
bif strOk (List.length p3 + List.length x15) then
bif strOk (List.length (p3 ++ x15) + List.length ([32] : Str)) then
(f51 p0 4 x12.1).bind fun x19 =>
(ix p0 x19).bind fun x21 =>
bif strOk (List.length ((p3 ++ x15) ++ ([32] : Str)) + List.length x21.2.2.2.2) then
bif strOk (List.length (((p3 ++ x15) ++ ([32] : Str)) ++ x21.2.2.2.2) + List.length ([10] : Str)) then
bif strOk (List.length p3 + List.length ([32, 32] : Str)) then
(rec p0 p1 x12.1 (p3 ++ ([32, 32] : Str))).bind fun x26 =>
bif strOk (List.length ((((p3 ++ x15) ++ ([32] : Str)) ++ x21.2.2.2.2) ++ ([10] : Str)) + List.length x26) then
bif strOk (List.length s2 + List.length (((((p3 ++ x15) ++ ([32] : Str)) ++ x21.2.2.2.2) ++ ([10] : Str)) ++ x26)) then
some (.inl (s2 ++ (((((p3 ++ x15) ++ ([32] : Str)) ++ x21.2.2.2.2) ++ ([10] : Str)) ++ x26)))
else none
else none
else none
else none
else none
else none
else none)
else
(some (.inl s2))) : Option (Str ⊕ Unit)).bind fun o10 => match o10 with
| .inl s9 => (some (.inl s9))
| .inr _ => none
def z34_r (rec : (List (Int × Int × Int × Int × Str)) → (List (Int × Int)) → Int → Str → Option (Str)) (p0 : List (Int × Int × Int × Int × Str)) (p1 : List (Int × Int)) (p2 : Int) (p3 : Str) : Option (Str) :=
(rng (z34_b0 p0 p1 p2 p3 rec) (Int.toNat (List.length p1 : Int)) 0 ([] : Str)).bind fun o6 => match o6 with
| .inl s2 => (some s2)
| .inr _ => none
def z34 : Nat → (List (Int × Int × Int × Int × Str)) → (List (Int × Int)) → Int → Str → Option (Str)
  | 0, _, _, _, _ => none
  | n + 1, p0, p1, p2, p3 => z34_r (z34 n) p0 p1 p2 p3
def z10 (p0 : Int) (p1 : List (Int × Int × Int × Int × Str)) : Option (Str × Int) :=
(z8 p0 p1).bind fun x1 =>
bif !decide (x1.2 = 0) then
(some (([] : Str), x1.2))
else
((z34 (List.length x1.1 + 1) p1 x1.1 0 ([] : Str)).bind fun x4 =>
some (x4, 0))
def z3_b0 (x6 : (List (Int × Int)) × Int) (x8 : (List (Int × Int)) × Int) (i15 : Int) (s : Unit) : Option (Unit ⊕ Unit) :=
(ix x6.1 i15).bind fun x22 =>
(ix x8.1 i15).bind fun x24 =>
bif !((decide (x22.1 = x24.1)) && (decide (x22.2 = x24.2))) then
(some (.inr ()))
else
(some (.inl ()))
def z3 (p0 : Int) (p1 : List (Int × Int × Int × Int × Str)) : Option (Bool) :=
(f14 p1).bind fun x1 =>
bif !x1 then
((f8).bind fun x4 =>
some x4)
else
((f43 p0 p1).bind fun x6 =>
(z8 p0 p1).bind fun x8 =>
(z9 p0 p1).bind fun x10 =>
(z10 p0 p1).bind fun x12 =>
bif (((!decide (x6.2 = x8.2)) || (!decide ((List.length x6.1 : Int) = (List.length x8.1 : Int)))) || (!decide (x10.1 = x12.1))) || (!decide (x10.2 = x12.2)) then
(some false)
else
((rng (z3_b0 x6 x8) (Int.toNat (List.length x6.1 : Int)) 0 ()).bind fun o17 => match o17 with
| .inl () => ((f8).bind fun x19 =>
some x19)
| .inr () => (some false)))
end Go.Ab

