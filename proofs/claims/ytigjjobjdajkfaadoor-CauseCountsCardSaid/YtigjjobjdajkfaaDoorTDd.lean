/- Lemmas for a law of the seat: what functions of the program do, each stated as a contract of its own (TDd). -/
import Derived.Test.YtigjjobjdajkfaaDoorPu
import Derived.Test.YtigjjobjdajkfaaDoorTAd
set_option linter.unusedVariables false
set_option maxRecDepth 100000
namespace Go.Ab
def d6_b2 (p0 : Int) (x5 : List (List Int)) (s10 : List (List Int)) (x26 : List Int) (i29 : Int) (s : (List ((List Int) × Bool)) × List (List Int)) : Option (((List ((List Int) × Bool)) × List (List Int)) ⊕ Unit) :=
match s with
| (s31, s32) => ((((aix 16 x26 i29).bind fun x44 =>
(ix s10 i29).bind fun x46 =>
bif decide (x44 = (List.length x46 : Int)) then
(some (.inl (s31, s32)))
else
((ix x46 x44).bind fun x49 =>
(ix x5 x49).bind fun x51 =>
bif Nat.beq (List.length (x26.set (Int.toNat i29) (w64 (x44 + 1)))) 16 then
bif slOk 0 p0 16 then
(f70 x51 ((x26.set (Int.toNat i29) (w64 (x44 + 1))).take (Int.toNat p0))).bind fun x55 =>
bif (!(!(!x55)) || (Nat.beq (List.length (x26.set (Int.toNat i29) (w64 (x44 + 1)))) 16)) then
bif (!x55) || ((mget s31 (x26.set (Int.toNat i29) (w64 (x44 + 1)))).getD false) then
(some (.inl (s31, s32)))
else
(bif Nat.beq (List.length (x26.set (Int.toNat i29) (w64 (x44 + 1)))) 16 then
bif decide (100000 < (List.length (mset s31 (x26.set (Int.toNat i29) (w64 (x44 + 1))) true) : Int)) then
(some (.inr ()))
else
(bif Nat.beq (List.length (x26.set (Int.toNat i29) (w64 (x44 + 1)))) 16 then
bif apOk 128 (List.length s32 + List.length [(x26.set (Int.toNat i29) (w64 (x44 + 1)))]) then
some (.inl ((mset s31 (x26.set (Int.toNat i29) (w64 (x44 + 1))) true), (s32 ++ [(x26.set (Int.toNat i29) (w64 (x44 + 1)))])))
else none
else none)
else none)
else none
else none
else none)) : Option (((List ((List Int) × Bool)) × List (List Int)) ⊕ Unit)).bind fun o42 => match o42 with
| .inl (s40, s41) => (some (.inl (s40, s41)))
| .inr () => (some (.inr ())))
def d6_b1 (p0 : Int) (x5 : List (List Int)) (s10 : List (List Int)) (s : (List ((List Int) × Bool)) × List (List Int)) : Option (((List ((List Int) × Bool)) × List (List Int)) ⊕ (Unit ⊕ ((List ((List Int) × Bool))))) :=
match s with
| (s17, s18) => (bif decide (0 < (List.length s18 : Int)) then
((ix s18 (w64 ((List.length s18 : Int) - 1))).bind fun x26 =>
bif slOk 0 (w64 ((List.length s18 : Int) - 1)) (List.length s18) then
bif decide (p0 ≤ 9223372036854775807) then
(rng (d6_b2 p0 x5 s10 x26) (Int.toNat p0) 0 (s17, (s18.take (Int.toNat (w64 ((List.length s18 : Int) - 1)))))).bind fun o37 => match o37 with
| .inl (s31, s32) => (some (.inl (s31, s32)))
| .inr () => (some (.inr (.inl ())))
else none
else none)
else
(some (.inr (.inr s17))))
def d6_b0 (p1 : List (Int × Int × Int × Int × Str)) (i8 : Int) (s10 : List (List Int)) : Option ((List (List Int)) ⊕ Unit) :=
(ix p1 i8).bind fun x64 =>
(ix s10 x64.1).bind fun x66 =>
bif apOk 8 (List.length x66 + List.length [i8]) then
some (.inl (s10.set (Int.toNat x64.1) (x66 ++ [i8])))
else none
def d6 (p0 : Int) (p1 : List (Int × Int × Int × Int × Str)) : Option (Int × Int) :=
(f17 p0 p1).bind fun x1 =>
bif !x1 then
(some (0, 1))
else
(bif decide (60 < (List.length p1 : Int)) then
(some (0, 4))
else
((f52 p0 p1).bind fun x5 =>
bif mkOk 24 p0 p0 then
(rng (d6_b0 p1) (Int.toNat (List.length p1 : Int)) 0 (List.replicate (Int.toNat p0) ([] : List Int))).bind fun o13 => match o13 with
| .inl s10 => (bif Nat.beq (List.length (List.replicate 16 0)) 16 then
bif Nat.beq (List.length (List.replicate 16 0)) 16 then
(lrun (d6_b1 p0 x5 s10) cutFuel ((mset [] (List.replicate 16 0) true), [(List.replicate 16 0)])).bind fun o23 => match o23 with
| .inl () => (some (0, 4))
| .inr s21 => (some ((List.length s21 : Int), 0))
else none
else none)
| .inr _ => none
else none))
def d7_b4 (x30 : List Int) (x46 : Int × Int × Int × Int × Str) (x50 : Int) (i63 : Int) (s64 : Str) : Option (Str ⊕ Unit) :=
(ix (x30.set (Int.toNat x46.1) (w64 (x50 + 1))) i63).bind fun x73 =>
(fItoa x73).bind fun x75 =>
bif strOk (List.length x75 + List.length ([32] : Str)) then
bif strOk (List.length s64 + List.length (x75 ++ ([32] : Str))) then
some (.inl (s64 ++ (x75 ++ ([32] : Str))))
else none
else none
def d7_b3 (p1 : List (Int × Int × Int × Int × Str)) (x5 : List Int) (x30 : List Int) (x54 : List Bool) (i56 : Int) (s57 : Bool) : Option (Bool ⊕ Unit) :=
(ix x54 i56).bind fun x80 =>
bif (!(s57 && (!(!x80))) || Option.isSome (ix x5 i56)) then
bif (!(s57 && (!(!x80))) || Option.isSome (ix p1 i56)) then
bif (!(s57 && (!(!x80))) || Option.isSome (ix x30 ((((ix p1 i56).getD default)).1))) then
some (.inl (s57 && ((!x80) || (decide (((ix x5 i56).getD default) ≤ ((ix x30 ((((ix p1 i56).getD default)).1)).getD default))))))
else none
else none
else none
def d7_b2 (p1 : List (Int × Int × Int × Int × Str)) (x5 : List Int) (x7 : List (List Bool)) (x30 : List Int) (i32 : Int) (s : (List (Str × Bool)) × List (List Int)) : Option (((List (Str × Bool)) × List (List Int)) ⊕ Unit) :=
match s with
| (s34, s35) => ((((ix p1 i32).bind fun x46 =>
(ix x5 i32).bind fun x48 =>
(ix x30 x46.1).bind fun x50 =>
bif !decide (x48 = (w64 (x50 + 1))) then
(some (.inl (s34, s35)))
else
(bif apOk 8 (List.length x30) then
(ix x7 i32).bind fun x54 =>
(rng (d7_b3 p1 x5 x30 x54) (Int.toNat (List.length x54 : Int)) 0 true).bind fun o61 => match o61 with
| .inl s57 => ((rng (d7_b4 x30 x46 x50) (Int.toNat (List.length (x30.set (Int.toNat x46.1) (w64 (x50 + 1))) : Int)) 0 ([] : Str)).bind fun o68 => match o68 with
| .inl s64 => (bif s57 && (!((mget s34 s64).getD false)) then
(bif apOk 24 (List.length s35 + List.length [(x30.set (Int.toNat x46.1) (w64 (x50 + 1)))]) then
some (.inl ((mset s34 s64 true), (s35 ++ [(x30.set (Int.toNat x46.1) (w64 (x50 + 1)))])))
else none)
else
(some (.inl (s34, s35))))
| .inr _ => none)
| .inr _ => none
else none)) : Option (((List (Str × Bool)) × List (List Int)) ⊕ Unit)).bind fun o44 => match o44 with
| .inl (s42, s43) => (some (.inl (s42, s43)))
| .inr _ => none)
def d7_b1 (p1 : List (Int × Int × Int × Int × Str)) (x5 : List Int) (x7 : List (List Bool)) (s11 : List (List Int)) (i20 : Int) (s : (List (Str × Bool)) × List (List Int)) : Option (((List (Str × Bool)) × List (List Int)) ⊕ Unit) :=
match s with
| (s22, s23) => ((ix s11 i20).bind fun x30 =>
(rng (d7_b2 p1 x5 x7 x30) (Int.toNat (List.length p1 : Int)) 0 (s22, s23)).bind fun o39 => match o39 with
| .inl (s34, s35) => (some (.inl (s34, s35)))
| .inr _ => none)
def d7_b0 (p1 : List (Int × Int × Int × Int × Str)) (x5 : List Int) (x7 : List (List Bool)) (s : Int × List (List Int)) : Option ((Int × List (List Int)) ⊕ (Unit ⊕ Int)) :=
match s with
| (s10, s11) => (bif decide (0 < (List.length s11 : Int)) then
(bif decide (100000 < (w64 (s10 + (List.length s11 : Int)))) then
(some (.inr (.inl ())))
else
((rng (d7_b1 p1 x5 x7 s11) (Int.toNat (List.length s11 : Int)) 0 ([], ([] : List (List Int)))).bind fun o27 => match o27 with
| .inl (s22, s23) => (some (.inl ((w64 (s10 + (List.length s11 : Int))), s23)))
| .inr _ => none))
else
(some (.inr (.inr s10))))
def d7 (p0 : Int) (p1 : List (Int × Int × Int × Int × Str)) : Option (Int × Int) :=
(f18 p0 p1).bind fun x1 =>
bif !x1 then
(some (0, 1))
else
(bif decide (60 < (List.length p1 : Int)) then
(some (0, 4))
else
((f67 p0 p1).bind fun x5 =>
(f23 p1).bind fun x7 =>
bif mkOk 8 p0 p0 then
(lrun (d7_b0 p1 x5 x7) cutFuel (0, [(List.replicate (Int.toNat p0) 0)])).bind fun o16 => match o16 with
| .inl () => (some (0, 4))
| .inr s14 => (some (s14, 0))
else none))
def d3 (p0 : Int) (p1 : List (Int × Int × Int × Int × Str)) : Option (Bool) :=
(f14 p1).bind fun x1 =>
bif (!x1) || (decide (16 < (List.length p1 : Int))) then
((f8).bind fun x4 =>
some x4)
else
((d6 p0 p1).bind fun x6 =>
(d7 p0 p1).bind fun x8 =>
bif (!((decide (x6.1 = x8.1)) && (decide (x6.2 = x8.2))) || Option.isSome (f8)) then
some (((decide (x6.1 = x8.1)) && (decide (x6.2 = x8.2))) && ((f8).getD default))
else none)
end Go.Ab

