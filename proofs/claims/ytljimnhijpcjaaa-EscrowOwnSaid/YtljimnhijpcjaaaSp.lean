/- What is said of interval's and escrow's functions. Definitions alone; no conditions. -/
import Derived.Test.YtljimnhijpcjaaaKs
import Derived.Test.YtljimnhijpcjaaaWf
set_option linter.unusedVariables false
namespace Go.Proofs.Ytljimnhijpcjaaa.VC
open Go
abbrev kI : Ty := .int .i64
abbrev kU : Ty := .int .u64
abbrev kRG : Ty := (.pair kI kI)
abbrev kW : Ty := (.pair kI kU)
def Num (x : Int) : Prop := -9223372036854775808 ≤ x ∧ x ≤ 9223372036854775807
instance (x : Int) : Decidable (Num x) := inferInstanceAs (Decidable (_ ∧ _))
def ans (x : Int) : Int × Int := if Num x then (x, 0) else (0, 10)
def hiW (x : Int) : Int := x / 18446744073709551616
def loW (x : Int) : Int := x % 18446744073709551616
def wval (w : Int × Int) : Int := w.1 * 18446744073709551616 + w.2
abbrev wdA (n : Int) : AV := .agg [i64 (hiW n), .int .u64 (loW n)]
abbrev ansA (o : Int × Int) : AV := .tup [i64 o.1, i64 o.2]
structure Num1 where
  v : (Int)
def sp62 : Spc := spcOf [.v kI] [] (G := Num1) (fun d => ⟨d.1.1⟩) (fun g => ((g.v, ()), ())) (fun _ => rfl) (fun x => .det [] [] (wdA x.v) [] []) (own := false) (still := false)
structure WV where
  w : (((Int)) × ((Int)))
  v : (Int)
def sp63 : Spc := spcOf [.v kW, .v kI] [] (G := WV) (fun d => ⟨d.1.1, d.1.2.1⟩) (fun g => ((g.w, g.v, ()), ())) (fun _ => rfl) (fun x => .det [-4611686018427387904 ≤ x.w.1, x.w.1 ≤ 4611686018427387904] [] (wdA (wval x.w + x.v)) [] []) (own := false) (still := false)
structure W1 where
  w : (((Int)) × ((Int)))
def sp64 : Spc := spcOf [.v kW] [] (G := W1) (fun d => ⟨d.1.1⟩) (fun g => ((g.w, ()), ())) (fun _ => rfl) (fun x => .any [] [] (Int × Int) (fun o => o = ans (wval x.w)) ansA (fun _ => []) (fun _ => [])) (own := false) (still := false)
structure Two where
  a : (Int)
  b : (Int)
def sp52 : Spc := spcOf [.v kI, .v kI] [] (G := Two) (fun d => ⟨d.1.1, d.1.2.1⟩) (fun g => ((g.a, g.b, ()), ())) (fun _ => rfl) (fun x => .any [] [] (Int × Int) (fun o => o = ans (x.a + x.b)) ansA (fun _ => []) (fun _ => [])) (own := false) (still := false)
structure SumArg where
  l : List ((Int))
def sp51 : Spc := spcOf [.v (.slice kI)] [] (G := SumArg) (fun d => ⟨d.1.1⟩) (fun g => ((g.l, ()), ())) (fun _ => rfl) (fun x => .any [] [] (Int × Int) (fun o => o = ans x.l.sum) ansA (fun _ => []) (fun _ => [])) (lends := true) (lendsOk := by intro _ g; simp only [Con.ownedAll]; (repeat' apply And.intro) <;> first | rfl | (intro _; rfl)) (own := false) (still := false)
def lowS (l : List Int) : Int := (l.map fun v => if v < 0 then v else 0).sum
def highS (l : List Int) : Int := (l.map fun v => if v < 0 then 0 else v).sum
def worstF (b : Int) (l : List Int) : Int × Int × Int := if Num (b + lowS l) ∧ Num (b + highS l) then (b + lowS l, b + highS l, 0) else (0, 0, 10)
structure WorstArg where
  b : (Int)
  l : List ((Int))
def sp49 : Spc := spcOf [.v kI, .v (.slice kI)] [] (G := WorstArg) (fun d => ⟨d.1.1, d.1.2.1⟩) (fun g => ((g.b, g.l, ()), ())) (fun _ => rfl) (fun x => .any [] [] (Int × Int × Int) (fun o => o = worstF x.b x.l) (fun o => .tup [.agg [i64 o.1, i64 o.2.1], i64 o.2.2]) (fun _ => []) (fun _ => [])) (lends := true) (lendsOk := by intro _ g; simp only [Con.ownedAll]; (repeat' apply And.intro) <;> first | rfl | (intro _; rfl)) (own := false) (still := false)
def checkF (r : Int × Int) : Int := if r.1 > r.2 then 11 else 0
structure RgArg where
  r : (((Int)) × ((Int)))
def sp36 : Spc := spcOf [.v kRG] [] (G := RgArg) (fun d => ⟨d.1.1⟩) (fun g => ((g.r, ()), ())) (fun _ => rfl) (fun x => .any [] [] Int (fun o => o = checkF x.r) i64 (fun _ => []) (fun _ => [])) (own := false) (still := false)
def hasB (r : Int × Int) (v : Int) : Bool := decide (r.1 ≤ v) && decide (v ≤ r.2)
structure HasArg where
  r : (((Int)) × ((Int)))
  v : (Int)
def sp37 : Spc := spcOf [.v kRG, .v kI] [] (G := HasArg) (fun d => ⟨d.1.1, d.1.2.1⟩) (fun g => ((g.r, g.v, ()), ())) (fun _ => rfl) (fun x => .det [] [] (.bool (hasB x.r x.v)) [] []) (own := false) (still := false)
structure At where
  i : Nat
def annSum (x : SumArg) : Ann where
  loop id := match id with
    | 3 => inv0 { T := At, ok := fun y => y.i ≤ x.l.length, ms := fun y => x.l.length - y.i, tk := [9], tm := fun y => [i64 y.i], hk := [pl 4 0], hp := fun y => [.cells [i64 (hiW (x.l.take y.i).sum), .int .u64 (loW (x.l.take y.i).sum)]], mat := [] }
    | _ => none
  cut _ := none
  loose _ := []
def annWorst (x : WorstArg) : Ann where
  loop id := match id with
    | 3 => inv0 { T := At, ok := fun y => y.i ≤ x.l.length, ms := fun y => x.l.length - y.i, tk := [20], tm := fun y => [i64 y.i], hk := [pl 6 0, pl 7 0], hp := fun y => [.cells [i64 (hiW (x.b + lowS (x.l.take y.i))), .int .u64 (loW (x.b + lowS (x.l.take y.i)))], .cells [i64 (hiW (x.b + highS (x.l.take y.i))), .int .u64 (loW (x.b + highS (x.l.take y.i)))]], mat := [] }
    | _ => none
  cut _ := none
  loose _ := []
structure Esc where
  lo : (Int)
  hi : (Int)
  st : (Int)
  nets : List (((Int)) × ((Int)))
abbrev Esc.at (r : Esc) (n : Nat) : List Itm := [.cells (Ty.enc kI r.lo ++ Ty.enc kI r.hi ++ Ty.enc kI r.st ++ [.map (n + 1)]), .mapo kI kI r.nets]
abbrev mgI (E : List (Int × Int)) (c : Int) : Option Int := mgetT kI kI E c
abbrev msI (E : List (Int × Int)) (c x : Int) : List (Int × Int) := msetT kI kI E c x
abbrev mdI (E : List (Int × Int)) (c : Int) : List (Int × Int) := mdelT kI kI E c
def netOf (E : List (Int × Int)) (c : Int) : Int := (mgI E c).getD 0
def otherV (E : List (Int × Int)) (tx : Int) : List Int := (E.filter fun e => decide (e.1 ≠ tx)).map (·.2)
def partS (sign : Int) (l : List Int) : Int := (l.filter fun n => decide (n > 0) == decide (sign > 0)).sum
def newF (b : Int × Int) (v : Int) : Int := if b.1 > b.2 then 11 else if hasB b v = false then 110 else 0
structure NewArg where
  b : (((Int)) × ((Int)))
  v : (Int)
def sp10 : Spc := spcOf [.v kRG, .v kI] [] (G := NewArg) (fun d => ⟨d.1.1, d.1.2.1⟩) (fun g => ((g.b, g.v, ()), ())) (fun _ => rfl) (fun x => .or
  (.any [] [] Int (fun e => e ≠ 0 ∧ newF x.b x.v = e) (fun e => .tup [.nptr, i64 e]) (fun _ => []) (fun _ => []))
  (.any [] [] Unit (fun _ => newF x.b x.v = 0) (fun _ => .tup [.ptr 0 0, i64 0]) (fun _ => []) (fun _ => [.cells [i64 x.b.1, i64 x.b.2, i64 x.v, .map 1], .mapo kI kI []]))) (own := false) (still := false)
structure OthArg where
  e : Esc
  tx : (Int)
def sp50 : Spc := spcOf [.p 0, .v kI] [.cells [.v kI, .v kI, .v kI, .m 1], .mapo kI kI] (G := OthArg) (fun d => ⟨⟨d.2.1.1, d.2.1.2.1, d.2.1.2.2.1, d.2.2.1⟩, d.1.2.1⟩) (fun g => (((), g.tx, ()), ((g.e.lo, g.e.hi, g.e.st, (), ()), g.e.nets, ()))) (fun _ => rfl) (fun x => .any [x.e.nets.length ≤ 1000000] [] (List Int) (fun l => l.Perm (otherV x.e.nets x.tx)) (fun _ => .sl 2) (fun _ => []) (fun l => [.arr 2 kI l])) (own := false) (still := false)
def inF (e : Esc) (sign : Int) (l : List Int) (d : Int) : Bool := hasB (e.lo, e.hi) (e.st + partS sign l + d)
structure InArg where
  e : Esc
  sign : (Int)
  l : List ((Int))
  net : (Int)
  delta : (Int)
  c : Bool
def sp53 : Spc := spcOf [.p 0, .v kI, .v (.slice kI), .v kI, .v kI, .v .bool] [.cells [.v kI, .v kI, .v kI, .m 1], .mapo kI kI] (G := InArg) (fun d => ⟨⟨d.2.1.1, d.2.1.2.1, d.2.1.2.2.1, d.2.2.1⟩, d.1.2.1, d.1.2.2.1, d.1.2.2.2.1, d.1.2.2.2.2.1, d.1.2.2.2.2.2.1⟩) (fun g => (((), g.sign, g.l, g.net, g.delta, g.c, ()), ((g.e.lo, g.e.hi, g.e.st, (), ()), g.e.nets, ()))) (fun _ => rfl) (fun x => .any [x.l.length ≤ 1000000] [] Bool (fun b => b = inF x.e x.sign x.l (if x.c then x.net + x.delta else 0)) (fun b => .bool b) (fun _ => []) (fun _ => [])) (lends := true) (lendsOk := by intro _ g; simp only [Con.ownedAll]; (repeat' apply And.intro) <;> first | rfl | (intro _; rfl)) (own := false) (still := false)
/-- Does the net, with a delta, count above? -/
def upB (was delta : Int) : Bool := if Num (was + delta) then decide (was + delta > 0) else decide (delta > 0)
def mayF (e : Esc) (tx delta : Int) : Int :=
  if tx < 1 ∨ 2147483647 < tx then 130
  else if inF e (-1) (otherV e.nets tx) (if upB (netOf e.nets tx) delta then 0 else netOf e.nets tx + delta) = false then 110
  else if inF e 1 (otherV e.nets tx) (if upB (netOf e.nets tx) delta then netOf e.nets tx + delta else 0) = false then 110
  else (ans (netOf e.nets tx + delta)).2
structure MayArg where
  e : Esc
  tx : (Int)
  delta : (Int)
def sp26 : Spc := spcOf [.p 0, .v kI, .v kI] [.cells [.v kI, .v kI, .v kI, .m 1], .mapo kI kI] (G := MayArg) (fun d => ⟨⟨d.2.1.1, d.2.1.2.1, d.2.1.2.2.1, d.2.2.1⟩, d.1.2.1, d.1.2.2.1⟩) (fun g => (((), g.tx, g.delta, ()), ((g.e.lo, g.e.hi, g.e.st, (), ()), g.e.nets, ()))) (fun _ => rfl) (fun x => .any [x.e.nets.length ≤ 1000000] [] Int (fun o => o = mayF x.e x.tx x.delta) i64 (fun _ => []) (fun _ => [])) (own := false) (still := false)
structure AddOut where
  e : Int
  nets : List (Int × Int)
def addF (e : Esc) (tx delta : Int) : AddOut := if mayF e tx delta ≠ 0 then ⟨mayF e tx delta, e.nets⟩ else ⟨0, msI e.nets tx (netOf e.nets tx + delta)⟩
def sp32 : Spc := spcOf [.p 0, .v kI, .v kI] [.cells [.v kI, .v kI, .v kI, .m 1], .mapo kI kI] (G := MayArg) (fun d => ⟨⟨d.2.1.1, d.2.1.2.1, d.2.1.2.2.1, d.2.2.1⟩, d.1.2.1, d.1.2.2.1⟩) (fun g => (((), g.tx, g.delta, ()), ((g.e.lo, g.e.hi, g.e.st, (), ()), g.e.nets, ()))) (fun _ => rfl) (fun x => .any [x.e.nets.length ≤ 1000000] [1] AddOut (fun o => o = addF x.e x.tx x.delta) (fun o => i64 o.e) (fun o => [.mapo kI kI o.nets]) (fun _ => [])) (own := false) (still := false)
structure TxArg where
  e : Esc
  tx : (Int)
def sp35 : Spc := spcOf [.p 0, .v kI] [.cells [.v kI, .v kI, .v kI, .m 1], .mapo kI kI] (G := TxArg) (fun d => ⟨⟨d.2.1.1, d.2.1.2.1, d.2.1.2.2.1, d.2.2.1⟩, d.1.2.1⟩) (fun g => (((), g.tx, ()), ((g.e.lo, g.e.hi, g.e.st, (), ()), g.e.nets, ()))) (fun _ => rfl) (fun x => .det [] [] (.tup [i64 (netOf x.e.nets x.tx), .bool (mgI x.e.nets x.tx).isSome]) [] []) (own := false) (still := false)
structure SetOut where
  b : Bool
  st : Int
  nets : List (Int × Int)
def settleF (e : Esc) (tx : Int) : SetOut := if (mgI e.nets tx).isSome then ⟨true, IntKind.i64.wrap (e.st + netOf e.nets tx), mdI e.nets tx⟩ else ⟨false, e.st, e.nets⟩
def sp30 : Spc := spcOf [.p 0, .v kI] [.cells [.v kI, .v kI, .v kI, .m 1], .mapo kI kI] (G := TxArg) (fun d => ⟨⟨d.2.1.1, d.2.1.2.1, d.2.1.2.2.1, d.2.2.1⟩, d.1.2.1⟩) (fun g => (((), g.tx, ()), ((g.e.lo, g.e.hi, g.e.st, (), ()), g.e.nets, ()))) (fun _ => rfl) (fun x => .any [] [0, 1] SetOut (fun o => o = settleF x.e x.tx) (fun o => .bool o.b) (fun o => [.cells [i64 x.e.lo, i64 x.e.hi, i64 o.st, .map 1], .mapo kI kI o.nets]) (fun _ => [])) (own := false) (still := false)
def sp31 : Spc := spcOf [.p 0, .v kI] [.cells [.v kI, .v kI, .v kI, .m 1], .mapo kI kI] (G := TxArg) (fun d => ⟨⟨d.2.1.1, d.2.1.2.1, d.2.1.2.2.1, d.2.2.1⟩, d.1.2.1⟩) (fun g => (((), g.tx, ()), ((g.e.lo, g.e.hi, g.e.st, (), ()), g.e.nets, ()))) (fun _ => rfl) (fun x => .det [] [1] (.bool (mgI x.e.nets x.tx).isSome) [.mapo kI kI (mdI x.e.nets x.tx)] []) (own := false) (still := false)
def valsOf (E : List (Int × Int)) : List Int := otherV E 0
structure EscArg where
  e : Esc
def sp17 : Spc := spcOf [.p 0] [.cells [.v kI, .v kI, .v kI, .m 1], .mapo kI kI] (G := EscArg) (fun d => ⟨⟨d.2.1.1, d.2.1.2.1, d.2.1.2.2.1, d.2.2.1⟩⟩) (fun g => (((), ()), ((g.e.lo, g.e.hi, g.e.st, (), ()), g.e.nets, ()))) (fun _ => rfl) (fun x => .any [x.e.nets.length ≤ 1000000] [] (Int × Int × Int) (fun o => o = worstF x.e.st (valsOf x.e.nets)) (fun o => .agg [i64 o.1, i64 o.2.1]) (fun _ => []) (fun _ => [])) (own := false) (still := false)
def sp20 : Spc := spcOf [.p 0] [.cells [.v kI, .v kI, .v kI, .m 1], .mapo kI kI] (G := EscArg) (fun d => ⟨⟨d.2.1.1, d.2.1.2.1, d.2.1.2.2.1, d.2.2.1⟩⟩) (fun g => (((), ()), ((g.e.lo, g.e.hi, g.e.st, (), ()), g.e.nets, ()))) (fun _ => rfl) (fun x => .det [] [] (i64 x.e.st) [] []) (own := false) (still := false)
def sp23 : Spc := spcOf [.p 0] [.cells [.v kI, .v kI, .v kI, .m 1], .mapo kI kI] (G := EscArg) (fun d => ⟨⟨d.2.1.1, d.2.1.2.1, d.2.1.2.2.1, d.2.2.1⟩⟩) (fun g => (((), ()), ((g.e.lo, g.e.hi, g.e.st, (), ()), g.e.nets, ()))) (fun _ => rfl) (fun x => .any [x.e.nets.length ≤ 1000000] [] Int (fun o => o = (ans (x.e.st + (valsOf x.e.nets).sum)).1) i64 (fun _ => []) (fun _ => [])) (own := false) (still := false)
def sp18 : Spc := spcOf [.p 0] [.cells [.v kI, .v kI, .v kI, .m 1], .mapo kI kI] (G := EscArg) (fun d => ⟨⟨d.2.1.1, d.2.1.2.1, d.2.1.2.2.1, d.2.2.1⟩⟩) (fun g => (((), ()), ((g.e.lo, g.e.hi, g.e.st, (), ()), g.e.nets, ()))) (fun _ => rfl) (fun x => .det [] [] (.agg [i64 x.e.lo, i64 x.e.hi]) [] []) (own := false) (still := false)
def sp16 : Spc := spcOf [.p 0] [.cells [.v kI, .v kI, .v kI, .m 1], .mapo kI kI] (G := EscArg) (fun d => ⟨⟨d.2.1.1, d.2.1.2.1, d.2.1.2.2.1, d.2.2.1⟩⟩) (fun g => (((), ()), ((g.e.lo, g.e.hi, g.e.st, (), ()), g.e.nets, ()))) (fun _ => rfl) (fun x => .any [x.e.nets.length ≤ 1000000] [] (List Int) (fun l => l = rising (keysOf x.e.nets)) (fun _ => .sl 2) (fun _ => []) (fun l => [.arr 3 kI l])) (own := false) (still := false)
def sp29 : Spc := spcOf [.p 0] [.cells [.v kI, .v kI, .v kI, .m 1], .mapo kI kI] (G := EscArg) (fun d => ⟨⟨d.2.1.1, d.2.1.2.1, d.2.1.2.2.1, d.2.2.1⟩⟩) (fun g => (((), ()), ((g.e.lo, g.e.hi, g.e.st, (), ()), g.e.nets, ()))) (fun _ => rfl) (fun x => .det [] [] (.ptr 2 0) [] [.cells [i64 x.e.lo, i64 x.e.hi, i64 x.e.st, .map 3], .mapo kI kI x.e.nets]) (own := false) (still := false)
def sp48 : Spc := spcOf [.m 0] [.mapo kI kI] (G := List (Int × Int)) (fun d => d.2.1) (fun g => (((), ()), (g, ()))) (fun _ => rfl) (fun _ => .det [] [] (.fn 61 [.ptr 1 0]) [] [.cells [.map 0]])
def sp47 : Spc := spSorted 61 kI
def sp54 : Spc := spcOf [.m 0] [.mapo kI kI] (G := List (Int × Int)) (fun d => d.2.1) (fun g => (((), ()), (g, ()))) (fun _ => rfl) (fun g => .det [] [] (.map 1) [] [.mapo kI kI g])
structure OthAt where
  left : List (Int × Int)
  out : List Int
def ann50 (x : OthArg) : Ann where
  loop id := match id with
    | 3 => inv0 { T := OthAt, ok := fun y => (otherV y.left x.tx ++ y.out).Perm (otherV x.e.nets x.tx), ms := fun y => y.left.length, tk := [5], tm := fun _ => [.sl 900], hk := [pl 12 0, 900], hp := fun y => [.iter 1 kI kI y.left none, .arr 2 kI y.out], mat := [(5, 900, 2, kI)] }
    | _ => none
  cut _ := none
  loose _ := []
def ann53 (x : InArg) : Ann where
  loop id := match id with
    | 3 => inv0 { T := At, ok := fun y => y.i ≤ x.l.length, ms := fun y => x.l.length - y.i, tk := [25, 13], tm := fun y => [i64 y.i, .sl (pl 22 0)], hk := [pl 22 0], hp := fun y => [.arr 2 kI (x.e.st :: (x.l.take y.i).filter fun n => decide (n > 0) == decide (x.sign > 0))], mat := [] }
    | _ => none
  cut _ := none
  loose _ := []
abbrev kN : Ty := (.pair kI kI)

def wv (w : Int × Int) : Int := w.1 * 4294967296 + w.2
abbrev wA (n : Int) : AV := .agg [i64 (n / 4294967296), i64 (n % 4294967296)]
def WFit (w : Int × Int) : Prop := -1152921504606846976 ≤ w.1 ∧ w.1 ≤ 1152921504606846976 ∧ 0 ≤ w.2 ∧ w.2 < 4294967296
def sp27 : Spc := spcOf [.v kI] [] (G := Num1) (fun d => ⟨d.1.1⟩) (fun g => ((g.v, ()), ())) (fun _ => rfl) (fun x => .det [] [] (wA x.v) [] []) (own := false) (still := false)
structure RW where
  w : (((Int)) × ((Int)))
  v : (Int)
def sp25 : Spc := spcOf [.v kRG, .v kI] [] (G := RW) (fun d => ⟨d.1.1, d.1.2.1⟩) (fun g => ((g.w, g.v, ()), ())) (fun _ => rfl) (fun x => .det [WFit x.w] [] (wA (wv x.w + x.v)) [] []) (own := false) (still := false)
def sp21 : Spc := spcOf [.v kRG, .v kI] [] (G := RW) (fun d => ⟨d.1.1, d.1.2.1⟩) (fun g => ((g.w, g.v, ()), ())) (fun _ => rfl) (fun x => .det [WFit x.w] [] (.bool (decide (wv x.w < x.v))) [] []) (own := false) (still := false)
def sp22 : Spc := spcOf [.v kRG, .v kI] [] (G := RW) (fun d => ⟨d.1.1, d.1.2.1⟩) (fun g => ((g.w, g.v, ()), ())) (fun _ => rfl) (fun x => .det [WFit x.w] [] (.bool (decide (wv x.w > x.v))) [] []) (own := false) (still := false)
structure TxN where
  n : (Int)
def sp24 : Spc := spcOf [.v kI] [] (G := TxN) (fun d => ⟨d.1.1⟩) (fun g => ((g.n, ()), ())) (fun _ => rfl) (fun x => .det [] [] (i64 (1 + x.n % 8)) [] []) (own := false) (still := false)
/-- An escrow that has come so far: the bounds hold, its holders are from 1 to 8. -/
structure Esc.Good (e : Esc) : Prop where
  keys : ∀ p ∈ e.nets, 1 ≤ p.1 ∧ p.1 ≤ 8
  nodup : (keysOf e.nets).Nodup
  nums : ∀ p ∈ e.nets, Num p.2
  lo : e.lo ≤ e.st + lowS (valsOf e.nets)
  hi : e.st + highS (valsOf e.nets) ≤ e.hi
  b1 : Num e.lo
  b2 : Num e.hi
structure MadeArg where
  b : (((Int)) × ((Int)))
  v : (Int)
  d : List ((((Int)) × ((Int))))
def sp14 : Spc := spcOf [.v kRG, .v kI, .v (.slice kN)] [] (G := MadeArg) (fun d => ⟨d.1.1, d.1.2.1, d.1.2.2.1⟩) (fun g => ((g.b, g.v, g.d, ()), ())) (fun _ => rfl) (fun x => .any [] [] Esc (fun e => e.Good ∧ (x.d = [] → e.nets = [])) (fun e => .tup [.ptr 0 0, .tt]) (fun _ => []) (fun e => [.cells [i64 e.lo, i64 e.hi, i64 e.st, .map 1], .mapo kI kI e.nets])) (own := false) (still := false)
def netsTo (E : List (Int × Int)) (n : Nat) : List (Int × Int) := (List.range n).filterMap fun (i : Nat) => (mgI E ((i : Int) + 1)).map fun v => ((i : Int) + 1, v)
def sp15 : Spc := spcOf [.p 0] [.cells [.v kI, .v kI, .v kI, .m 1], .mapo kI kI] (G := EscArg) (fun d => ⟨⟨d.2.1.1, d.2.1.2.1, d.2.1.2.2.1, d.2.2.1⟩⟩) (fun g => (((), ()), ((g.e.lo, g.e.hi, g.e.st, (), ()), g.e.nets, ()))) (fun _ => rfl) (fun x => .any [] [] (List (Int × Int)) (fun l => l = netsTo x.e.nets 8) (fun _ => .sl 2) (fun _ => []) (fun l => [.arr 51 kN l])) (own := false) (still := false)
def bitI (s : Int) (i : Nat) : Bool := decide (s / 2 ^ i % 2 = 1)
def outTo (base : Int) (l : List (Int × Int)) (s : Int) (n : Nat) : Int := base + ((List.range n).map fun (i : Nat) => if bitI s i then (l.getD i (0, 0)).2 else 0).sum
def outV (base : Int) (l : List (Int × Int)) (s : Int) : Int := outTo base l s l.length
structure OutArg where
  base : (Int)
  l : List ((((Int)) × ((Int))))
  s : (Int)
def sp19 : Spc := spcOf [.v kI, .v (.slice kN), .v kI] [] (G := OutArg) (fun d => ⟨d.1.1, d.1.2.1, d.1.2.2.1⟩) (fun g => ((g.base, g.l, g.s, ()), ())) (fun _ => rfl) (fun x => .any [x.l.length ≤ 8, 0 ≤ x.s] [] Int (fun o => o = outV x.base x.l x.s) (fun o => wA o) (fun _ => []) (fun _ => [])) (lends := true) (lendsOk := by intro _ g; simp only [Con.ownedAll]; (repeat' apply And.intro) <;> first | rfl | (intro _; rfl)) (own := false) (still := false)
def sp9 : Spc := spcOf [] [] (G := Unit) (fun _ => ()) (fun _ => ((), ())) (fun _ => rfl) (fun _ => .det [] [] .tt [] [])
def sp5 : Spc := spcOf [.v kRG, .v kI, .v (.slice kN)] [] (G := MadeArg) (fun d => ⟨d.1.1, d.1.2.1, d.1.2.2.1⟩) (fun g => ((g.b, g.v, g.d, ()), ())) (fun _ => rfl) (fun x => .det [] [] (.bool true) [] []) (own := false) (still := false)
structure MadeAt where
  i : Nat
  e : Esc
structure BndAt where
  lo : Int
  hi : Int
  v : Int
def ann14 (x : MadeArg) : Ann where
  loop id := match id with
    | 9 => inv0 { T := MadeAt, ok := fun y => y.i ≤ 40 ∧ y.i ≤ x.d.length ∧ y.e.Good ∧ (y.i = 0 → y.e.nets = []), ms := fun y => 40 - y.i, tk := [10], tm := fun y => [i64 y.i], hk := [pl 38 0, pl 38 1], hp := fun y => [.cells [i64 y.e.lo, i64 y.e.hi, i64 y.e.st, .map (pl 38 1)], .mapo kI kI y.e.nets], mat := [] }
    | _ => none
  cut id := match id with
    | 5 => inv0 { T := BndAt, ok := fun y => Num y.lo ∧ Num y.hi ∧ y.lo ≤ y.v ∧ y.v ≤ y.hi, ms := fun _ => 0, tk := [1], tm := fun y => [i64 y.v], hk := [pl 3 0], hp := fun y => [.cells [i64 y.lo, i64 y.hi]], mat := [] }
    | _ => none
  loose _ := []
def ann15 (x : EscArg) : Ann where
  loop id := match id with
    | 3 => inv0 { T := At, ok := fun y => y.i ≤ 8, ms := fun y => 8 - y.i, tk := [4, 3], tm := fun y => [i64 ((y.i : Int) + 1), .sl 900], hk := [900], hp := fun y => [.arr 51 kN (netsTo x.e.nets y.i)], mat := [(3, 900, 51, kN)] }
    | _ => none
  cut _ := none
  loose _ := []
def ann19 (x : OutArg) : Ann where
  loop id := match id with
    | 3 => inv0 { T := At, ok := fun y => y.i ≤ x.l.length, ms := fun y => x.l.length - y.i, tk := [8], tm := fun y => [i64 y.i], hk := [pl 7 0], hp := fun y => [.cells [i64 (outTo x.base x.l x.s y.i / 4294967296), i64 (outTo x.base x.l x.s y.i % 4294967296)]], mat := [] }
    | _ => none
  cut _ := none
  loose id := match id with
    | 6 => [pl 7 0]
    | _ => []
end Go.Proofs.Ytljimnhijpcjaaa.VC

