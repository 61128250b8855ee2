/- What is said of interval's and escrow's functions. Definitions alone; no conditions. -/
import Derived.Test.YtfeanjnjcdmhcaaWf
set_option linter.unusedVariables false
namespace Go.Proofs.Ytfeanjnjcdmhcaa.VC
open Go
abbrev kI : Ty := .int .i64
abbrev kU : Ty := .int .u64
abbrev kRG : Ty := (.pair kI kI)
abbrev kW : Ty := (.pair kI kU)
def Num (x : Int) : Prop := -9223372036854775808 ≤ x ∧ x ≤ 9223372036854775807
instance (x : Int) : Decidable (Num x) := inferInstanceAs (Decidable (_ ∧ _))
def ans (x : Int) : Int × Int := if Num x then (x, 0) else (0, 10)
def hiW (x : Int) : Int := x / 18446744073709551616
def loW (x : Int) : Int := x % 18446744073709551616
def wval (w : Int × Int) : Int := w.1 * 18446744073709551616 + w.2
abbrev wdA (n : Int) : AV := .agg [i64 (hiW n), .int .u64 (loW n)]
abbrev ansA (o : Int × Int) : AV := .tup [i64 o.1, i64 o.2]
structure Num1 where
  v : (Int)
def sp33 : Spc := spcOf [.v kI] [] (G := Num1) (fun d => ⟨d.1.1⟩) (fun g => ((g.v, ()), ())) (fun _ => rfl) (fun x => .det [] [] (wdA x.v) [] []) (own := false) (still := false)
structure WV where
  w : (((Int)) × ((Int)))
  v : (Int)
def sp31 : Spc := spcOf [.v kW, .v kI] [] (G := WV) (fun d => ⟨d.1.1, d.1.2.1⟩) (fun g => ((g.w, g.v, ()), ())) (fun _ => rfl) (fun x => .det [-4611686018427387904 ≤ x.w.1, x.w.1 ≤ 4611686018427387904] [] (wdA (wval x.w + x.v)) [] []) (own := false) (still := false)
structure W1 where
  w : (((Int)) × ((Int)))
def sp32 : Spc := spcOf [.v kW] [] (G := W1) (fun d => ⟨d.1.1⟩) (fun g => ((g.w, ()), ())) (fun _ => rfl) (fun x => .any [] [] (Int × Int) (fun o => o = ans (wval x.w)) ansA (fun _ => []) (fun _ => [])) (own := false) (still := false)
structure Two where
  a : (Int)
  b : (Int)
def sp16 : Spc := spcOf [.v kI, .v kI] [] (G := Two) (fun d => ⟨d.1.1, d.1.2.1⟩) (fun g => ((g.a, g.b, ()), ())) (fun _ => rfl) (fun x => .any [] [] (Int × Int) (fun o => o = ans (x.a + x.b)) ansA (fun _ => []) (fun _ => [])) (own := false) (still := false)
structure SumArg where
  l : List ((Int))
def sp12 : Spc := spcOf [.v (.slice kI)] [] (G := SumArg) (fun d => ⟨d.1.1⟩) (fun g => ((g.l, ()), ())) (fun _ => rfl) (fun x => .any [] [] (Int × Int) (fun o => o = ans x.l.sum) ansA (fun _ => []) (fun _ => [])) (lends := true) (lendsOk := by intro _ g; simp only [Con.ownedAll]; (repeat' apply And.intro) <;> first | rfl | (intro _; rfl)) (own := false) (still := false)
def lowS (l : List Int) : Int := (l.map fun v => if v < 0 then v else 0).sum
def highS (l : List Int) : Int := (l.map fun v => if v < 0 then 0 else v).sum
def worstF (b : Int) (l : List Int) : Int × Int × Int := if Num (b + lowS l) ∧ Num (b + highS l) then (b + lowS l, b + highS l, 0) else (0, 0, 10)
structure WorstArg where
  b : (Int)
  l : List ((Int))
def sp18 : Spc := spcOf [.v kI, .v (.slice kI)] [] (G := WorstArg) (fun d => ⟨d.1.1, d.1.2.1⟩) (fun g => ((g.b, g.l, ()), ())) (fun _ => rfl) (fun x => .any [] [] (Int × Int × Int) (fun o => o = worstF x.b x.l) (fun o => .tup [.agg [i64 o.1, i64 o.2.1], i64 o.2.2]) (fun _ => []) (fun _ => [])) (lends := true) (lendsOk := by intro _ g; simp only [Con.ownedAll]; (repeat' apply And.intro) <;> first | rfl | (intro _; rfl)) (own := false) (still := false)
def checkF (r : Int × Int) : Int := if r.1 > r.2 then 11 else 0
structure RgArg where
  r : (((Int)) × ((Int)))
def sp19 : Spc := spcOf [.v kRG] [] (G := RgArg) (fun d => ⟨d.1.1⟩) (fun g => ((g.r, ()), ())) (fun _ => rfl) (fun x => .any [] [] Int (fun o => o = checkF x.r) i64 (fun _ => []) (fun _ => [])) (own := false) (still := false)
def hasB (r : Int × Int) (v : Int) : Bool := decide (r.1 ≤ v) && decide (v ≤ r.2)
structure HasArg where
  r : (((Int)) × ((Int)))
  v : (Int)
def sp20 : Spc := spcOf [.v kRG, .v kI] [] (G := HasArg) (fun d => ⟨d.1.1, d.1.2.1⟩) (fun g => ((g.r, g.v, ()), ())) (fun _ => rfl) (fun x => .det [] [] (.bool (hasB x.r x.v)) [] []) (own := false) (still := false)
structure At where
  i : Nat
def annSum (x : SumArg) : Ann where
  loop id := match id with
    | 3 => inv0 { T := At, ok := fun y => y.i ≤ x.l.length, ms := fun y => x.l.length - y.i, tk := [9], tm := fun y => [i64 y.i], hk := [pl 4 0], hp := fun y => [.cells [i64 (hiW (x.l.take y.i).sum), .int .u64 (loW (x.l.take y.i).sum)]], mat := [] }
    | _ => none
  cut _ := none
  loose _ := []
def annWorst (x : WorstArg) : Ann where
  loop id := match id with
    | 3 => inv0 { T := At, ok := fun y => y.i ≤ x.l.length, ms := fun y => x.l.length - y.i, tk := [20], tm := fun y => [i64 y.i], hk := [pl 6 0, pl 7 0], hp := fun y => [.cells [i64 (hiW (x.b + lowS (x.l.take y.i))), .int .u64 (loW (x.b + lowS (x.l.take y.i)))], .cells [i64 (hiW (x.b + highS (x.l.take y.i))), .int .u64 (loW (x.b + highS (x.l.take y.i)))]], mat := [] }
    | _ => none
  cut _ := none
  loose _ := []
def sp34 : Spc := spcOf [.v kW, .v kI] [] (G := WV) (fun d => ⟨d.1.1, d.1.2.1⟩) (fun g => ((g.w, g.v, ()), ())) (fun _ => rfl) (fun x => .det [-4611686018427387904 ≤ x.w.1, x.w.1 ≤ 4611686018427387904] [] (wdA (wval x.w - x.v)) [] []) (own := false) (still := false)
def sp22 : Spc := spcOf [.v kI, .v kI] [] (G := Two) (fun d => ⟨d.1.1, d.1.2.1⟩) (fun g => ((g.a, g.b, ()), ())) (fun _ => rfl) (fun x => .any [] [] (Int × Int) (fun o => o = ans (x.a - x.b)) ansA (fun _ => []) (fun _ => [])) (own := false) (still := false)
def sp17 : Spc := spcOf [.v kI] [] (G := Num1) (fun d => ⟨d.1.1⟩) (fun g => ((g.v, ()), ())) (fun _ => rfl) (fun x => .any [] [] (Int × Int) (fun o => o = ans (0 - x.v)) ansA (fun _ => []) (fun _ => [])) (own := false) (still := false)
def withinB (a b : Int × Int) : Bool := decide (a.1 > a.2) || (decide (b.1 ≤ a.1) && decide (a.2 ≤ b.2))
structure WinArg where
  a : (((Int)) × ((Int)))
  b : (((Int)) × ((Int)))
def sp21 : Spc := spcOf [.v kRG, .v kRG] [] (G := WinArg) (fun d => ⟨d.1.1, d.1.2.1⟩) (fun g => ((g.a, g.b, ()), ())) (fun _ => rfl) (fun x => .det [] [] (.bool (withinB x.a x.b)) [] []) (own := false) (still := false)
def sp14 : Spc := spcOf [.v kI] [] (G := Num1) (fun d => ⟨d.1.1⟩) (fun g => ((g.v, ()), ())) (fun _ => rfl) (fun x => .det [] [] (i64 x.v) [] []) (own := false) (still := false)
def sp23 : Spc := spcOf [.v kI, .v kI] [] (G := Two) (fun d => ⟨d.1.1, d.1.2.1⟩) (fun g => ((g.a, g.b, ()), ())) (fun _ => rfl) (fun x => .any [] [] (Int × Int) (fun o => o = ans (x.a + x.b)) ansA (fun _ => []) (fun _ => [])) (own := false) (still := false)
def sp24 : Spc := spcOf [.v kI, .v kI] [] (G := Two) (fun d => ⟨d.1.1, d.1.2.1⟩) (fun g => ((g.a, g.b, ()), ())) (fun _ => rfl) (fun x => .any [] [] (Int × Int) (fun o => o = ans (x.a - x.b)) ansA (fun _ => []) (fun _ => [])) (own := false) (still := false)
def sp25 : Spc := spcOf [.v kI] [] (G := Num1) (fun d => ⟨d.1.1⟩) (fun g => ((g.v, ()), ())) (fun _ => rfl) (fun x => .any [] [] (Int × Int) (fun o => o = ans (0 - x.v)) ansA (fun _ => []) (fun _ => [])) (own := false) (still := false)
def sp28 : Spc := spcOf [.v kRG] [] (G := RgArg) (fun d => ⟨d.1.1⟩) (fun g => ((g.r, ()), ())) (fun _ => rfl) (fun x => .any [] [] Int (fun o => o = checkF x.r) i64 (fun _ => []) (fun _ => [])) (own := false) (still := false)
def sp29 : Spc := spcOf [.v kRG, .v kI] [] (G := HasArg) (fun d => ⟨d.1.1, d.1.2.1⟩) (fun g => ((g.r, g.v, ()), ())) (fun _ => rfl) (fun x => .det [] [] (.bool (hasB x.r x.v)) [] []) (own := false) (still := false)
def sp30 : Spc := spcOf [.v kRG, .v kRG] [] (G := WinArg) (fun d => ⟨d.1.1, d.1.2.1⟩) (fun g => ((g.a, g.b, ()), ())) (fun _ => rfl) (fun x => .det [] [] (.bool (withinB x.a x.b)) [] []) (own := false) (still := false)
def signF (l : List Int) (b : Bool) : List Int := l.filter fun n => decide (n < 0) == b
structure SgArg where
  l : List ((Int))
  b : Bool
def sp40 : Spc := spcOf [.v (.slice kI), .v .bool] [] (G := SgArg) (fun d => ⟨d.1.1, d.1.2.1⟩) (fun g => ((g.l, g.b, ()), ())) (fun _ => rfl) (fun x => .any [x.l.length ≤ 1000000] [] (List Int) (fun o => o = signF x.l x.b) (fun o => .lst kI o) (fun _ => []) (fun _ => [])) (own := false) (still := false)
structure SgAt where
  i : Nat
def ann40 (x : SgArg) : Ann where
  loop id := match id with
    | 3 => inv0 { T := SgAt, ok := fun y => y.i ≤ x.l.length, ms := fun y => x.l.length - y.i, tk := [6, 5], tm := fun y => [i64 y.i, .sl 900], hk := [900], hp := fun y => [.arr 2 kI (signF (x.l.take y.i) x.b)], mat := [(5, 900, 2, kI)] }
    | _ => none
  cut _ := none
  loose _ := []
  fin := [.fz 900 [4]]
def sp35 : Spc := spcOf [.v (.slice kI)] [] (G := SumArg) (fun d => ⟨d.1.1⟩) (fun g => ((g.l, ()), ())) (fun _ => rfl) (fun x => .any [x.l.length ≤ 1000000] [] (Int × Int) (fun o => o = ans x.l.sum) ansA (fun _ => []) (fun _ => [])) (lends := true) (lendsOk := by intro _ g; simp only [Con.ownedAll]; (repeat' apply And.intro) <;> first | rfl | (intro _; rfl)) (own := false) (still := false)
structure TwoAt where
  s : Int
  a : List Int
  b : List Int
def ann35 (x : SumArg) : Ann where
  loop id := match id with
    | 4 => inv0 { T := TwoAt, ok := fun y => Num y.s ∧ y.s + y.a.sum + y.b.sum = x.l.sum ∧ (∀ v ∈ y.a, -9223372036854775808 ≤ v ∧ v < 0) ∧ (∀ v ∈ y.b, 0 ≤ v ∧ v ≤ 9223372036854775807), ms := fun y => y.a.length + y.b.length, tk := [6, 4, 5], tm := fun y => [i64 y.s, .lst kI y.a, .lst kI y.b], hk := [], hp := fun _ => [], mat := [] }
    | _ => none
  cut _ := none
  loose _ := []
def sp37 : Spc := spcOf [.v kI, .v (.slice kI)] [] (G := WorstArg) (fun d => ⟨d.1.1, d.1.2.1⟩) (fun g => ((g.b, g.l, ()), ())) (fun _ => rfl) (fun x => .any [x.l.length ≤ 100000] [] (Int × Int × Int) (fun o => o = worstF x.b x.l) (fun o => .tup [.agg [i64 o.1, i64 o.2.1], i64 o.2.2]) (fun _ => []) (fun _ => [])) (lends := true) (lendsOk := by intro _ g; simp only [Con.ownedAll]; (repeat' apply And.intro) <;> first | rfl | (intro _; rfl)) (own := false) (still := false)
abbrev mk01 : Int := 5921370
def sp26 : Spc := spcOf [.v (.slice kI)] [] (G := SumArg) (fun d => ⟨d.1.1⟩) (fun g => ((g.l, ()), ())) (fun _ => rfl) (fun x => .det [x.l.length ≤ 2000] [] (.pfx 0 x.l.length) [] [.arr 2 kI (x.l ++ [mk01])]) (own := false) (still := false)
structure CutArg where
  l : List ((Int))
  n : (Int)
def sp10 : Spc := spcOf [.v (.slice kI), .v kI] [] (G := CutArg) (fun d => ⟨d.1.1, d.1.2.1⟩) (fun g => ((g.l, g.n, ()), ())) (fun _ => rfl) (fun x => .any [x.n = 2000] [] (List Int) (fun o => o = x.l.take 2000) (fun o => .lst kI o) (fun _ => []) (fun _ => [])) (own := false) (still := false)
structure KeptArg where
  n : Nat
  l : List Int
  xs : List Int
def sp36 : Spc := spcOf [.px 0, .v (.slice kI)] [.arr 2 kI] (G := KeptArg) (fun d => ⟨d.1.1, d.1.2.1, d.2.1⟩) (fun g => ((g.n, g.l, ()), (g.xs, ()))) (fun _ => rfl) (fun x => .det [x.xs = x.l ++ [mk01], x.l.length ≤ 2000] [] .tt [] []) (own := true)
structure KpAt where
  i : Nat
def ann36 (x : KeptArg) : Ann where
  loop id := match id with
    | 3 => inv0 { T := KpAt, ok := fun y => y.i ≤ x.l.length, ms := fun y => x.l.length - y.i, tk := [6], tm := fun y => [i64 y.i], hk := [], hp := fun _ => [], mat := [] }
    | _ => none
  cut _ := none
  loose _ := []
abbrev kOp : Ty := (.pair kI (.pair kI (.pair kI (.pair (.slice kI) (.pair kRG kRG)))))
structure ListsArg where
  o : Int × Int × Int × (List Int) × (Int × Int) × (Int × Int)
  n : Nat
  l : List Int
  xs : List Int
def sp27 : Spc := spcOf [.v kOp, .px 0, .v (.slice kI)] [.arr 2 kI] (G := ListsArg) (fun d => ⟨d.1.1, d.1.2.1, d.1.2.2.1, d.2.1⟩) (fun g => ((g.o, g.n, g.l, ()), (g.xs, ()))) (fun _ => rfl) (fun x => .det [x.n = x.l.length ∧ x.xs = x.l ++ [mk01] ∧ x.l.length ≤ 2000] [] .tt [] []) (own := true)
def xor3 (a : Int) : Int := IntKind.i64.wrap (BitVec.ofInt IntKind.i64.bits a ^^^ BitVec.ofInt IntKind.i64.bits 3).toNat
structure PlArg where
  o : (((Int)) × ((Int)) × ((Int)) × (List ((Int))) × ((((Int)) × ((Int)))) × ((((Int)) × ((Int)))))
def sp11 : Spc := spcOf [.v kOp] [] (G := PlArg) (fun d => ⟨d.1.1⟩) (fun g => ((g.o, ()), ())) (fun _ => rfl) (fun x => .det [x.o.2.2.2.1.length ≤ 2000] [] .tt [] []) (own := false) (still := false)
structure PlAt where
  i : Nat
def ann11 (x : PlArg) : Ann where
  loop id := match id with
    | 20 => inv0 { T := PlAt, ok := fun y => y.i ≤ x.o.2.2.2.1.length, ms := fun y => x.o.2.2.2.1.length - y.i, tk := [18, 15, 17], tm := fun y => [i64 y.i, .pfx (pl 103 0) x.o.2.2.2.1.length, .sl 900], hk := [pl 103 0, 900], hp := fun y => [.arr 2 kI ((x.o.2.2.2.1.take y.i).map xor3 ++ x.o.2.2.2.1.drop y.i ++ [mk01]), .arr 2 kI ((x.o.2.2.2.1.take y.i).map xor3)], mat := [(17, 900, 2, kI)] }
    | _ => none
  cut _ := none
  loose _ := []
  ghost id := match id with
    | 24 => [.fz 900 [17]]
    | _ => []
def sp9 : Spc := spcOf [] [] (G := Unit) (fun _ => ()) (fun _ => ((), ())) (fun _ => rfl) (fun _ => .det [] [] .tt [] [])
structure ExArg where
  s : List ((((Int)) × ((Int)) × ((Int)) × (List ((Int))) × ((((Int)) × ((Int)))) × ((((Int)) × ((Int))))))
def sp4 : Spc := spcOf [.v (.slice kOp)] [] (G := ExArg) (fun d => ⟨d.1.1⟩) (fun g => ((g.s, ()), ())) (fun _ => rfl) (fun x => .det [] [] (.bool true) [] []) (own := false) (still := false)
structure ExAt where
  i : Nat
def ann4 (x : ExArg) : Ann where
  loop id := match id with
    | 4 => inv0 { T := ExAt, ok := fun y => y.i ≤ x.s.length, ms := fun y => x.s.length - y.i, tk := [3], tm := fun y => [i64 y.i], hk := [], hp := fun _ => [], mat := [] }
    | _ => none
  cut _ := none
  loose _ := []
end Go.Proofs.Ytfeanjnjcdmhcaa.VC

