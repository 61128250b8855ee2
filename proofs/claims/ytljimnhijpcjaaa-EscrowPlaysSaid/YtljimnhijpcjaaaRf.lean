/- What is said of the document's escrow that changes, and of scripts over escrows. Definitions alone; no conditions. -/
import Derived.Test.YtljimnhijpcjaaaNq
set_option linter.unusedVariables false
namespace Go.Proofs.Ytljimnhijpcjaaa.VC
open Go


def sp28 : Spc := spcOf [.v kRG] [] (G := RF) (fun d => ⟨d.1.1⟩) (fun g => ((g.w, ()), ())) (fun _ => rfl) (fun x => .det [WFit x.w] [] (.bool (decide (Num (wv x.w)))) [] []) (own := false) (still := false)
def wide (n : Int) : Int × Int := (n / 4294967296, n % 4294967296)
def hasN (l : List (Int × Int)) (tx : Int) : Bool := l.any fun p => p.1 == tx
def withM (l : List (Int × Int)) (tx d : Int) : List Int := l.map fun p => if p.1 == tx then p.2 + d else p.2
def withV (l : List (Int × Int)) (tx d : Int) : List Int := withM l tx d ++ (if hasN l tx then [] else [d])
def withB (l : List (Int × Int)) (tx d : Int) : Bool := l.foldl (fun b p => if p.1 == tx then decide (Num (p.2 + d)) else b) true
structure MayR where
  r : RefE
  tx : (Int)
  delta : (Int)
def sp57 : Spc := spcOf [.p 0, .v kI, .v kI] [.cells [.v kI, .v kI, .v kI, .v (.slice kN)]] (G := MayR) (fun d => ⟨⟨d.2.1.1, d.2.1.2.1, d.2.1.2.2.1, d.2.1.2.2.2.1⟩, d.1.2.1, d.1.2.2.1⟩) (fun g => (((), g.tx, g.delta, ()), ((g.r.lo, g.r.hi, g.r.base, g.r.nets, ()), ()))) (fun _ => rfl) (fun x => .any [x.r.nets.length ≤ 1000000] [] (List Int × Bool) (fun o => o = (withV x.r.nets x.tx x.delta, withB x.r.nets x.tx x.delta)) (fun o => .tup [.sl 1, .bool o.2]) (fun _ => []) (fun o => [.arr 55 kN (o.1.map wide)])) (own := false) (still := false)
def mayR (r : RefE) (tx d : Int) : Int :=
  if tx < 1 ∨ 2147483647 < tx then 130
  else if r.base + lowS (withV r.nets tx d) < r.lo ∨ r.hi < r.base + highS (withV r.nets tx d) then 110
  else if withB r.nets tx d = false then 10 else 0
def sp42 : Spc := spcOf [.p 0, .v kI, .v kI] [.cells [.v kI, .v kI, .v kI, .v (.slice kN)]] (G := MayR) (fun d => ⟨⟨d.2.1.1, d.2.1.2.1, d.2.1.2.2.1, d.2.1.2.2.2.1⟩, d.1.2.1, d.1.2.2.1⟩) (fun g => (((), g.tx, g.delta, ()), ((g.r.lo, g.r.hi, g.r.base, g.r.nets, ()), ()))) (fun _ => rfl) (fun x => .any [x.r.nets.length ≤ 1000, Num (x.r.base), Num (x.r.base + lowS x.r.vals), Num (x.r.base + highS x.r.vals)] [] Int (fun o => o = mayR x.r x.tx x.delta) i64 (fun _ => []) (fun _ => [])) (own := false) (still := false)
def addStep (tx d : Int) (a : List (Int × Int) × Bool) (n : Int × Int) : List (Int × Int) × Bool :=
  let b := if n.1 > tx ∧ a.2 = false then (a.1 ++ [(tx, d)], true) else a
  if n.1 = tx then (b.1 ++ [(n.1, IntKind.i64.wrap (n.2 + d))], true) else (b.1 ++ [n], b.2)
def addTo (l : List (Int × Int)) (tx d : Int) : List (Int × Int) × Bool := l.foldl (addStep tx d) ([], false)
def addN (l : List (Int × Int)) (tx d : Int) : List (Int × Int) := if (addTo l tx d).2 then (addTo l tx d).1 else (addTo l tx d).1 ++ [(tx, d)]
def addR (r : RefE) (tx d : Int) : AddOut := if mayR r tx d ≠ 0 then ⟨mayR r tx d, r.nets⟩ else ⟨0, addN r.nets tx d⟩
def sp43 : Spc := spcOf [.p 0, .v kI, .v kI] [.cells [.v kI, .v kI, .v kI, .v (.slice kN)]] (G := MayR) (fun d => ⟨⟨d.2.1.1, d.2.1.2.1, d.2.1.2.2.1, d.2.1.2.2.2.1⟩, d.1.2.1, d.1.2.2.1⟩) (fun g => (((), g.tx, g.delta, ()), ((g.r.lo, g.r.hi, g.r.base, g.r.nets, ()), ()))) (fun _ => rfl) (fun x => .any [x.r.nets.length ≤ 1000, Num (x.r.base), Num (x.r.base + lowS x.r.vals), Num (x.r.base + highS x.r.vals)] [0] AddOut (fun o => o = addR x.r x.tx x.delta) (fun o => i64 o.e) (fun o => [.cells [i64 x.r.lo, i64 x.r.hi, i64 x.r.base, .lst kN o.nets]]) (fun _ => [])) (own := false) (still := false)
def outN (l : List (Int × Int)) (tx : Int) : List (Int × Int) := l.filter fun p => p.1 != tx
def sp58 : Spc := spcOf [.p 0, .v kI] [.cells [.v kI, .v kI, .v kI, .v (.slice kN)]] (G := RefTx) (fun d => ⟨⟨d.2.1.1, d.2.1.2.1, d.2.1.2.2.1, d.2.1.2.2.2.1⟩, d.1.2.1⟩) (fun g => (((), g.tx, ()), ((g.r.lo, g.r.hi, g.r.base, g.r.nets, ()), ()))) (fun _ => rfl) (fun x => .any [x.r.nets.length ≤ 1000000] [0] (List (Int × Int)) (fun o => o = outN x.r.nets x.tx) (fun _ => .tup []) (fun o => [.cells [i64 x.r.lo, i64 x.r.hi, i64 x.r.base, .lst kN o]]) (fun _ => [])) (own := false) (still := false)
def setR (r : RefE) (tx : Int) : SetOut := match findN r.nets tx with
  | some n => ⟨true, IntKind.i64.wrap (r.base + n), outN r.nets tx⟩
  | none => ⟨false, r.base, r.nets⟩
def sp44 : Spc := spcOf [.p 0, .v kI] [.cells [.v kI, .v kI, .v kI, .v (.slice kN)]] (G := RefTx) (fun d => ⟨⟨d.2.1.1, d.2.1.2.1, d.2.1.2.2.1, d.2.1.2.2.2.1⟩, d.1.2.1⟩) (fun g => (((), g.tx, ()), ((g.r.lo, g.r.hi, g.r.base, g.r.nets, ()), ()))) (fun _ => rfl) (fun x => .any [x.r.nets.length ≤ 1000000] [0] SetOut (fun o => o = setR x.r x.tx) (fun o => .bool o.b) (fun o => [.cells [i64 x.r.lo, i64 x.r.hi, i64 o.st, .lst kN o.nets]]) (fun _ => [])) (own := false) (still := false)
def relR (r : RefE) (tx : Int) : SetOut := match findN r.nets tx with
  | some n => ⟨true, r.base, outN r.nets tx⟩
  | none => ⟨false, r.base, r.nets⟩
def sp45 : Spc := spcOf [.p 0, .v kI] [.cells [.v kI, .v kI, .v kI, .v (.slice kN)]] (G := RefTx) (fun d => ⟨⟨d.2.1.1, d.2.1.2.1, d.2.1.2.2.1, d.2.1.2.2.2.1⟩, d.1.2.1⟩) (fun g => (((), g.tx, ()), ((g.r.lo, g.r.hi, g.r.base, g.r.nets, ()), ()))) (fun _ => rfl) (fun x => .any [x.r.nets.length ≤ 1000000] [0] SetOut (fun o => o = relR x.r x.tx) (fun o => .bool o.b) (fun o => [.cells [i64 x.r.lo, i64 x.r.hi, i64 o.st, .lst kN o.nets]]) (fun _ => [])) (own := false) (still := false)
def sp46 : Spc := spcOf [.p 0] [.cells [.v kI, .v kI, .v kI, .v (.slice kN)]] (G := RefArg) (fun d => ⟨⟨d.2.1.1, d.2.1.2.1, d.2.1.2.2.1, d.2.1.2.2.2.1⟩⟩) (fun g => (((), ()), ((g.r.lo, g.r.hi, g.r.base, g.r.nets, ()), ()))) (fun _ => rfl) (fun x => .any [x.r.nets.length ≤ 1000000] [] (List (Int × Int)) (fun o => o = x.r.nets) (fun _ => .ptr 1 0) (fun _ => []) (fun o => [.cells [i64 x.r.lo, i64 x.r.hi, i64 x.r.base, .lst kN o]])) (own := false) (still := false)
def annRWith (x : MayR) : Ann where
  loop id := match id with
    | 5 => inv0 { T := IAt, ok := fun y => y.i ≤ x.r.nets.length, ms := fun y => x.r.nets.length - y.i, tk := [11, 8, 9, 10], tm := fun y => [i64 y.i, .sl 900, .bool (withB (x.r.nets.take y.i) x.tx x.delta), .bool (hasN (x.r.nets.take y.i) x.tx)], hk := [900], hp := fun y => [.arr 55 kN ((withM (x.r.nets.take y.i) x.tx x.delta).map wide)], mat := [(8, 900, 55, kN)] }
    | _ => none
  cut _ := none
  loose _ := []
def annRAdd (x : MayR) : Ann where
  loop id := match id with
    | 7 => inv0 { T := IAt, ok := fun y => y.i ≤ x.r.nets.length, ms := fun y => x.r.nets.length - y.i, tk := [10, 8, 9], tm := fun y => [i64 y.i, .sl 900, .bool (addTo (x.r.nets.take y.i) x.tx x.delta).2], hk := [900], hp := fun y => [.arr 51 kN (addTo (x.r.nets.take y.i) x.tx x.delta).1], mat := [(8, 900, 51, kN)] }
    | _ => none
  cut _ := none
  loose _ := []
  ghost id := match id with
    | 20 => [.fz 900 []]
    | _ => []
def annROut (x : RefTx) : Ann where
  loop id := match id with
    | 2 => inv0 { T := IAt, ok := fun y => y.i ≤ x.r.nets.length, ms := fun y => x.r.nets.length - y.i, tk := [5, 4], tm := fun y => [i64 y.i, .sl 900], hk := [900], hp := fun y => [.arr 51 kN (outN (x.r.nets.take y.i) x.tx)], mat := [(4, 900, 51, kN)] }
    | _ => none
  cut _ := none
  loose _ := []
  fin := [.fz 900 []]
def annRCopy (x : RefArg) : Ann where
  loop _ := none
  cut _ := none
  loose id := match id with
    | 2 => [pl 13 0]
    | _ => []
  fin := [.fz (pl 23 0) []]
end Go.Proofs.Ytljimnhijpcjaaa.VC

