/- What is said of the functions of the document's escrow. Definitions alone; no conditions. -/
import Derived.Test.YtljimnhijpcjaaaWp
set_option linter.unusedVariables false
namespace Go.Proofs.Ytljimnhijpcjaaa.VC
open Go
structure RefE where
  lo : (Int)
  hi : (Int)
  base : (Int)
  nets : List ((((Int)) × ((Int))))
abbrev RefE.at (r : RefE) (n : Nat) : List Itm := [.cells (Ty.enc kI r.lo ++ Ty.enc kI r.hi ++ Ty.enc kI r.base ++ Ty.enc (.slice kN) r.nets)]
def wSmall (p : Int × Int) : Prop := -8589934592 ≤ p.1 ∧ p.1 ≤ 8589934592 ∧ 0 ≤ p.2 ∧ p.2 < 4294967296
structure RS where
  a : (((Int)) × ((Int)))
  b : (((Int)) × ((Int)))
def sp66 : Spc := spcOf [.v kRG, .v kRG] [] (G := RS) (fun d => ⟨d.1.1, d.1.2.1⟩) (fun g => ((g.a, g.b, ()), ())) (fun _ => rfl) (fun x => .det [WFit x.a, wSmall x.b] [] (wA (wv x.a + wv x.b)) [] []) (own := false) (still := false)
structure RF where
  w : (((Int)) × ((Int)))
def sp56 : Spc := spcOf [.v kRG] [] (G := RF) (fun d => ⟨d.1.1⟩) (fun g => ((g.w, ()), ())) (fun _ => rfl) (fun x => .det [Num (wv x.w), 0 ≤ x.w.2, x.w.2 < 4294967296] [] (i64 (wv x.w)) [] []) (own := false) (still := false)
structure RWo where
  b : (((Int)) × ((Int)))
  l : List ((((Int)) × ((Int))))
def sp55 : Spc := spcOf [.v kRG, .v (.slice kN)] [] (G := RWo) (fun d => ⟨d.1.1, d.1.2.1⟩) (fun g => ((g.b, g.l, ()), ())) (fun _ => rfl) (fun x => .any [wSmall x.b, ∀ p ∈ x.l, wSmall p, x.l.length ≤ 1000001] [] (Int × Int) (fun o => o = (wv x.b + lowS (x.l.map wv), wv x.b + highS (x.l.map wv))) (fun o => .tup [wA o.1, wA o.2]) (fun _ => []) (fun _ => [])) (lends := true) (lendsOk := by intro _ g; simp only [Con.ownedAll]; (repeat' apply And.intro) <;> first | rfl | (intro _; rfl)) (own := false) (still := false)
abbrev RefE.vals (r : RefE) : List Int := r.nets.map (·.2)
structure RefE.Fits (r : RefE) : Prop where
  len : r.nets.length ≤ 1000000
  low : Num (r.base + lowS r.vals)
  high : Num (r.base + highS r.vals)
  sum : Num (r.base + r.vals.sum)
structure RNewArg where
  b : (((Int)) × ((Int)))
  v : (Int)
def sp11 : Spc := spcOf [.v kRG, .v kI] [] (G := RNewArg) (fun d => ⟨d.1.1, d.1.2.1⟩) (fun g => ((g.b, g.v, ()), ())) (fun _ => rfl) (fun x => .or
  (.any [] [] Int (fun e => e ≠ 0 ∧ newF x.b x.v = e) (fun e => .tup [.nptr, i64 e]) (fun _ => []) (fun _ => []))
  (.any [] [] Unit (fun _ => newF x.b x.v = 0) (fun _ => .tup [.ptr 0 0, i64 0]) (fun _ => []) (fun _ => [.cells [i64 x.b.1, i64 x.b.2, i64 x.v, .lst kN []]]))) (own := false) (still := false)
def findN (l : List (Int × Int)) (tx : Int) : Option Int := (l.find? fun p => decide (p.1 = tx)).map (·.2)
structure RefTx where
  r : RefE
  tx : (Int)
def sp38 : Spc := spcOf [.p 0, .v kI] [.cells [.v kI, .v kI, .v kI, .v (.slice kN)]] (G := RefTx) (fun d => ⟨⟨d.2.1.1, d.2.1.2.1, d.2.1.2.2.1, d.2.1.2.2.2.1⟩, d.1.2.1⟩) (fun g => (((), g.tx, ()), ((g.r.lo, g.r.hi, g.r.base, g.r.nets, ()), ()))) (fun _ => rfl) (fun x => .any [] [] (Option Int) (fun o => o = findN x.r.nets x.tx) (fun o => .tup [i64 (o.getD 0), .bool o.isSome]) (fun _ => []) (fun _ => [])) (own := false) (still := false)
structure RefArg where
  r : RefE
def sp39 : Spc := spcOf [.p 0] [.cells [.v kI, .v kI, .v kI, .v (.slice kN)]] (G := RefArg) (fun d => ⟨⟨d.2.1.1, d.2.1.2.1, d.2.1.2.2.1, d.2.1.2.2.2.1⟩⟩) (fun g => (((), ()), ((g.r.lo, g.r.hi, g.r.base, g.r.nets, ()), ()))) (fun _ => rfl) (fun x => .det [x.r.Fits] [] (.agg [i64 (x.r.base + lowS x.r.vals), i64 (x.r.base + highS x.r.vals)]) [] []) (own := false) (still := false)
def sp40 : Spc := spcOf [.p 0] [.cells [.v kI, .v kI, .v kI, .v (.slice kN)]] (G := RefArg) (fun d => ⟨⟨d.2.1.1, d.2.1.2.1, d.2.1.2.2.1, d.2.1.2.2.2.1⟩⟩) (fun g => (((), ()), ((g.r.lo, g.r.hi, g.r.base, g.r.nets, ()), ()))) (fun _ => rfl) (fun x => .det [x.r.Fits] [] (i64 (x.r.base + x.r.vals.sum)) [] []) (own := false) (still := false)
def sp41 : Spc := spcOf [.p 0] [.cells [.v kI, .v kI, .v kI, .v (.slice kN)]] (G := RefArg) (fun d => ⟨⟨d.2.1.1, d.2.1.2.1, d.2.1.2.2.1, d.2.1.2.2.2.1⟩⟩) (fun g => (((), ()), ((g.r.lo, g.r.hi, g.r.base, g.r.nets, ()), ()))) (fun _ => rfl) (fun x => .any [x.r.nets.length ≤ 1000000] [] (List Int) (fun o => o = x.r.nets.map (·.1)) (fun _ => .sl 1) (fun _ => []) (fun o => [.arr 3 kI o])) (own := false) (still := false)
structure SameInts where
  a : List ((Int))
  b : List ((Int))
def sp33 : Spc := spcOf [.v (.slice kI), .v (.slice kI)] [] (G := SameInts) (fun d => ⟨d.1.1, d.1.2.1⟩) (fun g => ((g.a, g.b, ()), ())) (fun _ => rfl) (fun x => .det [] [] (.bool (decide (x.a = x.b))) [] []) (lends := true) (lendsOk := by intro _ g; simp only [Con.ownedAll]; (repeat' apply And.intro) <;> first | rfl | (intro _; rfl)) (own := false) (still := false)
/-- The document's escrow tells the same. -/
structure Alike (e : Esc) (r : RefE) : Prop where
  lo : e.lo = r.lo
  hi : e.hi = r.hi
  st : e.st = r.base
  nets : e.nets.Perm r.nets
  rise : r.nets.Pairwise (fun a b => a.1 < b.1)
  keys : ∀ p ∈ r.nets, 1 ≤ p.1 ∧ p.1 ≤ 2147483647
  nums : ∀ p ∈ r.nets, Num p.2
  len : r.nets.length ≤ 1000
  low : r.lo ≤ r.base + lowS r.vals
  high : r.base + highS r.vals ≤ r.hi
  b1 : Num r.lo
  b2 : Num r.hi
structure TellArg where
  e : Esc
  r : RefE
  tx : (Int)
def sp12 : Spc := spcOf [.p 0, .p 1, .v kI] [.cells [.v kI, .v kI, .v kI, .m 2], .cells [.v kI, .v kI, .v kI, .v (.slice kN)], .mapo kI kI] (G := TellArg) (fun d => ⟨⟨d.2.1.1, d.2.1.2.1, d.2.1.2.2.1, d.2.2.2.1⟩, ⟨d.2.2.1.1, d.2.2.1.2.1, d.2.2.1.2.2.1, d.2.2.1.2.2.2.1⟩, d.1.2.2.1⟩) (fun g => (((), (), g.tx, ()), ((g.e.lo, g.e.hi, g.e.st, (), ()), (g.r.lo, g.r.hi, g.r.base, g.r.nets, ()), g.e.nets, ()))) (fun _ => rfl) (fun x => .det [Alike x.e x.r] [] (.bool true) [] []) (own := false) (still := false)
structure NewsArg where
  b : (((Int)) × ((Int)))
  v : (Int)
  tx : (Int)
def sp3 : Spc := spcOf [.v kRG, .v kI, .v kI] [] (G := NewsArg) (fun d => ⟨d.1.1, d.1.2.1, d.1.2.2.1⟩) (fun g => ((g.b, g.v, g.tx, ()), ())) (fun _ => rfl) (fun x => .det [] [] (.bool true) [] []) (own := false) (still := false)
structure IAt where
  i : Nat
def annRNet (x : RefTx) : Ann where
  loop id := match id with
    | 2 => inv0 { T := IAt, ok := fun y => y.i ≤ x.r.nets.length ∧ ∀ p ∈ x.r.nets.take y.i, p.1 ≠ x.tx, ms := fun y => x.r.nets.length - y.i, tk := [6], tm := fun y => [i64 y.i], hk := [], hp := fun _ => [], mat := [] }
    | _ => none
  cut _ := none
  loose _ := []
def annRInt (x : RefArg) : Ann where
  loop id := match id with
    | 3 => inv0 { T := IAt, ok := fun y => y.i ≤ x.r.nets.length, ms := fun y => x.r.nets.length - y.i, tk := [4, 3], tm := fun y => [i64 y.i, .sl 900], hk := [900], hp := fun y => [.arr 55 kN ((x.r.nets.take y.i).map fun p => (p.2 / 4294967296, p.2 % 4294967296))], mat := [(3, 900, 55, kN)] }
    | _ => none
  cut _ := none
  loose id := match id with
    | 7 => [pl 2 0]
    | _ => []
def annRVal (x : RefArg) : Ann where
  loop id := match id with
    | 3 => inv0 { T := IAt, ok := fun y => y.i ≤ x.r.nets.length, ms := fun y => x.r.nets.length - y.i, tk := [4], tm := fun y => [i64 y.i], hk := [pl 3 0], hp := fun y => [.cells [i64 ((x.r.base + (x.r.vals.take y.i).sum) / 4294967296), i64 ((x.r.base + (x.r.vals.take y.i).sum) % 4294967296)]], mat := [] }
    | _ => none
  cut _ := none
  loose id := match id with
    | 5 => [pl 3 0]
    | _ => []
def annRHold (x : RefArg) : Ann where
  loop id := match id with
    | 3 => inv0 { T := IAt, ok := fun y => y.i ≤ x.r.nets.length, ms := fun y => x.r.nets.length - y.i, tk := [4, 3], tm := fun y => [i64 y.i, .sl 900], hk := [900], hp := fun y => [.arr 3 kI ((x.r.nets.take y.i).map (·.1))], mat := [(3, 900, 3, kI)] }
    | _ => none
  cut _ := none
  loose _ := []
def annRWorst (x : RWo) : Ann where
  loop id := match id with
    | 4 => inv0 { T := IAt, ok := fun y => y.i ≤ x.l.length, ms := fun y => x.l.length - y.i, tk := [8], tm := fun y => [i64 y.i], hk := [pl 6 0, pl 7 0], hp := fun y => [.cells [i64 ((wv x.b + lowS ((x.l.take y.i).map wv)) / 4294967296), i64 ((wv x.b + lowS ((x.l.take y.i).map wv)) % 4294967296)], .cells [i64 ((wv x.b + highS ((x.l.take y.i).map wv)) / 4294967296), i64 ((wv x.b + highS ((x.l.take y.i).map wv)) % 4294967296)]], mat := [] }
    | _ => none
  cut _ := none
  loose id := match id with
    | 10 => [pl 4 0, pl 5 0]
    | _ => []
def annSame (x : SameInts) : Ann where
  loop id := match id with
    | 4 => inv0 { T := IAt, ok := fun y => y.i ≤ x.a.length ∧ x.a.take y.i = x.b.take y.i, ms := fun y => x.a.length - y.i, tk := [5], tm := fun y => [i64 y.i], hk := [], hp := fun _ => [], mat := [] }
    | _ => none
  cut _ := none
  loose _ := []
end Go.Proofs.Ytljimnhijpcjaaa.VC

