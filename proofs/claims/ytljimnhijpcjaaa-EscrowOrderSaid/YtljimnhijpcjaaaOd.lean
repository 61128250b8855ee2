/- What is said of EscrowOrder's function. Definitions alone; no conditions. -/
import Derived.Test.YtljimnhijpcjaaaRe
import Derived.Test.YtljimnhijpcjaaaLp
set_option linter.unusedVariables false
namespace Go.Proofs.Ytljimnhijpcjaaa.VC
open Go
structure OrdArg where
  b : (((Int)) × ((Int)))
  v : (Int)
  d : List ((((Int)) × ((Int))))
  ways : List (Bool)
  turn : (Int)
def sp7 : Spc := spcOf [.v kRG, .v kI, .v (.slice kN), .v (.slice .bool), .v kI] [] (G := OrdArg) (fun d => ⟨d.1.1, d.1.2.1, d.1.2.2.1, d.1.2.2.2.1, d.1.2.2.2.2.1⟩) (fun g => ((g.b, g.v, g.d, g.ways, g.turn, ()), ())) (fun _ => rfl) (fun x => .det [] [] (.bool true) [] []) (own := false) (still := false)
def wayT (L : List (Int × Int)) (ways : List Bool) (tx : Int) : Bool := (List.range L.length).any fun q => decide ((L.getD q (0, 0)).1 = tx) && ways.getD q false
def ordC (len t q : Nat) : Nat := len - 1 - (q + t) % len
def ordE (q : Nat) : Nat := q
def turnN (turn : Int) : Nat := (turn.tmod 8 + 8).toNat
def dnB (L : List (Int × Int)) (o : Nat → Nat) (i : Nat) (tx : Int) : Bool := (List.range i).any fun q => decide ((L.getD (o q) (0, 0)).1 = tx)
def stD (b : Int) (E : List (Int × Int)) (dn w : Int → Bool) : Int := b + (E.map fun p => if dn p.1 && w p.1 then p.2 else 0).sum
def leftD (E : List (Int × Int)) (dn : Int → Bool) : List (Int × Int) := E.filter fun p => !dn p.1
def stepS (s : Int) (E : List (Int × Int)) (tx : Int) (w : Bool) : Int := if w then IntKind.i64.wrap (s + netOf E tx) else s
def wantS (b : Int) (L : List (Int × Int)) (ways : List Bool) (i : Nat) : Int := b + ((List.range i).map fun q => if ways.getD q false then (L.getD q (0, 0)).2 else 0).sum
structure OiAt where
  i : Nat
structure OjAt where
  j : Nat
def lstIn (st : St) (t : Nat) (f : List (Int × Int) → Inv) : Inv := match st.tmp t with
  | .sl p => match st.at p with
    | .arr _ (.pair (.int .i64) (.int .i64)) l => f l
    | _ => f []
  | _ => f []
def ann7 (x : OrdArg) : Ann where
  loop id := match id with
    | 13 => some ([17], fun st => escIn st 11 fun e => lstIn st 16 fun L => { T := OiAt, ok := fun y => y.i ≤ L.length, ms := fun y => L.length - y.i, tk := [17], tm := fun y => [i64 y.i], hk := [pl 15 0], hp := fun y => [.cells [i64 (wantS e.st L x.ways y.i / 4294967296), i64 (wantS e.st L x.ways y.i % 4294967296)]], mat := [] })
    | 18 => some ([18], fun st => escIn st 11 fun e => lstIn st 16 fun L => { T := OiAt, ok := fun y => y.i ≤ L.length, ms := fun y => L.length - y.i, tk := [18], tm := fun y => [i64 y.i], hk := [pl 33 0, pl 33 1, pl 39 0, pl 39 1], hp := fun y => [.cells [i64 e.lo, i64 e.hi, i64 (stD e.st e.nets (dnB L ordE y.i) (wayT L x.ways)), .map (pl 33 1)], .mapo kI kI (leftD e.nets (dnB L ordE y.i)), .cells [i64 e.lo, i64 e.hi, i64 (stD e.st e.nets (dnB L (ordC L.length (turnN x.turn)) y.i) (wayT L x.ways)), .map (pl 39 1)], .mapo kI kI (leftD e.nets (dnB L (ordC L.length (turnN x.turn)) y.i))], mat := [] })
    | 22 => some ([20], fun st => byInt st 18 fun i => lstIn st 16 fun L => escIn st 11 fun e => escIn st 13 fun c => { T := OjAt, ok := fun y => y.j ≤ 2, ms := fun y => 2 - y.j, tk := [20], tm := fun y => [i64 y.j], hk := [pl 33 0, pl 33 1, pl 39 0, pl 39 1], hp := fun y => [
        .cells [i64 e.lo, i64 e.hi, i64 (if y.j = 0 then e.st else stepS e.st e.nets (L.getD i.toNat (0, 0)).1 (x.ways.getD i.toNat false)), .map (pl 33 1)],
        .mapo kI kI (if y.j = 0 then e.nets else mdI e.nets (L.getD i.toNat (0, 0)).1),
        .cells [i64 c.lo, i64 c.hi, i64 (if y.j = 2 then stepS c.st c.nets (L.getD (ordC L.length (turnN x.turn) i.toNat) (0, 0)).1 (x.ways.getD (ordC L.length (turnN x.turn) i.toNat) false) else c.st), .map (pl 39 1)],
        .mapo kI kI (if y.j = 2 then mdI c.nets (L.getD (ordC L.length (turnN x.turn) i.toNat) (0, 0)).1 else c.nets)], mat := [] })
    | 36 => some ([24], fun st => { T := OjAt, ok := fun y => y.j ≤ 2, ms := fun y => 2 - y.j, tk := [24], tm := fun y => [i64 y.j], hk := [], hp := fun _ => [], mat := [] })
    | _ => none
  cut _ := none
  loose id := match id with
    | 16 => [pl 15 0]
    | 33 => [pl 33 0, pl 33 1, pl 39 0, pl 39 1]
    | _ => []
end Go.Proofs.Ytljimnhijpcjaaa.VC

