/- What is said of the registry's longer functions. Definitions alone; no conditions. -/
import Derived.Test.YtkhcphdnppdfjaaSp
set_option linter.unusedVariables false
namespace Go.Proofs.Ytkhcphdnppdfjaa.VC
open Go
abbrev kI : Ty := .int .i64
abbrev kS : Ty := (.pair kI kI)
structure RegS where
  pages : (Int)
  E : List (((Int)) × ((((Int)) × ((Int)))))
  M : List (((Int)) × ((Int)))
abbrev RegS.at (r : RegS) (n : Nat) : List Itm := [.cells (Ty.enc kI r.pages ++ [.map (n + 1)] ++ [.map (n + 2)]), .mapo kI kS r.E, .mapo kI kI r.M]
/-- Words that ask for the number in a slot. -/
def byInt (st : St) (t : Nat) (f : Int → Inv) : Inv := match st.tmp t with
  | .int _ n => f n
  | _ => f 0
/-- What taken has so far. -/
structure Tk where
  r : Reg
  own : List (Int × Int)
  wh : List (Int × Int)
  sm : List (Int × Int)
def Tk.step (s : Tk) (p : Int × Int) : Tk :=
  if (s.r.plan (rst p.1 1 4000) (rst p.2 1 4000)).e ≠ 0 then s else ⟨s.r.add (rst p.1 1 4000) (rst p.2 1 4000), s.own ++ [(rst p.1 1 4000, rst p.2 1 4000)], s.wh ++ [(s.r.plan (rst p.1 1 4000) (rst p.2 1 4000)).a], s.sm ++ [(s.r.plan (rst p.1 1 4000) (rst p.2 1 4000)).b]⟩
def takenF (pages : Int) (l : List (Int × Int)) : Tk := (l.take 3000).foldl Tk.step ⟨⟨pages, [], []⟩, [], [], []⟩
structure TkArg where
  pages : (Int)
  l : List ((((Int)) × ((Int))))
def sp12 : Spc := spcOf [.v kI, .v (.slice kS)] [] (G := TkArg) (fun d => ⟨d.1.1, d.1.2.1⟩) (fun g => ((g.pages, g.l, ()), ())) (fun _ => rfl) (fun x => .any [2 ≤ x.pages, x.pages ≤ 64] [] Tk (fun s => s = takenF x.pages x.l) (fun _ => .tup [.ptr 0 0, .sl 1, .sl 2, .sl 3, .bool true]) (fun _ => [])
  (fun s => [.cells [i64 s.r.pages, .map 4, .map 5], .arr 49 TSlot s.own, .arr 37 TSlot s.wh, .arr 37 TSlot s.sm, .mapo TI64 TSlot s.r.E, .mapo TI64 TI64 s.r.M])) (own := false) (still := false)
structure TkAt where
  i : Nat
  s : Tk
def ann12 (x : TkArg) : Ann where
  loop id := match id with
    | 7 => inv0 {
        T := TkAt
        ok := fun y => y.i ≤ (x.l.take 3000).length ∧ y.s = takenF x.pages (x.l.take y.i)
        ms := fun y => 3000 - y.i
        tk := [14, 11, 12, 13]
        tm := fun y => [i64 y.i, .sl 900, .sl 901, .sl 902]
        hk := [pl 21 1, pl 21 2, 900, 901, 902]
        hp := fun y => [.mapo TI64 TSlot y.s.r.E, .mapo TI64 TI64 y.s.r.M, .arr 49 TSlot y.s.own, .arr 37 TSlot y.s.wh, .arr 37 TSlot y.s.sm]
        mat := [(11, 900, 49, TSlot), (12, 901, 37, TSlot), (13, 902, 37, TSlot)] }
    | _ => none
  cut id := match id with
    | 10 => some ([15], fun st => byInt st 14 fun n => { T := Int × Int, ok := fun y => y = (rst (x.l.getD n.toNat (0, 0)).1 1 4000, rst (x.l.getD n.toNat (0, 0)).2 1 4000), ms := fun _ => 0, tk := [15], tm := fun y => [.ptr (pl 15 0) 0], hk := [pl 15 0], hp := fun y => [.cells [i64 y.1, i64 y.2]], mat := [] })
    | _ => none
  loose _ := []
/-- The registry that has taken these. -/
def regOf (pages : Int) (own : List (Int × Int)) : Reg := own.foldl (fun r p => r.add p.1 p.2) ⟨pages, [], []⟩
/-- Where the groups' sums stand. -/
def Reg.gs (r : Reg) : List (Int × (Int × Int)) := r.M.map fun e => (e.1, sm r.pages e.2)
structure ApAt where
  i : Nat
  low : Int
  high : Int
  G : List (Int × (Int × Int))
def sp4 : Spc := spcOf [.v kI, .v (.slice kS)] [] (G := TkArg) (fun d => ⟨d.1.1, d.1.2.1⟩) (fun g => ((g.pages, g.l, ()), ())) (fun _ => rfl) (fun x => .det [] [] (.bool true) [] []) (own := false) (still := false)
def ApAt.ok (pages : Int) (s : Tk) (y : ApAt) : Prop :=
  y.i ≤ s.own.length ∧ y.G = (regOf pages (s.own.take y.i)).gs ∧ (y.i = 0 → y.low = -1 ∧ y.high = pages) ∧ (0 < y.i → y.low = ((y.i - 1 : Nat) : Int) / 31 ∧ y.high = pages - 1 - (((regOf pages (s.own.take y.i)).M.length - 1 : Nat) : Int) / 84)
def ann4 (x : TkArg) : Ann where
  loop id := match id with
    | 11 => inv0 {
        T := ApAt, ok := ApAt.ok (rst x.pages 2 64) (takenF (rst x.pages 2 64) x.l), ms := fun y => (takenF (rst x.pages 2 64) x.l).own.length - y.i
        tk := [13, 11, 12], tm := fun y => [i64 y.i, i64 y.low, i64 y.high]
        hk := [pl 38 0], hp := fun y => [.mapo TI64 TSlot y.G], mat := [] }
    | _ => none
  cut _ := none
  loose _ := []
/-- What Take leaves. -/
structure TakeOut where
  e : Int
  r : Reg
def sp19n : Spc := { sp19 with con := fun x => .any [x.r.ok] [1, 2] TakeOut (fun o => o = ⟨x.r.takeE x.c x.g x.w x.s, x.r.take x.c x.g x.w x.s⟩) (fun o => i64 o.e) (fun o => [.mapo TI64 TSlot o.r.E, .mapo TI64 TI64 o.r.M]) (fun _ => []) }
structure SmArg where
  pages : (Int)
  l : List ((((Int)) × ((Int))))
  ask : List ((((Int)) × ((Int))))
  odd : (((Int)) × ((Int)))
def sp5 : Spc := spcOf [.v kI, .v (.slice kS), .v (.slice kS), .v kS] [] (G := SmArg) (fun d => ⟨d.1.1, d.1.2.1, d.1.2.2.1, d.1.2.2.2.1⟩) (fun g => ((g.pages, g.l, g.ask, g.odd, ()), ())) (fun _ => rfl) (fun x => .det [] [] (.bool true) [] []) (own := false) (still := false)
structure QAt where
  i : Nat
  E : List (Int × (Int × Int))
  M : List (Int × Int)
structure AskAt where
  i : Nat
def ann5 (x : SmArg) : Ann where
  loop id := match id with
    | 9 => inv0 {
        T := QAt, ok := fun y => y.i ≤ (takenF (rst x.pages 2 64) x.l).own.length ∧ (⟨rst x.pages 2 64, y.E, y.M⟩ : Reg) = regOf (rst x.pages 2 64) ((takenF (rst x.pages 2 64) x.l).own.take y.i), ms := fun y => (takenF (rst x.pages 2 64) x.l).own.length - y.i
        tk := [16], tm := fun y => [i64 y.i]
        hk := [pl 47 1, pl 47 2], hp := fun y => [.mapo TI64 TSlot y.E, .mapo TI64 TI64 y.M], mat := [] }
    | 16 => inv0 { T := AskAt, ok := fun y => y.i ≤ 200, ms := fun y => 200 - y.i, tk := [17], tm := fun y => [i64 y.i], hk := [], hp := fun _ => [], mat := [] }
    | _ => none
  cut id := match id with
    | 19 => some ([18, 19, 20], fun st => byInt st 17 fun n => { T := Planned, ok := fun p => p = (takenF (rst x.pages 2 64) x.l).r.plan (x.ask.getD n.toNat (0, 0)).1 (x.ask.getD n.toNat (0, 0)).2, ms := fun _ => 0, tk := [18, 19, 20], tm := fun p => [.ptr (pl 18 0) 0, .ptr (pl 19 0) 0, i64 p.e], hk := [pl 18 0, pl 19 0], hp := fun p => [.cells [i64 p.a.1, i64 p.a.2], .cells [i64 p.b.1, i64 p.b.2]], mat := [] })
    | 20 => some ([21, 22, 23], fun st => byInt st 17 fun n => { T := Planned, ok := fun p => p = (takenF (rst x.pages 2 64) x.l).r.plan (x.ask.getD n.toNat (0, 0)).1 (x.ask.getD n.toNat (0, 0)).2, ms := fun _ => 0, tk := [21, 22, 23], tm := fun p => [.ptr (pl 21 0) 0, .ptr (pl 22 0) 0, i64 p.e], hk := [pl 21 0, pl 22 0], hp := fun p => [.cells [i64 p.a.1, i64 p.a.2], .cells [i64 p.b.1, i64 p.b.2]], mat := [] })
    | _ => none
  loose id := match id with
    | 11 => [pl 47 1, pl 47 2]
    | 13 => [pl 47 1, pl 47 2]
    | _ => []
end Go.Proofs.Ytkhcphdnppdfjaa.VC

