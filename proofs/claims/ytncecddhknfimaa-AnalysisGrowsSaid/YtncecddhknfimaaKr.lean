/- What is said of record's functions. Definitions alone; no conditions. -/
import Derived.Test.YtncecddhknfimaaWd
import Derived.Test.YtncecddhknfimaaWf
set_option linter.unusedVariables false
namespace Go.Proofs.Ytncecddhknfimaa.VC
open Go
abbrev kI : Ty := .int .i64
abbrev kS : Ty := (.pair kI kI)
abbrev kC : Ty := (.pair kI (.pair kI (.pair (.pair kI kI) kI)))
abbrev kL : Ty := (.pair kI (.pair kI (.pair .bool .bool)))
abbrev kD : Ty := (.pair kI kI)
abbrev kP : Ty := (.pair (.slice kL) (.pair (.slice kD) kI))
abbrev kR : Ty := (.pair kI (.pair kI (.pair kI (.pair kI (.pair kS (.pair kS (.pair kI (.pair kC kP))))))))
abbrev Lv : Type := Int × Int × Bool × Bool
abbrev Ctr : Type := Int × Int × (Int × Int) × Int
abbrev Pt : Type := List Lv × List (Int × Int) × Int
abbrev Rc : Type := Int × Int × Int × Int × (Int × Int) × (Int × Int) × Int × Ctr × Pt
abbrev lv (x : Lv) : AV := .agg [i64 x.1, i64 x.2.1, .bool x.2.2.1, .bool x.2.2.2]
def noLv : Lv := (0, 0, false, false)
abbrev top : Int := 2147483647
def within (n lo hi : Int) : Bool := decide (lo ≤ n) && decide (n ≤ hi)
def belowB (n lsn : Int) : Bool := decide (lsn = 0) || decide (n < lsn)
def slotsB (w s : Int × Int) : Bool := within w.1 0 63 && within w.2 0 30 && within s.1 0 63 && within s.2 0 83 && !decide (w.1 = s.1)
def zeroS (w : Int × Int) : Bool := w.1 == 0 && w.2 == 0
def zeroC (c : Ctr) : Bool := c.1 == 0 && (c.2.1 == 0 && (c.2.2.1.1 == 0 && c.2.2.1.2 == 0 && c.2.2.2 == 0))
def blankB (r : Rc) : Bool := r.2.2.1 == 0 && (r.2.2.2.1 == 0 && (zeroS r.2.2.2.2.1 && (zeroS r.2.2.2.2.2.1 && (r.2.2.2.2.2.2.1 == 0 && (zeroC r.2.2.2.2.2.2.2.1 && (r.2.2.2.2.2.2.2.2.2.2 == 0 && ((r.2.2.2.2.2.2.2.2.1.length : Int) == 0 && (r.2.2.2.2.2.2.2.2.2.1.length : Int) == 0)))))))
/-- Transactions of a checkpoint, behind one. -/
def liveB (next lsn : Int) : Int → List Lv → Bool
  | _, [] => true
  | last, x :: l => decide (last < x.1) && decide (x.1 < next) && within x.2.1 1 top && belowB x.2.1 lsn && !(x.2.2.1 && x.2.2.2) && liveB next lsn x.1 l
/-- Dirty pages of a checkpoint, behind one. -/
def dirtyB (lsn : Int) : Int → List (Int × Int) → Bool
  | _, [] => true
  | page, x :: l => decide (page < x.1) && decide (x.1 < 64) && within x.2 1 top && belowB x.2 lsn && dirtyB lsn x.1 l
def pointsB (p : Pt) (lsn : Int) : Bool := within p.2.2 1 2147483648 && decide (p.1.length ≤ 32) && decide (p.2.1.length ≤ 16) && liveB p.2.2 lsn 0 p.1 && dirtyB lsn (-1) p.2.1
def okR (r : Rc) : Bool :=
  let (lsn, kind, tx, prev, w, s, d, c, p) := r
  within lsn 0 top && (
    if kind = 2 then slotsB w s && within c.1 1 1048576 && within c.2.1 1 1048576 && decide (c.2.2.1.1 ≤ c.2.2.2) && decide (c.2.2.2 ≤ c.2.2.1.2) && blankB (lsn, kind, tx, prev, (0, 0), (0, 0), d, (0, 0, (0, 0), 0), p)
    else if kind = 8 then pointsB p lsn && blankB (lsn, kind, tx, prev, w, s, d, c, ([], [], 0))
    else if kind = 3 ∨ kind = 4 then slotsB w s && within c.1 1 1048576 && within prev 1 top && belowB prev lsn && within tx 1 top && blankB (lsn, kind, 0, 0, (0, 0), (0, 0), 0, (0, c.2), p)
    else if kind = 1 then within tx 1 top && blankB (lsn, kind, 0, prev, w, s, d, c, p)
    else within prev 1 top && belowB prev lsn && within tx 1 top && blankB (lsn, kind, 0, 0, w, s, d, c, p))
def checkR (r : Rc) : Int := if r.2.1 < 1 ∨ 8 < r.2.1 then 70 else if okR r then 0 else 23
structure InArg where
  n : (Int)
  lo : (Int)
  hi : (Int)
def sp47 : Spc := spcOf [.v kI, .v kI, .v kI] [] (G := InArg) (fun d => ⟨d.1.1, d.1.2.1, d.1.2.2.1⟩) (fun g => ((g.n, g.lo, g.hi, ()), ())) (fun _ => rfl) (fun x => .det [] [] (.bool (within x.n x.lo x.hi)) [] []) (own := false) (still := false)
structure SlArg where
  w : (((Int)) × ((Int)))
  s : (((Int)) × ((Int)))
def sp48 : Spc := spcOf [.v kS, .v kS] [] (G := SlArg) (fun d => ⟨d.1.1, d.1.2.1⟩) (fun g => ((g.w, g.s, ()), ())) (fun _ => rfl) (fun x => .det [] [] (.bool (slotsB x.w x.s)) [] []) (own := false) (still := false)
structure BelArg where
  n : (Int)
  lsn : (Int)
def sp50 : Spc := spcOf [.v kI, .v kI] [] (G := BelArg) (fun d => ⟨d.1.1, d.1.2.1⟩) (fun g => ((g.n, g.lsn, ()), ())) (fun _ => rfl) (fun x => .det [] [] (.bool (belowB x.n x.lsn)) [] []) (own := false) (still := false)
structure RcArg where
  r : (((Int)) × ((Int)) × ((Int)) × ((Int)) × ((((Int)) × ((Int)))) × ((((Int)) × ((Int)))) × ((Int)) × ((((Int)) × ((Int)) × (((Int)) × ((Int))) × ((Int)))) × (((List ((((Int)) × ((Int)) × (Bool) × (Bool)))) × (List ((((Int)) × ((Int))))) × ((Int)))))
def sp51 : Spc := spcOf [.v kR] [] (G := RcArg) (fun d => ⟨d.1.1⟩) (fun g => ((g.r, ()), ())) (fun _ => rfl) (fun x => .det [] [] (.bool (blankB x.r)) [] []) (own := false) (still := false)
structure PtArg where
  p : ((List ((((Int)) × ((Int)) × (Bool) × (Bool)))) × (List ((((Int)) × ((Int))))) × ((Int)))
  lsn : (Int)
def sp49 : Spc := spcOf [.v kP, .v kI] [] (G := PtArg) (fun d => ⟨d.1.1, d.1.2.1⟩) (fun g => ((g.p, g.lsn, ()), ())) (fun _ => rfl) (fun x => .det [] [] (.bool (pointsB x.p x.lsn)) [] []) (own := false) (still := false)
def sp36 : Spc := spcOf [.v kR] [] (G := RcArg) (fun d => ⟨d.1.1⟩) (fun g => ((g.r, ()), ())) (fun _ => rfl) (fun x => .any [] [] Int (fun o => o = checkR x.r) i64 (fun _ => []) (fun _ => [])) (own := false) (still := false)
structure LwAt where
  i : Nat
  last : Int
def ann49 (x : PtArg) : Ann where
  loop id := match id with
    | 5 => inv0 { T := LwAt, ok := fun y => y.i ≤ x.p.1.length ∧ liveB x.p.2.2 x.lsn 0 x.p.1 = liveB x.p.2.2 x.lsn y.last (x.p.1.drop y.i), ms := fun y => x.p.1.length - y.i, tk := [30, 5], tm := fun y => [i64 y.i, i64 y.last], hk := [], hp := fun _ => [], mat := [] }
    | 13 => inv0 { T := LwAt, ok := fun y => y.i ≤ x.p.2.1.length ∧ dirtyB x.lsn (-1) x.p.2.1 = dirtyB x.lsn y.last (x.p.2.1.drop y.i), ms := fun y => x.p.2.1.length - y.i, tk := [72, 8], tm := fun y => [i64 y.i, i64 y.last], hk := [], hp := fun _ => [], mat := [] }
    | _ => none
  cut _ := none
  loose _ := []
def ann36 (x : RcArg) : Ann where
  loop _ := none
  cut _ := none
  loose _ := []
end Go.Proofs.Ytncecddhknfimaa.VC

