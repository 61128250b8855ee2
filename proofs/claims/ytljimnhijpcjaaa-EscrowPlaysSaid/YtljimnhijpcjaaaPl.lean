/- What is said of scripts over escrows. Definitions alone; no conditions. -/
import Derived.Test.YtljimnhijpcjaaaRg
set_option linter.unusedVariables false
namespace Go.Proofs.Ytljimnhijpcjaaa.VC
open Go


abbrev kOpK : Ty := (.pair kI (.pair kI (.pair kI kI)))
abbrev kPr : Ty := .pair (.ref 1) (.ref 2)
structure Prs where
  l : List ((Nat × Nat))
abbrev Prs.at (r : Prs) (n : Nat) : List Itm := [.arr 36 kPr r.l]
abbrev hEscP : List HT := [.cells [.v kI, .v kI, .v kI, .m 1], .mapo kI kI]
abbrev EscP : Type := List (Nat × HTden hEscP)
abbrev ofEscP (d : HTden hEscP) : Esc := ⟨d.1.1, d.1.2.1, d.1.2.2.1, d.2.1⟩
abbrev toEscP (d : Esc) : HTden hEscP := ((d.lo, d.hi, d.st, (), ()), d.nets, ())
abbrev hRefP : List HT := [.cells [.v kI, .v kI, .v kI, .v (.slice kN)]]
abbrev RefP : Type := List (Nat × HTden hRefP)
abbrev ofRefP (d : HTden hRefP) : RefE := ⟨d.1.1, d.1.2.1, d.1.2.2.1, d.1.2.2.2.1⟩
abbrev toRefP (d : RefE) : HTden hRefP := ((d.lo, d.hi, d.base, d.nets, ()), ())
/-- All pairs are there and alike; none stands twice. -/
structure PlOk (n : Nat) (l : List (Nat × Nat)) (es : EscP) (rs : RefP) : Prop where
  ne : 0 < l.length
  len : l.length ≤ n + 1
  get : ∀ p ∈ l, ∃ e r, pget es p.1 = some (toEscP e) ∧ pget rs p.2 = some (toRefP r) ∧ Alike e r ∧ r.nets.length ≤ n
  nd1 : (l.map (·.1)).Nodup
  nd2 : (l.map (·.2)).Nodup
structure PlOut where
  l : List (Nat × Nat)
  es : EscP
  rs : RefP
structure PlArg where
  l : Prs
  o : (((Int)) × ((Int)) × ((Int)) × ((Int)))
  es : EscP
  rs : RefP
def sp13 : Spc := spcOfP [.s 0, .v kOpK] [.arr 36 kPr] [.pool 1 hEscP, .pool 2 hRefP] (G := PlArg) (fun d => ⟨⟨d.2.1.1⟩, d.1.2.1, d.2.2.1, d.2.2.2.1⟩) (fun g => (((), g.o, ()), (g.l.l, ()), (g.es, g.rs, ()))) (fun _ => rfl) (fun x => .any [PlOk 300 x.l.l x.es x.rs] [0, 1, 2] PlOut (fun o => ∀ n, n ≤ 300 → PlOk n x.l.l x.es x.rs → PlOk (n + 1) o.l o.es o.rs) (fun _ => .tup [.sl 0, .bool true]) (fun o => [.arr 36 kPr o.l, .pool 1 hEscP o.es [], .pool 2 hRefP o.rs []]) (fun _ => [])) (own := true) (still := false) (raw := false)
def annPlays (x : PlArg) : Ann where
  loop _ := none
  cut _ := none
  loose id := match id with
    | 7 => [1, 2]
    | 9 => [1, 2]
    | 11 => [1, 2]
    | 13 => [1, 2]
    | _ => []
  og id i := match id, i with
    | 16, 5 => [.pk (pl 92 0) 1 [pl 92 0, pl 92 1] [94, 8], .pk (pl 97 0) 2 [pl 97 0] [97]]
    | _, _ => []
end Go.Proofs.Ytljimnhijpcjaaa.VC

