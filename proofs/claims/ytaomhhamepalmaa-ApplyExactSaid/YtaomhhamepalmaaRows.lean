/-
  No cell of these rows narrows 'for every input' (looked for: loops, veiled, ifaces, maps, wideKeys, modest, calm, conditions, laid).
  DERIVED. THE GIVEN ROWS OF THIS SEAT. 5 by the template 'for every input the law returns true; each argument reads behind the call as it read before'; 0 by the template 'total and deterministic' (their statements: YtaomhhamepalmaaTotals.lean).
  GIVEN WITH THE SEED: the statements are not yours to turn. If you find one false, say at which input.
  Laid BY PROGRAM, IN A SANDBOX (cutbox-rows.mjs): the forced cells as the released guide's own fill.sh prints them over the translation 9fd25ff725ac47fb… (all of the seat's roots in one cut). By AI agents, Wed Nov 11 2026. No macro, syntax, notation, axiom, sorry.
-/
import Derived.Test.YtaomhhamepalmaaChecked
import GoSem.Claim
import GoSem.ClaimJoined
import GoSem.ClaimMapViews
import Derived.JoinedTies
import Derived.KernelRfl
namespace Go.Proofs.Ytaomhhamepalmaa
/- THE CELL 'sum', in the pinned program and in every row, IS THE sha256 OF THE DUMP (.gsa) THAT YtaomhhamepalmaaProg.lean LOADS. Nothing in Lean hashes anything: it is a label: what it is worth is what the hold of that sum in a sandbox is worth. -/
noncomputable def Try.pinned : Pinned := { name := "ytaomhhamepalmaa", sum := "9fd25ff725ac47fbcffbe50f799ebbddc091b15b87b993c558f5869b21e97b22", checked := Try.checked }
namespace Rows
def none {H : Type} : Left H := { results := [], args := [] }

/-- 'quotalaw14.ApplyExact': WHATEVER THE INPUT: true; the input reads as it did. -/
def applyExactSpec : ChangeSpec := { name := "applyExact", fn := fun _ => fun
  | [d] => { results := [.lit (.bool true)], args := [d] }
  | _ => none }
def applyExactRow : OpenClaim := { program := "ytaomhhamepalmaa", sum := "9fd25ff725ac47fbcffbe50f799ebbddc091b15b87b993c558f5869b21e97b22", func := "quota/quotalaw14.ApplyExact", spec := "applyExact", inPlace := ["math/bits.Add64", "math/bits.Sub64"], unfollowed := true, recurses := true, apart := false }
def ApplyExactSaid : Prop := applyExactRow.holds Try.pinned (OpenSpec.ofChange applyExactSpec)

/-- ITS FALSE NEIGHBOUR: 'it returns false'. Refute it at one input. -/
def applyExactWrong : ChangeSpec := { name := "applyExact", fn := fun _ => fun
  | [d] => { results := [.lit (.bool false)], args := [d] }
  | _ => none }
def ApplyExactWrongFalsely : Prop := applyExactRow.holds Try.pinned (OpenSpec.ofChange applyExactWrong)

/-- 'quotalaw14.ApplyOnce': WHATEVER THE INPUT: true; the input reads as it did. -/
def applyOnceSpec : ChangeSpec := { name := "applyOnce", fn := fun _ => fun
  | [d1, d2, d3] => { results := [.lit (.bool true)], args := [d1, d2, d3] }
  | _ => none }
def applyOnceRow : OpenClaim := { program := "ytaomhhamepalmaa", sum := "9fd25ff725ac47fbcffbe50f799ebbddc091b15b87b993c558f5869b21e97b22", func := "quota/quotalaw14.ApplyOnce", spec := "applyOnce", inPlace := ["math/bits.Add64", "math/bits.Sub64"], unfollowed := true, recurses := true, apart := false }
def ApplyOnceSaid : Prop := applyOnceRow.holds Try.pinned (OpenSpec.ofChange applyOnceSpec)

/-- ITS FALSE NEIGHBOUR: 'it returns false'. Refute it at one input. -/
def applyOnceWrong : ChangeSpec := { name := "applyOnce", fn := fun _ => fun
  | [d1, d2, d3] => { results := [.lit (.bool false)], args := [d1, d2, d3] }
  | _ => none }
def ApplyOnceWrongFalsely : Prop := applyOnceRow.holds Try.pinned (OpenSpec.ofChange applyOnceWrong)

/-- 'quotalaw14.ApplyBack': WHATEVER THE INPUT: true; the input reads as it did. -/
def applyBackSpec : ChangeSpec := { name := "applyBack", fn := fun _ => fun
  | [d1, d2, d3] => { results := [.lit (.bool true)], args := [d1, d2, d3] }
  | _ => none }
def applyBackRow : OpenClaim := { program := "ytaomhhamepalmaa", sum := "9fd25ff725ac47fbcffbe50f799ebbddc091b15b87b993c558f5869b21e97b22", func := "quota/quotalaw14.ApplyBack", spec := "applyBack", inPlace := ["math/bits.Add64", "math/bits.Sub64"], unfollowed := true, recurses := true, apart := false }
def ApplyBackSaid : Prop := applyBackRow.holds Try.pinned (OpenSpec.ofChange applyBackSpec)

/-- ITS FALSE NEIGHBOUR: 'it returns false'. Refute it at one input. -/
def applyBackWrong : ChangeSpec := { name := "applyBack", fn := fun _ => fun
  | [d1, d2, d3] => { results := [.lit (.bool false)], args := [d1, d2, d3] }
  | _ => none }
def ApplyBackWrongFalsely : Prop := applyBackRow.holds Try.pinned (OpenSpec.ofChange applyBackWrong)

/-- 'quotalaw14.ApplyOrder': WHATEVER THE INPUT: true; the input reads as it did. -/
def applyOrderSpec : ChangeSpec := { name := "applyOrder", fn := fun _ => fun
  | [d1, d2, d3] => { results := [.lit (.bool true)], args := [d1, d2, d3] }
  | _ => none }
def applyOrderRow : OpenClaim := { program := "ytaomhhamepalmaa", sum := "9fd25ff725ac47fbcffbe50f799ebbddc091b15b87b993c558f5869b21e97b22", func := "quota/quotalaw14.ApplyOrder", spec := "applyOrder", inPlace := ["math/bits.Add64", "math/bits.Sub64"], unfollowed := true, recurses := true, apart := false }
def ApplyOrderSaid : Prop := applyOrderRow.holds Try.pinned (OpenSpec.ofChange applyOrderSpec)

/-- ITS FALSE NEIGHBOUR: 'it returns false'. Refute it at one input. -/
def applyOrderWrong : ChangeSpec := { name := "applyOrder", fn := fun _ => fun
  | [d1, d2, d3] => { results := [.lit (.bool false)], args := [d1, d2, d3] }
  | _ => none }
def ApplyOrderWrongFalsely : Prop := applyOrderRow.holds Try.pinned (OpenSpec.ofChange applyOrderWrong)

/-- 'quotalaw14.ApplyChain': WHATEVER THE INPUT: true; the input reads as it did. -/
def applyChainSpec : ChangeSpec := { name := "applyChain", fn := fun _ => fun
  | [d1, d2, d3] => { results := [.lit (.bool true)], args := [d1, d2, d3] }
  | _ => none }
def applyChainRow : OpenClaim := { program := "ytaomhhamepalmaa", sum := "9fd25ff725ac47fbcffbe50f799ebbddc091b15b87b993c558f5869b21e97b22", func := "quota/quotalaw14.ApplyChain", spec := "applyChain", inPlace := ["math/bits.Add64", "math/bits.Sub64"], unfollowed := true, recurses := true, apart := false }
def ApplyChainSaid : Prop := applyChainRow.holds Try.pinned (OpenSpec.ofChange applyChainSpec)

/-- ITS FALSE NEIGHBOUR: 'it returns false'. Refute it at one input. -/
def applyChainWrong : ChangeSpec := { name := "applyChain", fn := fun _ => fun
  | [d1, d2, d3] => { results := [.lit (.bool false)], args := [d1, d2, d3] }
  | _ => none }
def ApplyChainWrongFalsely : Prop := applyChainRow.holds Try.pinned (OpenSpec.ofChange applyChainWrong)

/- THE SECOND FORM. 'bulk': how many values and letters a reading holds, each counted each time it is reached (what is shared counts as often as it is met; a slice's spare places count too). A statement '..UptoSaid' is the law's where the arguments, and the package variables that the reading takes, are together of bulk at most 1048576: NARROWER than '..Said'. Prove '..Said' where nothing that the law and all that it calls make is longer than what came in: it says more and counts as full. Else prove '..UptoSaid'. A law counts once. -/
mutual
def uptoBulk {H : Type} : DataW H → Nat
  | .lit (.string bytes) => bytes.length + 1
  | .lit _ => 1
  | .nil => 1
  | .ptr d => uptoBulk d + 1
  | .slice elems spare => uptoBulkAll elems + uptoBulkAll spare + 1
  | .agg parts => uptoBulkAll parts + 1
  | .iface _ d => uptoBulk d + 1
  | .map entries => uptoBulkEntries entries + 1
  | .held _ => 1
def uptoBulkAll {H : Type} : List (DataW H) → Nat
  | [] => 0
  | d :: r => uptoBulk d + uptoBulkAll r
def uptoBulkEntries {H : Type} : List (Lit × DataW H) → Nat
  | [] => 0
  | x :: r => uptoBulkEntry x + uptoBulkEntries r
def uptoBulkEntry {H : Type} : Lit × DataW H → Nat
  | (.string bytes, d) => bytes.length + uptoBulk d + 1
  | (_, d) => uptoBulk d + 1
 end
def uptoSmall : (H : Type) → List (DataW H) → Bool := fun _ ds => decide (uptoBulkAll ds ≤ 1048576)
def OpenSpec.upto (s : _root_.Go.ChangeSpec) : _root_.Go.OpenSpec := { _root_.Go.OpenSpec.ofChange s with cond := some uptoSmall }

/-- 'quotalaw14.ApplyExact', WHERE WHAT IT READS IS OF BULK AT MOST 1048576: true; the input reads as it did. -/
def applyExactUptoRow : OpenClaim := { program := "ytaomhhamepalmaa", sum := "9fd25ff725ac47fbcffbe50f799ebbddc091b15b87b993c558f5869b21e97b22", func := "quota/quotalaw14.ApplyExact", spec := "applyExact", inPlace := ["math/bits.Add64", "math/bits.Sub64"], unfollowed := true, recurses := true, apart := false, narrowed := true }
def ApplyExactUptoSaid : Prop := applyExactUptoRow.holds Try.pinned (OpenSpec.upto applyExactSpec)

/-- 'quotalaw14.ApplyOnce', WHERE WHAT IT READS IS OF BULK AT MOST 1048576: true; the input reads as it did. -/
def applyOnceUptoRow : OpenClaim := { program := "ytaomhhamepalmaa", sum := "9fd25ff725ac47fbcffbe50f799ebbddc091b15b87b993c558f5869b21e97b22", func := "quota/quotalaw14.ApplyOnce", spec := "applyOnce", inPlace := ["math/bits.Add64", "math/bits.Sub64"], unfollowed := true, recurses := true, apart := false, narrowed := true }
def ApplyOnceUptoSaid : Prop := applyOnceUptoRow.holds Try.pinned (OpenSpec.upto applyOnceSpec)

/-- 'quotalaw14.ApplyBack', WHERE WHAT IT READS IS OF BULK AT MOST 1048576: true; the input reads as it did. -/
def applyBackUptoRow : OpenClaim := { program := "ytaomhhamepalmaa", sum := "9fd25ff725ac47fbcffbe50f799ebbddc091b15b87b993c558f5869b21e97b22", func := "quota/quotalaw14.ApplyBack", spec := "applyBack", inPlace := ["math/bits.Add64", "math/bits.Sub64"], unfollowed := true, recurses := true, apart := false, narrowed := true }
def ApplyBackUptoSaid : Prop := applyBackUptoRow.holds Try.pinned (OpenSpec.upto applyBackSpec)

/-- 'quotalaw14.ApplyOrder', WHERE WHAT IT READS IS OF BULK AT MOST 1048576: true; the input reads as it did. -/
def applyOrderUptoRow : OpenClaim := { program := "ytaomhhamepalmaa", sum := "9fd25ff725ac47fbcffbe50f799ebbddc091b15b87b993c558f5869b21e97b22", func := "quota/quotalaw14.ApplyOrder", spec := "applyOrder", inPlace := ["math/bits.Add64", "math/bits.Sub64"], unfollowed := true, recurses := true, apart := false, narrowed := true }
def ApplyOrderUptoSaid : Prop := applyOrderUptoRow.holds Try.pinned (OpenSpec.upto applyOrderSpec)

/-- 'quotalaw14.ApplyChain', WHERE WHAT IT READS IS OF BULK AT MOST 1048576: true; the input reads as it did. -/
def applyChainUptoRow : OpenClaim := { program := "ytaomhhamepalmaa", sum := "9fd25ff725ac47fbcffbe50f799ebbddc091b15b87b993c558f5869b21e97b22", func := "quota/quotalaw14.ApplyChain", spec := "applyChain", inPlace := ["math/bits.Add64", "math/bits.Sub64"], unfollowed := true, recurses := true, apart := false, narrowed := true }
def ApplyChainUptoSaid : Prop := applyChainUptoRow.holds Try.pinned (OpenSpec.upto applyChainSpec)

end Rows
end Go.Proofs.Ytaomhhamepalmaa
