/-
  No cell of these rows narrows 'for every input' (looked for: loops, veiled, ifaces, maps, wideKeys, modest, calm, conditions, laid).
  DERIVED. THE GIVEN ROWS OF THIS SEAT. 6 by the template 'for every input the law returns true; each argument reads behind the call as it read before'; 0 by the template 'total and deterministic' (their statements: YtfeanjnjcdmhcaaTotals.lean).
  GIVEN WITH THE SEED: the statements are not yours to turn. If you find one false, say at which input.
  Laid BY PROGRAM, IN A SANDBOX (cutbox-rows.mjs): the forced cells as the released guide's own fill.sh prints them over the translation 803546361c2e7e65… (all of the seat's roots in one cut). By AI agents, Wed Nov 11 2026. No macro, syntax, notation, axiom, sorry.
-/
import Derived.Test.YtfeanjnjcdmhcaaChecked
import GoSem.Claim
import GoSem.ClaimJoined
import GoSem.ClaimMapViews
import Derived.JoinedTies
import Derived.KernelRfl
namespace Go.Proofs.Ytfeanjnjcdmhcaa
/- THE CELL 'sum', in the pinned program and in every row, IS THE sha256 OF THE DUMP (.gsa) THAT YtfeanjnjcdmhcaaProg.lean LOADS. Nothing in Lean hashes anything: it is a label: what it is worth is what the hold of that sum in a sandbox is worth. -/
noncomputable def Try.pinned : Pinned := { name := "ytfeanjnjcdmhcaa", sum := "803546361c2e7e6567840355c742cc095b17454f5228ed02fb23d417e030d45b", checked := Try.checked }
namespace Rows
def none {H : Type} : Left H := { results := [], args := [] }

/-- 'quotalaw01.IntervalNames': WHATEVER THE INPUT: true; the input reads as it did. -/
def intervalNamesSpec : ChangeSpec := { name := "intervalNames", fn := fun _ => fun
  | [] => { results := [.lit (.bool true)], args := [] }
  | _ => none }
def intervalNamesRow : OpenClaim := { program := "ytfeanjnjcdmhcaa", sum := "803546361c2e7e6567840355c742cc095b17454f5228ed02fb23d417e030d45b", func := "quota/quotalaw01.IntervalNames", spec := "intervalNames", inPlace := ["math/bits.Add64", "math/bits.Sub64"], apart := false }
def IntervalNamesSaid : Prop := intervalNamesRow.holds Try.pinned (OpenSpec.ofChange intervalNamesSpec)

/-- ITS FALSE NEIGHBOUR: 'it returns false'. Refute it at one input. -/
def intervalNamesWrong : ChangeSpec := { name := "intervalNames", fn := fun _ => fun
  | [] => { results := [.lit (.bool false)], args := [] }
  | _ => none }
def IntervalNamesWrongFalsely : Prop := intervalNamesRow.holds Try.pinned (OpenSpec.ofChange intervalNamesWrong)

/-- 'quotalaw01.IntervalExact': WHATEVER THE INPUT: true; the input reads as it did. -/
def intervalExactSpec : ChangeSpec := { name := "intervalExact", fn := fun _ => fun
  | [d] => { results := [.lit (.bool true)], args := [d] }
  | _ => none }
def intervalExactRow : OpenClaim := { program := "ytfeanjnjcdmhcaa", sum := "803546361c2e7e6567840355c742cc095b17454f5228ed02fb23d417e030d45b", func := "quota/quotalaw01.IntervalExact", spec := "intervalExact", inPlace := ["math/bits.Add64", "math/bits.Sub64"], apart := false }
def IntervalExactSaid : Prop := intervalExactRow.holds Try.pinned (OpenSpec.ofChange intervalExactSpec)

/-- ITS FALSE NEIGHBOUR: 'it returns false'. Refute it at one input. -/
def intervalExactWrong : ChangeSpec := { name := "intervalExact", fn := fun _ => fun
  | [d] => { results := [.lit (.bool false)], args := [d] }
  | _ => none }
def IntervalExactWrongFalsely : Prop := intervalExactRow.holds Try.pinned (OpenSpec.ofChange intervalExactWrong)

/-- 'quotalaw01.IntervalSums': WHATEVER THE INPUT: true; the input reads as it did. -/
def intervalSumsSpec : ChangeSpec := { name := "intervalSums", fn := fun _ => fun
  | [d1, d2, d3] => { results := [.lit (.bool true)], args := [d1, d2, d3] }
  | _ => none }
def intervalSumsRow : OpenClaim := { program := "ytfeanjnjcdmhcaa", sum := "803546361c2e7e6567840355c742cc095b17454f5228ed02fb23d417e030d45b", func := "quota/quotalaw01.IntervalSums", spec := "intervalSums", inPlace := ["math/bits.Add64", "math/bits.Sub64"], apart := false }
def IntervalSumsSaid : Prop := intervalSumsRow.holds Try.pinned (OpenSpec.ofChange intervalSumsSpec)

/-- ITS FALSE NEIGHBOUR: 'it returns false'. Refute it at one input. -/
def intervalSumsWrong : ChangeSpec := { name := "intervalSums", fn := fun _ => fun
  | [d1, d2, d3] => { results := [.lit (.bool false)], args := [d1, d2, d3] }
  | _ => none }
def IntervalSumsWrongFalsely : Prop := intervalSumsRow.holds Try.pinned (OpenSpec.ofChange intervalSumsWrong)

/-- 'quotalaw01.IntervalOutcomes': WHATEVER THE INPUT: true; the input reads as it did. -/
def intervalOutcomesSpec : ChangeSpec := { name := "intervalOutcomes", fn := fun _ => fun
  | [d1, d2, d3] => { results := [.lit (.bool true)], args := [d1, d2, d3] }
  | _ => none }
def intervalOutcomesRow : OpenClaim := { program := "ytfeanjnjcdmhcaa", sum := "803546361c2e7e6567840355c742cc095b17454f5228ed02fb23d417e030d45b", func := "quota/quotalaw01.IntervalOutcomes", spec := "intervalOutcomes", inPlace := ["math/bits.Add64", "math/bits.Sub64"], apart := false }
def IntervalOutcomesSaid : Prop := intervalOutcomesRow.holds Try.pinned (OpenSpec.ofChange intervalOutcomesSpec)

/-- ITS FALSE NEIGHBOUR: 'it returns false'. Refute it at one input. -/
def intervalOutcomesWrong : ChangeSpec := { name := "intervalOutcomes", fn := fun _ => fun
  | [d1, d2, d3] => { results := [.lit (.bool false)], args := [d1, d2, d3] }
  | _ => none }
def IntervalOutcomesWrongFalsely : Prop := intervalOutcomesRow.holds Try.pinned (OpenSpec.ofChange intervalOutcomesWrong)

/-- 'quotalaw01.IntervalRanges': WHATEVER THE INPUT: true; the input reads as it did. -/
def intervalRangesSpec : ChangeSpec := { name := "intervalRanges", fn := fun _ => fun
  | [d1, d2, d3] => { results := [.lit (.bool true)], args := [d1, d2, d3] }
  | _ => none }
def intervalRangesRow : OpenClaim := { program := "ytfeanjnjcdmhcaa", sum := "803546361c2e7e6567840355c742cc095b17454f5228ed02fb23d417e030d45b", func := "quota/quotalaw01.IntervalRanges", spec := "intervalRanges", inPlace := ["math/bits.Add64", "math/bits.Sub64"], apart := false }
def IntervalRangesSaid : Prop := intervalRangesRow.holds Try.pinned (OpenSpec.ofChange intervalRangesSpec)

/-- ITS FALSE NEIGHBOUR: 'it returns false'. Refute it at one input. -/
def intervalRangesWrong : ChangeSpec := { name := "intervalRanges", fn := fun _ => fun
  | [d1, d2, d3] => { results := [.lit (.bool false)], args := [d1, d2, d3] }
  | _ => none }
def IntervalRangesWrongFalsely : Prop := intervalRangesRow.holds Try.pinned (OpenSpec.ofChange intervalRangesWrong)

/-- 'quotalaw01.IntervalTurns': WHATEVER THE INPUT: true; the input reads as it did. -/
def intervalTurnsSpec : ChangeSpec := { name := "intervalTurns", fn := fun _ => fun
  | [d1, d2] => { results := [.lit (.bool true)], args := [d1, d2] }
  | _ => none }
def intervalTurnsRow : OpenClaim := { program := "ytfeanjnjcdmhcaa", sum := "803546361c2e7e6567840355c742cc095b17454f5228ed02fb23d417e030d45b", func := "quota/quotalaw01.IntervalTurns", spec := "intervalTurns", inPlace := ["math/bits.Add64", "math/bits.Sub64"], apart := false }
def IntervalTurnsSaid : Prop := intervalTurnsRow.holds Try.pinned (OpenSpec.ofChange intervalTurnsSpec)

/-- ITS FALSE NEIGHBOUR: 'it returns false'. Refute it at one input. -/
def intervalTurnsWrong : ChangeSpec := { name := "intervalTurns", fn := fun _ => fun
  | [d1, d2] => { results := [.lit (.bool false)], args := [d1, d2] }
  | _ => none }
def IntervalTurnsWrongFalsely : Prop := intervalTurnsRow.holds Try.pinned (OpenSpec.ofChange intervalTurnsWrong)

/- THE SECOND FORM. 'bulk': how many values and letters a reading holds, each counted each time it is reached (what is shared counts as often as it is met; a slice's spare places count too). A statement '..UptoSaid' is the law's where the arguments, and the package variables that the reading takes, are together of bulk at most 1048576: NARROWER than '..Said'. Prove '..Said' where nothing that the law and all that it calls make is longer than what came in: it says more and counts as full. Else prove '..UptoSaid'. A law counts once. -/
mutual
def uptoBulk {H : Type} : DataW H → Nat
  | .lit (.string bytes) => bytes.length + 1
  | .lit _ => 1
  | .nil => 1
  | .ptr d => uptoBulk d + 1
  | .slice elems spare => uptoBulkAll elems + uptoBulkAll spare + 1
  | .agg parts => uptoBulkAll parts + 1
  | .iface _ d => uptoBulk d + 1
  | .map entries => uptoBulkEntries entries + 1
  | .held _ => 1
def uptoBulkAll {H : Type} : List (DataW H) → Nat
  | [] => 0
  | d :: r => uptoBulk d + uptoBulkAll r
def uptoBulkEntries {H : Type} : List (Lit × DataW H) → Nat
  | [] => 0
  | x :: r => uptoBulkEntry x + uptoBulkEntries r
def uptoBulkEntry {H : Type} : Lit × DataW H → Nat
  | (.string bytes, d) => bytes.length + uptoBulk d + 1
  | (_, d) => uptoBulk d + 1
 end
def uptoSmall : (H : Type) → List (DataW H) → Bool := fun _ ds => decide (uptoBulkAll ds ≤ 1048576)
def OpenSpec.upto (s : _root_.Go.ChangeSpec) : _root_.Go.OpenSpec := { _root_.Go.OpenSpec.ofChange s with cond := some uptoSmall }

/-- 'quotalaw01.IntervalNames', WHERE WHAT IT READS IS OF BULK AT MOST 1048576: true; the input reads as it did. -/
def intervalNamesUptoRow : OpenClaim := { program := "ytfeanjnjcdmhcaa", sum := "803546361c2e7e6567840355c742cc095b17454f5228ed02fb23d417e030d45b", func := "quota/quotalaw01.IntervalNames", spec := "intervalNames", inPlace := ["math/bits.Add64", "math/bits.Sub64"], apart := false, narrowed := true }
def IntervalNamesUptoSaid : Prop := intervalNamesUptoRow.holds Try.pinned (OpenSpec.upto intervalNamesSpec)

/-- 'quotalaw01.IntervalExact', WHERE WHAT IT READS IS OF BULK AT MOST 1048576: true; the input reads as it did. -/
def intervalExactUptoRow : OpenClaim := { program := "ytfeanjnjcdmhcaa", sum := "803546361c2e7e6567840355c742cc095b17454f5228ed02fb23d417e030d45b", func := "quota/quotalaw01.IntervalExact", spec := "intervalExact", inPlace := ["math/bits.Add64", "math/bits.Sub64"], apart := false, narrowed := true }
def IntervalExactUptoSaid : Prop := intervalExactUptoRow.holds Try.pinned (OpenSpec.upto intervalExactSpec)

/-- 'quotalaw01.IntervalSums', WHERE WHAT IT READS IS OF BULK AT MOST 1048576: true; the input reads as it did. -/
def intervalSumsUptoRow : OpenClaim := { program := "ytfeanjnjcdmhcaa", sum := "803546361c2e7e6567840355c742cc095b17454f5228ed02fb23d417e030d45b", func := "quota/quotalaw01.IntervalSums", spec := "intervalSums", inPlace := ["math/bits.Add64", "math/bits.Sub64"], apart := false, narrowed := true }
def IntervalSumsUptoSaid : Prop := intervalSumsUptoRow.holds Try.pinned (OpenSpec.upto intervalSumsSpec)

/-- 'quotalaw01.IntervalOutcomes', WHERE WHAT IT READS IS OF BULK AT MOST 1048576: true; the input reads as it did. -/
def intervalOutcomesUptoRow : OpenClaim := { program := "ytfeanjnjcdmhcaa", sum := "803546361c2e7e6567840355c742cc095b17454f5228ed02fb23d417e030d45b", func := "quota/quotalaw01.IntervalOutcomes", spec := "intervalOutcomes", inPlace := ["math/bits.Add64", "math/bits.Sub64"], apart := false, narrowed := true }
def IntervalOutcomesUptoSaid : Prop := intervalOutcomesUptoRow.holds Try.pinned (OpenSpec.upto intervalOutcomesSpec)

/-- 'quotalaw01.IntervalRanges', WHERE WHAT IT READS IS OF BULK AT MOST 1048576: true; the input reads as it did. -/
def intervalRangesUptoRow : OpenClaim := { program := "ytfeanjnjcdmhcaa", sum := "803546361c2e7e6567840355c742cc095b17454f5228ed02fb23d417e030d45b", func := "quota/quotalaw01.IntervalRanges", spec := "intervalRanges", inPlace := ["math/bits.Add64", "math/bits.Sub64"], apart := false, narrowed := true }
def IntervalRangesUptoSaid : Prop := intervalRangesUptoRow.holds Try.pinned (OpenSpec.upto intervalRangesSpec)

/-- 'quotalaw01.IntervalTurns', WHERE WHAT IT READS IS OF BULK AT MOST 1048576: true; the input reads as it did. -/
def intervalTurnsUptoRow : OpenClaim := { program := "ytfeanjnjcdmhcaa", sum := "803546361c2e7e6567840355c742cc095b17454f5228ed02fb23d417e030d45b", func := "quota/quotalaw01.IntervalTurns", spec := "intervalTurns", inPlace := ["math/bits.Add64", "math/bits.Sub64"], apart := false, narrowed := true }
def IntervalTurnsUptoSaid : Prop := intervalTurnsUptoRow.holds Try.pinned (OpenSpec.upto intervalTurnsSpec)

end Rows
end Go.Proofs.Ytfeanjnjcdmhcaa
