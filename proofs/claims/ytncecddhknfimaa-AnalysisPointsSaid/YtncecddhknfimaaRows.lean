/-
  No cell of these rows narrows 'for every input' (looked for: loops, veiled, ifaces, maps, wideKeys, modest, calm, conditions, laid).
  DERIVED. THE GIVEN ROWS OF THIS SEAT. 3 by the template 'for every input the law returns true; each argument reads behind the call as it read before'; 0 by the template 'total and deterministic' (their statements: YtncecddhknfimaaTotals.lean).
  GIVEN WITH THE SEED: the statements are not yours to turn. If you find one false, say at which input.
  Laid BY PROGRAM, IN A SANDBOX (cutbox-rows.mjs): the forced cells as the released guide's own fill.sh prints them over the translation 2dbe3b14c38b4ce2… (all of the seat's roots in one cut). By AI agents, Wed Nov 11 2026. No macro, syntax, notation, axiom, sorry.
-/
import Derived.Test.YtncecddhknfimaaChecked
import GoSem.Claim
import GoSem.ClaimJoined
import GoSem.ClaimMapViews
import Derived.JoinedTies
import Derived.KernelRfl
namespace Go.Proofs.Ytncecddhknfimaa
/- THE CELL 'sum', in the pinned program and in every row, IS THE sha256 OF THE DUMP (.gsa) THAT YtncecddhknfimaaProg.lean LOADS. Nothing in Lean hashes anything: it is a label: what it is worth is what the hold of that sum in a sandbox is worth. -/
noncomputable def Try.pinned : Pinned := { name := "ytncecddhknfimaa", sum := "2dbe3b14c38b4ce2afaeaa9314fd57f9625b05c199f2f3ee912810052c848132", checked := Try.checked }
namespace Rows
def none {H : Type} : Left H := { results := [], args := [] }

/-- 'quotalaw17.AnalysisExact': WHATEVER THE INPUT: true; the input reads as it did. -/
def analysisExactSpec : ChangeSpec := { name := "analysisExact", fn := fun _ => fun
  | [d1, d2] => { results := [.lit (.bool true)], args := [d1, d2] }
  | _ => none }
def analysisExactRow : OpenClaim := { program := "ytncecddhknfimaa", sum := "2dbe3b14c38b4ce2afaeaa9314fd57f9625b05c199f2f3ee912810052c848132", func := "quota/quotalaw17.AnalysisExact", spec := "analysisExact", unfollowed := true, recurses := true, apart := false }
def AnalysisExactSaid : Prop := analysisExactRow.holds Try.pinned (OpenSpec.ofChange analysisExactSpec)

/-- ITS FALSE NEIGHBOUR: 'it returns false'. Refute it at one input. -/
def analysisExactWrong : ChangeSpec := { name := "analysisExact", fn := fun _ => fun
  | [d1, d2] => { results := [.lit (.bool false)], args := [d1, d2] }
  | _ => none }
def AnalysisExactWrongFalsely : Prop := analysisExactRow.holds Try.pinned (OpenSpec.ofChange analysisExactWrong)

/-- 'quotalaw17.AnalysisPoints': WHATEVER THE INPUT: true; the input reads as it did. -/
def analysisPointsSpec : ChangeSpec := { name := "analysisPoints", fn := fun _ => fun
  | [d] => { results := [.lit (.bool true)], args := [d] }
  | _ => none }
def analysisPointsRow : OpenClaim := { program := "ytncecddhknfimaa", sum := "2dbe3b14c38b4ce2afaeaa9314fd57f9625b05c199f2f3ee912810052c848132", func := "quota/quotalaw17.AnalysisPoints", spec := "analysisPoints", unfollowed := true, recurses := true, apart := false }
def AnalysisPointsSaid : Prop := analysisPointsRow.holds Try.pinned (OpenSpec.ofChange analysisPointsSpec)

/-- ITS FALSE NEIGHBOUR: 'it returns false'. Refute it at one input. -/
def analysisPointsWrong : ChangeSpec := { name := "analysisPoints", fn := fun _ => fun
  | [d] => { results := [.lit (.bool false)], args := [d] }
  | _ => none }
def AnalysisPointsWrongFalsely : Prop := analysisPointsRow.holds Try.pinned (OpenSpec.ofChange analysisPointsWrong)

/-- 'quotalaw17.AnalysisGrows': WHATEVER THE INPUT: true; the input reads as it did. -/
def analysisGrowsSpec : ChangeSpec := { name := "analysisGrows", fn := fun _ => fun
  | [d1, d2] => { results := [.lit (.bool true)], args := [d1, d2] }
  | _ => none }
def analysisGrowsRow : OpenClaim := { program := "ytncecddhknfimaa", sum := "2dbe3b14c38b4ce2afaeaa9314fd57f9625b05c199f2f3ee912810052c848132", func := "quota/quotalaw17.AnalysisGrows", spec := "analysisGrows", unfollowed := true, recurses := true, apart := false }
def AnalysisGrowsSaid : Prop := analysisGrowsRow.holds Try.pinned (OpenSpec.ofChange analysisGrowsSpec)

/-- ITS FALSE NEIGHBOUR: 'it returns false'. Refute it at one input. -/
def analysisGrowsWrong : ChangeSpec := { name := "analysisGrows", fn := fun _ => fun
  | [d1, d2] => { results := [.lit (.bool false)], args := [d1, d2] }
  | _ => none }
def AnalysisGrowsWrongFalsely : Prop := analysisGrowsRow.holds Try.pinned (OpenSpec.ofChange analysisGrowsWrong)

/- THE SECOND FORM. 'bulk': how many values and letters a reading holds, each counted each time it is reached (what is shared counts as often as it is met; a slice's spare places count too). A statement '..UptoSaid' is the law's where the arguments, and the package variables that the reading takes, are together of bulk at most 1048576: NARROWER than '..Said'. Prove '..Said' where nothing that the law and all that it calls make is longer than what came in: it says more and counts as full. Else prove '..UptoSaid'. A law counts once. -/
mutual
def uptoBulk {H : Type} : DataW H → Nat
  | .lit (.string bytes) => bytes.length + 1
  | .lit _ => 1
  | .nil => 1
  | .ptr d => uptoBulk d + 1
  | .slice elems spare => uptoBulkAll elems + uptoBulkAll spare + 1
  | .agg parts => uptoBulkAll parts + 1
  | .iface _ d => uptoBulk d + 1
  | .map entries => uptoBulkEntries entries + 1
  | .held _ => 1
def uptoBulkAll {H : Type} : List (DataW H) → Nat
  | [] => 0
  | d :: r => uptoBulk d + uptoBulkAll r
def uptoBulkEntries {H : Type} : List (Lit × DataW H) → Nat
  | [] => 0
  | x :: r => uptoBulkEntry x + uptoBulkEntries r
def uptoBulkEntry {H : Type} : Lit × DataW H → Nat
  | (.string bytes, d) => bytes.length + uptoBulk d + 1
  | (_, d) => uptoBulk d + 1
 end
def uptoSmall : (H : Type) → List (DataW H) → Bool := fun _ ds => decide (uptoBulkAll ds ≤ 1048576)
def OpenSpec.upto (s : _root_.Go.ChangeSpec) : _root_.Go.OpenSpec := { _root_.Go.OpenSpec.ofChange s with cond := some uptoSmall }

/-- 'quotalaw17.AnalysisExact', WHERE WHAT IT READS IS OF BULK AT MOST 1048576: true; the input reads as it did. -/
def analysisExactUptoRow : OpenClaim := { program := "ytncecddhknfimaa", sum := "2dbe3b14c38b4ce2afaeaa9314fd57f9625b05c199f2f3ee912810052c848132", func := "quota/quotalaw17.AnalysisExact", spec := "analysisExact", unfollowed := true, recurses := true, apart := false, narrowed := true }
def AnalysisExactUptoSaid : Prop := analysisExactUptoRow.holds Try.pinned (OpenSpec.upto analysisExactSpec)

/-- 'quotalaw17.AnalysisPoints', WHERE WHAT IT READS IS OF BULK AT MOST 1048576: true; the input reads as it did. -/
def analysisPointsUptoRow : OpenClaim := { program := "ytncecddhknfimaa", sum := "2dbe3b14c38b4ce2afaeaa9314fd57f9625b05c199f2f3ee912810052c848132", func := "quota/quotalaw17.AnalysisPoints", spec := "analysisPoints", unfollowed := true, recurses := true, apart := false, narrowed := true }
def AnalysisPointsUptoSaid : Prop := analysisPointsUptoRow.holds Try.pinned (OpenSpec.upto analysisPointsSpec)

/-- 'quotalaw17.AnalysisGrows', WHERE WHAT IT READS IS OF BULK AT MOST 1048576: true; the input reads as it did. -/
def analysisGrowsUptoRow : OpenClaim := { program := "ytncecddhknfimaa", sum := "2dbe3b14c38b4ce2afaeaa9314fd57f9625b05c199f2f3ee912810052c848132", func := "quota/quotalaw17.AnalysisGrows", spec := "analysisGrows", unfollowed := true, recurses := true, apart := false, narrowed := true }
def AnalysisGrowsUptoSaid : Prop := analysisGrowsUptoRow.holds Try.pinned (OpenSpec.upto analysisGrowsSpec)

end Rows
end Go.Proofs.Ytncecddhknfimaa
