/-
  No cell of these rows narrows 'for every input' (looked for: loops, veiled, ifaces, maps, wideKeys, modest, calm, conditions, laid).
  DERIVED. THE GIVEN ROWS OF THIS SEAT. 6 by the template 'for every input the law returns true; each argument reads behind the call as it read before'; 0 by the template 'total and deterministic' (their statements: YtljimnhijpcjaaaTotals.lean).
  GIVEN WITH THE SEED: the statements are not yours to turn. If you find one false, say at which input.
  Laid BY PROGRAM, IN A SANDBOX (cutbox-rows.mjs): the forced cells as the released guide's own fill.sh prints them over the translation 1053e31cb59cc125… (all of the seat's roots in one cut). By AI agents, Wed Nov 11 2026. No macro, syntax, notation, axiom, sorry.
-/
import Derived.Test.YtljimnhijpcjaaaChecked
import GoSem.Claim
import GoSem.ClaimJoined
import GoSem.ClaimMapViews
import Derived.JoinedTies
import Derived.KernelRfl
namespace Go.Proofs.Ytljimnhijpcjaaa
/- THE CELL 'sum', in the pinned program and in every row, IS THE sha256 OF THE DUMP (.gsa) THAT YtljimnhijpcjaaaProg.lean LOADS. Nothing in Lean hashes anything: it is a label: what it is worth is what the hold of that sum in a sandbox is worth. -/
noncomputable def Try.pinned : Pinned := { name := "ytljimnhijpcjaaa", sum := "1053e31cb59cc12569c199c912932640fc09b37d5b88a3ca1df5567962a763e2", checked := Try.checked }
namespace Rows
def none {H : Type} : Left H := { results := [], args := [] }

/-- 'quotalaw10.EscrowNews': WHATEVER THE INPUT: true; the input reads as it did. -/
def escrowNewsSpec : ChangeSpec := { name := "escrowNews", fn := fun _ => fun
  | [d1, d2, d3] => { results := [.lit (.bool true)], args := [d1, d2, d3] }
  | _ => none }
def escrowNewsRow : OpenClaim := { program := "ytljimnhijpcjaaa", sum := "1053e31cb59cc12569c199c912932640fc09b37d5b88a3ca1df5567962a763e2", func := "quota/quotalaw10.EscrowNews", spec := "escrowNews", inPlace := ["math/bits.Add64", "maps.clone"], unfollowed := true, recurses := true, apart := false }
def EscrowNewsSaid : Prop := escrowNewsRow.holds Try.pinned (OpenSpec.ofChange escrowNewsSpec)

/-- ITS FALSE NEIGHBOUR: 'it returns false'. Refute it at one input. -/
def escrowNewsWrong : ChangeSpec := { name := "escrowNews", fn := fun _ => fun
  | [d1, d2, d3] => { results := [.lit (.bool false)], args := [d1, d2, d3] }
  | _ => none }
def EscrowNewsWrongFalsely : Prop := escrowNewsRow.holds Try.pinned (OpenSpec.ofChange escrowNewsWrong)

/-- 'quotalaw10.EscrowPlays': WHATEVER THE INPUT: true; the input reads as it did. -/
def escrowPlaysSpec : ChangeSpec := { name := "escrowPlays", fn := fun _ => fun
  | [d1, d2, d3] => { results := [.lit (.bool true)], args := [d1, d2, d3] }
  | _ => none }
def escrowPlaysRow : OpenClaim := { program := "ytljimnhijpcjaaa", sum := "1053e31cb59cc12569c199c912932640fc09b37d5b88a3ca1df5567962a763e2", func := "quota/quotalaw10.EscrowPlays", spec := "escrowPlays", inPlace := ["math/bits.Add64", "maps.clone"], unfollowed := true, recurses := true, apart := false }
def EscrowPlaysSaid : Prop := escrowPlaysRow.holds Try.pinned (OpenSpec.ofChange escrowPlaysSpec)

/-- ITS FALSE NEIGHBOUR: 'it returns false'. Refute it at one input. -/
def escrowPlaysWrong : ChangeSpec := { name := "escrowPlays", fn := fun _ => fun
  | [d1, d2, d3] => { results := [.lit (.bool false)], args := [d1, d2, d3] }
  | _ => none }
def EscrowPlaysWrongFalsely : Prop := escrowPlaysRow.holds Try.pinned (OpenSpec.ofChange escrowPlaysWrong)

/-- 'quotalaw10.EscrowOutcomes': WHATEVER THE INPUT: true; the input reads as it did. -/
def escrowOutcomesSpec : ChangeSpec := { name := "escrowOutcomes", fn := fun _ => fun
  | [d1, d2, d3] => { results := [.lit (.bool true)], args := [d1, d2, d3] }
  | _ => none }
def escrowOutcomesRow : OpenClaim := { program := "ytljimnhijpcjaaa", sum := "1053e31cb59cc12569c199c912932640fc09b37d5b88a3ca1df5567962a763e2", func := "quota/quotalaw10.EscrowOutcomes", spec := "escrowOutcomes", inPlace := ["math/bits.Add64", "maps.clone"], unfollowed := true, recurses := true, apart := false }
def EscrowOutcomesSaid : Prop := escrowOutcomesRow.holds Try.pinned (OpenSpec.ofChange escrowOutcomesSpec)

/-- ITS FALSE NEIGHBOUR: 'it returns false'. Refute it at one input. -/
def escrowOutcomesWrong : ChangeSpec := { name := "escrowOutcomes", fn := fun _ => fun
  | [d1, d2, d3] => { results := [.lit (.bool false)], args := [d1, d2, d3] }
  | _ => none }
def EscrowOutcomesWrongFalsely : Prop := escrowOutcomesRow.holds Try.pinned (OpenSpec.ofChange escrowOutcomesWrong)

/-- 'quotalaw10.EscrowReasons': WHATEVER THE INPUT: true; the input reads as it did. -/
def escrowReasonsSpec : ChangeSpec := { name := "escrowReasons", fn := fun _ => fun
  | [d1, d2, d3, d4, d5] => { results := [.lit (.bool true)], args := [d1, d2, d3, d4, d5] }
  | _ => none }
def escrowReasonsRow : OpenClaim := { program := "ytljimnhijpcjaaa", sum := "1053e31cb59cc12569c199c912932640fc09b37d5b88a3ca1df5567962a763e2", func := "quota/quotalaw10.EscrowReasons", spec := "escrowReasons", inPlace := ["math/bits.Add64", "maps.clone"], unfollowed := true, recurses := true, apart := false }
def EscrowReasonsSaid : Prop := escrowReasonsRow.holds Try.pinned (OpenSpec.ofChange escrowReasonsSpec)

/-- ITS FALSE NEIGHBOUR: 'it returns false'. Refute it at one input. -/
def escrowReasonsWrong : ChangeSpec := { name := "escrowReasons", fn := fun _ => fun
  | [d1, d2, d3, d4, d5] => { results := [.lit (.bool false)], args := [d1, d2, d3, d4, d5] }
  | _ => none }
def EscrowReasonsWrongFalsely : Prop := escrowReasonsRow.holds Try.pinned (OpenSpec.ofChange escrowReasonsWrong)

/-- 'quotalaw10.EscrowOrder': WHATEVER THE INPUT: true; the input reads as it did. -/
def escrowOrderSpec : ChangeSpec := { name := "escrowOrder", fn := fun _ => fun
  | [d1, d2, d3, d4, d5] => { results := [.lit (.bool true)], args := [d1, d2, d3, d4, d5] }
  | _ => none }
def escrowOrderRow : OpenClaim := { program := "ytljimnhijpcjaaa", sum := "1053e31cb59cc12569c199c912932640fc09b37d5b88a3ca1df5567962a763e2", func := "quota/quotalaw10.EscrowOrder", spec := "escrowOrder", inPlace := ["math/bits.Add64", "maps.clone"], unfollowed := true, recurses := true, apart := false }
def EscrowOrderSaid : Prop := escrowOrderRow.holds Try.pinned (OpenSpec.ofChange escrowOrderSpec)

/-- ITS FALSE NEIGHBOUR: 'it returns false'. Refute it at one input. -/
def escrowOrderWrong : ChangeSpec := { name := "escrowOrder", fn := fun _ => fun
  | [d1, d2, d3, d4, d5] => { results := [.lit (.bool false)], args := [d1, d2, d3, d4, d5] }
  | _ => none }
def EscrowOrderWrongFalsely : Prop := escrowOrderRow.holds Try.pinned (OpenSpec.ofChange escrowOrderWrong)

/-- 'quotalaw10.EscrowOwn': WHATEVER THE INPUT: true; the input reads as it did. -/
def escrowOwnSpec : ChangeSpec := { name := "escrowOwn", fn := fun _ => fun
  | [d1, d2, d3] => { results := [.lit (.bool true)], args := [d1, d2, d3] }
  | _ => none }
def escrowOwnRow : OpenClaim := { program := "ytljimnhijpcjaaa", sum := "1053e31cb59cc12569c199c912932640fc09b37d5b88a3ca1df5567962a763e2", func := "quota/quotalaw10.EscrowOwn", spec := "escrowOwn", inPlace := ["math/bits.Add64", "maps.clone"], unfollowed := true, recurses := true, apart := false }
def EscrowOwnSaid : Prop := escrowOwnRow.holds Try.pinned (OpenSpec.ofChange escrowOwnSpec)

/-- ITS FALSE NEIGHBOUR: 'it returns false'. Refute it at one input. -/
def escrowOwnWrong : ChangeSpec := { name := "escrowOwn", fn := fun _ => fun
  | [d1, d2, d3] => { results := [.lit (.bool false)], args := [d1, d2, d3] }
  | _ => none }
def EscrowOwnWrongFalsely : Prop := escrowOwnRow.holds Try.pinned (OpenSpec.ofChange escrowOwnWrong)

/- THE SECOND FORM. 'bulk': how many values and letters a reading holds, each counted each time it is reached (what is shared counts as often as it is met; a slice's spare places count too). A statement '..UptoSaid' is the law's where the arguments, and the package variables that the reading takes, are together of bulk at most 1048576: NARROWER than '..Said'. Prove '..Said' where nothing that the law and all that it calls make is longer than what came in: it says more and counts as full. Else prove '..UptoSaid'. A law counts once. -/
mutual
def uptoBulk {H : Type} : DataW H → Nat
  | .lit (.string bytes) => bytes.length + 1
  | .lit _ => 1
  | .nil => 1
  | .ptr d => uptoBulk d + 1
  | .slice elems spare => uptoBulkAll elems + uptoBulkAll spare + 1
  | .agg parts => uptoBulkAll parts + 1
  | .iface _ d => uptoBulk d + 1
  | .map entries => uptoBulkEntries entries + 1
  | .held _ => 1
def uptoBulkAll {H : Type} : List (DataW H) → Nat
  | [] => 0
  | d :: r => uptoBulk d + uptoBulkAll r
def uptoBulkEntries {H : Type} : List (Lit × DataW H) → Nat
  | [] => 0
  | x :: r => uptoBulkEntry x + uptoBulkEntries r
def uptoBulkEntry {H : Type} : Lit × DataW H → Nat
  | (.string bytes, d) => bytes.length + uptoBulk d + 1
  | (_, d) => uptoBulk d + 1
 end
def uptoSmall : (H : Type) → List (DataW H) → Bool := fun _ ds => decide (uptoBulkAll ds ≤ 1048576)
def OpenSpec.upto (s : _root_.Go.ChangeSpec) : _root_.Go.OpenSpec := { _root_.Go.OpenSpec.ofChange s with cond := some uptoSmall }

/-- 'quotalaw10.EscrowNews', WHERE WHAT IT READS IS OF BULK AT MOST 1048576: true; the input reads as it did. -/
def escrowNewsUptoRow : OpenClaim := { program := "ytljimnhijpcjaaa", sum := "1053e31cb59cc12569c199c912932640fc09b37d5b88a3ca1df5567962a763e2", func := "quota/quotalaw10.EscrowNews", spec := "escrowNews", inPlace := ["math/bits.Add64", "maps.clone"], unfollowed := true, recurses := true, apart := false, narrowed := true }
def EscrowNewsUptoSaid : Prop := escrowNewsUptoRow.holds Try.pinned (OpenSpec.upto escrowNewsSpec)

/-- 'quotalaw10.EscrowPlays', WHERE WHAT IT READS IS OF BULK AT MOST 1048576: true; the input reads as it did. -/
def escrowPlaysUptoRow : OpenClaim := { program := "ytljimnhijpcjaaa", sum := "1053e31cb59cc12569c199c912932640fc09b37d5b88a3ca1df5567962a763e2", func := "quota/quotalaw10.EscrowPlays", spec := "escrowPlays", inPlace := ["math/bits.Add64", "maps.clone"], unfollowed := true, recurses := true, apart := false, narrowed := true }
def EscrowPlaysUptoSaid : Prop := escrowPlaysUptoRow.holds Try.pinned (OpenSpec.upto escrowPlaysSpec)

/-- 'quotalaw10.EscrowOutcomes', WHERE WHAT IT READS IS OF BULK AT MOST 1048576: true; the input reads as it did. -/
def escrowOutcomesUptoRow : OpenClaim := { program := "ytljimnhijpcjaaa", sum := "1053e31cb59cc12569c199c912932640fc09b37d5b88a3ca1df5567962a763e2", func := "quota/quotalaw10.EscrowOutcomes", spec := "escrowOutcomes", inPlace := ["math/bits.Add64", "maps.clone"], unfollowed := true, recurses := true, apart := false, narrowed := true }
def EscrowOutcomesUptoSaid : Prop := escrowOutcomesUptoRow.holds Try.pinned (OpenSpec.upto escrowOutcomesSpec)

/-- 'quotalaw10.EscrowReasons', WHERE WHAT IT READS IS OF BULK AT MOST 1048576: true; the input reads as it did. -/
def escrowReasonsUptoRow : OpenClaim := { program := "ytljimnhijpcjaaa", sum := "1053e31cb59cc12569c199c912932640fc09b37d5b88a3ca1df5567962a763e2", func := "quota/quotalaw10.EscrowReasons", spec := "escrowReasons", inPlace := ["math/bits.Add64", "maps.clone"], unfollowed := true, recurses := true, apart := false, narrowed := true }
def EscrowReasonsUptoSaid : Prop := escrowReasonsUptoRow.holds Try.pinned (OpenSpec.upto escrowReasonsSpec)

/-- 'quotalaw10.EscrowOrder', WHERE WHAT IT READS IS OF BULK AT MOST 1048576: true; the input reads as it did. -/
def escrowOrderUptoRow : OpenClaim := { program := "ytljimnhijpcjaaa", sum := "1053e31cb59cc12569c199c912932640fc09b37d5b88a3ca1df5567962a763e2", func := "quota/quotalaw10.EscrowOrder", spec := "escrowOrder", inPlace := ["math/bits.Add64", "maps.clone"], unfollowed := true, recurses := true, apart := false, narrowed := true }
def EscrowOrderUptoSaid : Prop := escrowOrderUptoRow.holds Try.pinned (OpenSpec.upto escrowOrderSpec)

/-- 'quotalaw10.EscrowOwn', WHERE WHAT IT READS IS OF BULK AT MOST 1048576: true; the input reads as it did. -/
def escrowOwnUptoRow : OpenClaim := { program := "ytljimnhijpcjaaa", sum := "1053e31cb59cc12569c199c912932640fc09b37d5b88a3ca1df5567962a763e2", func := "quota/quotalaw10.EscrowOwn", spec := "escrowOwn", inPlace := ["math/bits.Add64", "maps.clone"], unfollowed := true, recurses := true, apart := false, narrowed := true }
def EscrowOwnUptoSaid : Prop := escrowOwnUptoRow.holds Try.pinned (OpenSpec.upto escrowOwnSpec)

end Rows
end Go.Proofs.Ytljimnhijpcjaaa
