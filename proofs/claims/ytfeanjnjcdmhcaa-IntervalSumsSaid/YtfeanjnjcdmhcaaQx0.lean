/- Written by a program of this session's prover: what functions of the program answer, as Lean functions, and that the calls answer so. Conditions: as each theorem states them. -/
import Derived.Test.YtfeanjnjcdmhcaaProg
import Derived.Test.YtfeanjnjcdmhcaaWide
import Derived.Below
import Derived.Deep.Draws
import Derived.Deep.AppendLies
import Derived.Maps.AppendAt
import Derived.OwnWalk
import Derived.Laws.BytesArg
import Derived.Laws.MakeOwn
import Derived.Laws.OwnMore
import Derived.Deep.OwnRows
import Derived.Tactics
import Derived.Lib.ConvBytes
import Derived.Laws.Slices
import Derived.WalkKit
import Derived.KernelRfl
import Derived.RowKit3
import Derived.Deep.LoopGhost
import Derived.Deep.QuietTactic
import Derived.BigQuiet
import Derived.WideLaws
import Derived.Deep.DeepCutAuto
import Derived.Deep.CutBlock
import Derived.Deep.RegionHeld3
import Derived.Laws.Rows
import Derived.Lib.AppendStr
import Derived.ArgAppend
import Derived.Laws.IdiomCopy
import Derived.OrdersHeld
import Derived.Laws.BitsLemmas
import Derived.RowKit
import Derived.Test.YtfeanjnjcdmhcaaWWords
import Derived.Test.YtfeanjnjcdmhcaaWLast
import Derived.Test.YtfeanjnjcdmhcaaWTab
import Derived.Test.YtfeanjnjcdmhcaaWFour
import Derived.Test.YtfeanjnjcdmhcaaWQPut
import Derived.Test.YtfeanjnjcdmhcaaWApart
import Derived.Test.YtfeanjnjcdmhcaaWArr
import Derived.Test.YtfeanjnjcdmhcaaWZeros
import Derived.Test.YtfeanjnjcdmhcaaWFoot
import Derived.Test.YtfeanjnjcdmhcaaWKept
import Derived.Test.YtfeanjnjcdmhcaaWShare
import Derived.Test.YtfeanjnjcdmhcaaWN
import Derived.Test.YtfeanjnjcdmhcaaWFootNe
import Derived.Test.YtfeanjnjcdmhcaaWAt
import Derived.Test.YtfeanjnjcdmhcaaWEqStruct
import Derived.Test.YtfeanjnjcdmhcaaWRepsOne
import Derived.Test.YtfeanjnjcdmhcaaWInv
import Derived.Test.YtfeanjnjcdmhcaaWInvWords
import Derived.Test.YtfeanjnjcdmhcaaWGuard
import Derived.Test.YtfeanjnjcdmhcaaWNEv
import Derived.Test.YtfeanjnjcdmhcaaWMore
namespace Go.Proofs.Ytfeanjnjcdmhcaa.Q
open Go.RowKit Go.Proofs.YtfeanjnjcdmhcaaW.PrintWords Go.Proofs.YtfeanjnjcdmhcaaW.PrintLast Go.Proofs.YtfeanjnjcdmhcaaW.PrintMore
attribute [local go_sem] max2_int min2_int max_two min_two max_three min_three max_four min_four   -- for this text's walks alone
set_option linter.unusedVariables false
set_option linter.unusedSimpArgs false



def errW : Option Int → Value
  | none => .nilIface
  | some c => .iface 0 (.int .i64 c)
theorem errW_none : errW none = .nilIface := rfl
theorem errW_some (c : Int) : errW (some c) = .iface 0 (.int .i64 c) := rfl

theorem info2 : (Try.prog.info? 2).map (fun i => (i.zero, i.size, i.bytes)) = some (some (.int .i64 0), 1, 8) := by kernel_rfl
-- the values' own types

end Go.Proofs.Ytfeanjnjcdmhcaa.Q
