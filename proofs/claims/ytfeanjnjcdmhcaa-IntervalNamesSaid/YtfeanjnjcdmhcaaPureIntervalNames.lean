/- IntervalNames: the awake calls answer as the document fixes them. No conditions. -/
import Derived.Test.YtfeanjnjcdmhcaaBase
namespace Go.Proofs.Ytfeanjnjcdmhcaa.Pure
set_option linter.unusedSimpArgs false
set_option linter.unusedVariables false
open Go.RowKit Go.Proofs.Ytfeanjnjcdmhcaa.Q Go.Proofs.Ytfeanjnjcdmhcaa.Base

theorem IntervalNames : quotalaw01_IntervalNames.Pure := by
  refine ⟨10, ?_⟩
  unfold quotalaw01_IntervalNames.f
  rw [awake_ans 10 (by omega)]
  rfl
end Go.Proofs.Ytfeanjnjcdmhcaa.Pure
