/- EventOrder: closed events are in order, and one made behind them is closed with them. Of any arguments. Part 33 of 38; no condition. -/
import Derived.Test.YtmgmbdnhodicjaaDoorM32
set_option linter.unusedVariables false
set_option linter.unusedSimpArgs false
section
namespace Go.Proofs.YtmgmbdnhodicjaaDoor
open Go Go.Am Go.Pm
set_option maxHeartbeats 1000000
set_option maxRecDepth 100000
def evFit (e : Ev) : Prop := e.bytes.length ≤ 1000000 ∧ e.past.length ≤ 1000000
end Go.Proofs.YtmgmbdnhodicjaaDoor
end
