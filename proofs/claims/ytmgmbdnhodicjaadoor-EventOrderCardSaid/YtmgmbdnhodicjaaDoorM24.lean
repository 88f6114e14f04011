/- EventOrder: closed events are in order, and one made behind them is closed with them. Of any arguments. Part 24 of 38; no condition. -/
import Derived.Test.YtmgmbdnhodicjaaDoorM23
set_option linter.unusedVariables false
set_option linter.unusedSimpArgs false
section
namespace Go.Proofs.YtmgmbdnhodicjaaDoor
open Go Go.Am Go.Pm
set_option maxHeartbeats 1000000
set_option maxRecDepth 100000
def bitTab : List UInt8 := [0, 1, 2, 2, 3, 3, 3, 3, 4, 4, 4, 4, 4, 4, 4, 4, 5, 5, 5, 5, 5, 5, 5, 5, 5, 5, 5, 5, 5, 5, 5, 5] ++ List.replicate 32 6 ++ List.replicate 64 7 ++ List.replicate 128 8
def l8 (n : Nat) : Nat := (bitTab.getD n 0).toNat
def l16 (n : Nat) : Nat := if 256 ≤ n then 8 + l8 (n / 256) else l8 n
def l32 (n : Nat) : Nat := if 65536 ≤ n then 16 + l16 (n / 65536) else l16 n
theorem w0 : (0 : Int) = ((0 : Nat) : Int) := rfl
def formB (n : Nat) : Nat → List UInt8
  | 0 => []
  | i + 1 => UInt8.ofNat (n / 2 ^ min (8 * i) 64 % 256) :: formB n i
def many (n : Nat) : Nat := (l32 n + 7) / 8
def form (n : Nat) : List UInt8 := UInt8.ofNat (many n) :: formB n (many n)
end Go.Proofs.YtmgmbdnhodicjaaDoor
end
