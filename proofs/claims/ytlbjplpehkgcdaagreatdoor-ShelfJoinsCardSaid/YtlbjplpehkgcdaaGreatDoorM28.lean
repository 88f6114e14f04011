/- ShelfJoins holds. Part 28 of 32; no condition. -/
import Derived.Test.YtlbjplpehkgcdaaGreatDoorM27
set_option linter.unusedVariables false
set_option linter.unusedSimpArgs false
set_option maxHeartbeats 4000000
set_option maxRecDepth 100000
namespace Go.Proofs.YtlbjplpehkgcdaaGreatDoor
open Go Go.Am Go.Pm
set_option maxRecDepth 1000000
theorem awake_run7 : isLeaf (.bool true) (runD awake.env1 1000000 1000 7 []) = true := by kernel_rfl
theorem awake_pure7 : PureE Tryz.prog env.ng 7 [] (.bool true) := awake.sure1.pure 1000000 1000 awake_run7
theorem awake7 : PTp env Tryz.prog 7 [] (bv true) := PTp.of_pure env_ok fn7 awake_pure7 rfl
end Go.Proofs.YtlbjplpehkgcdaaGreatDoor