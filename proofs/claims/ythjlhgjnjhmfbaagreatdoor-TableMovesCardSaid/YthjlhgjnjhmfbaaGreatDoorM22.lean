/- TableMoves holds. Part 22 of 29; no condition. -/
import Derived.Test.YthjlhgjnjhmfbaaGreatDoorM21
set_option linter.unusedVariables false
set_option linter.unusedSimpArgs false
noncomputable section
namespace Go.Proofs.YthjlhgjnjhmfbaaGreatDoor
open Go Go.Am
def envI44 : Env := env.withIns 44 22 4 56
theorem sureI44 : Sure envI44 Tryz.prog := sure0.ins Ins44.insFn (by kernel_rfl)
def envB : Env := envI44
theorem sureB : Sure envB Tryz.prog := sureI44
end Go.Proofs.YthjlhgjnjhmfbaaGreatDoor
end