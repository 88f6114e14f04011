/- ShelfJoins holds. Part 23 of 32; no condition. -/
import Derived.Test.YtlbjplpehkgcdaaGreatDoorM22
set_option linter.unusedVariables false
set_option linter.unusedSimpArgs false
noncomputable section
namespace Go.Proofs.YtlbjplpehkgcdaaGreatDoor
open Go Go.Am
def envI64 : Env := env.withIns 64 22 7 96
theorem sureI64 : Sure envI64 Tryz.prog := sure0.ins Ins64.insFn (by kernel_rfl)
def envB : Env := envI64
theorem sureB : Sure envB Tryz.prog := sureI64
end Go.Proofs.YtlbjplpehkgcdaaGreatDoor
end