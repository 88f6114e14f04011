/- ShelfOrder holds. Part 23 of 32; no condition. -/
import Derived.Test.YtlbjplpehkgcdaaGreatDoorM22
set_option linter.unusedVariables false
set_option linter.unusedSimpArgs false
noncomputable section
namespace Go.Proofs.YtlbjplpehkgcdaaGreatDoor
open Go Go.Am
def aKQ : i9 := env.withIns 64 22 7 96
theorem aRH : gK aKQ Tryz.prog := bCL.ins Ins64.insFn (by kernel_rfl)
def aUN : i9 := aKQ
theorem jH : gK aUN Tryz.prog := aRH
end Go.Proofs.YtlbjplpehkgcdaaGreatDoor
end