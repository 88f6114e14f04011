/- TableWalks holds. Part 22 of 29; no condition. -/
import Derived.Test.YtnmidpahhhdlpaaGreatDoorM21
set_option linter.unusedVariables false
set_option linter.unusedSimpArgs false
noncomputable section
namespace Go.Proofs.YtnmidpahhhdlpaaGreatDoor
open Go Go.Am
def aJ2 : d9 := env.withIns 44 22 4 56
theorem aPA : M7 aJ2 Tryz.prog := bBX.ins Ins44.insFn (by kernel_rfl)
def bB6 : d9 := aJ2
theorem tI : M7 bB6 Tryz.prog := aPA
end Go.Proofs.YtnmidpahhhdlpaaGreatDoor
end