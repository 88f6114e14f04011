/- What the machine looks up: slices.Insert kept apart. Plain definitions; no condition. -/
import Derived.Test.YtdnghlgepoilpaaGreatDoorEnv
import Derived.Test.YtdnghlgepoilpaaGreatDoorInsW40
namespace Go.Proofs.YtdnghlgepoilpaaGreatDoor
open Go Go.Am

noncomputable def envI40 : Env := env.withIns 40 22 7 96
theorem sureI40 : Sure envI40 Tryz.prog := sure0.ins Ins40.insFn (by kernel_rfl)
noncomputable def envB : Env := envI40
theorem sureB : Sure envB Tryz.prog := sureI40
end Go.Proofs.YtdnghlgepoilpaaGreatDoor