/- What the machine looks up: slices.Insert kept apart. Plain definitions; no condition. -/
import Derived.Test.YtdnghlgepoilpabGreatDoorEnv
import Derived.Test.YtdnghlgepoilpabGreatDoorInsW22
namespace Go.Proofs.YtdnghlgepoilpabGreatDoor
open Go Go.Am

noncomputable def envI22 : Env := env.withIns 22 22 4 56
theorem sureI22 : Sure envI22 Tryz.prog := sure0.ins Ins22.insFn (by kernel_rfl)
noncomputable def envB : Env := envI22
theorem sureB : Sure envB Tryz.prog := sureI22
end Go.Proofs.YtdnghlgepoilpabGreatDoor