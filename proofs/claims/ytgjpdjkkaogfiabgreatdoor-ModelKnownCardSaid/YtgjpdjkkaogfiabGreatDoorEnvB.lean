/- What the machine looks up: slices.Insert kept apart. Plain definitions; no condition. -/
import Derived.Test.YtgjpdjkkaogfiabGreatDoorEnv
import Derived.Test.YtgjpdjkkaogfiabGreatDoorInsW63
import Derived.Test.YtgjpdjkkaogfiabGreatDoorInsW76
namespace Go.Proofs.YtgjpdjkkaogfiabGreatDoor
open Go Go.Am

noncomputable def envI63 : Env := env.withIns 63 22 7 96
theorem sureI63 : Sure envI63 Tryz.prog := sure0.ins Ins63.insFn (by kernel_rfl)
noncomputable def envI76 : Env := envI63.withIns 76 53 5 80
theorem sureI76 : Sure envI76 Tryz.prog := sureI63.ins Ins76.insFn (by kernel_rfl)
noncomputable def envB : Env := envI76
theorem sureB : Sure envB Tryz.prog := sureI76
end Go.Proofs.YtgjpdjkkaogfiabGreatDoor