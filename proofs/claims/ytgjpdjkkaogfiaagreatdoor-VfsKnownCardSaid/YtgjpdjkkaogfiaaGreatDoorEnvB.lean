/- What the machine looks up: slices.Insert kept apart. Plain definitions; no condition. -/
import Derived.Test.YtgjpdjkkaogfiaaGreatDoorEnv
import Derived.Test.YtgjpdjkkaogfiaaGreatDoorInsW65
import Derived.Test.YtgjpdjkkaogfiaaGreatDoorDelW35
namespace Go.Proofs.YtgjpdjkkaogfiaaGreatDoor
open Go Go.Am

noncomputable def envI65 : Env := env.withIns 65 37 4 56
theorem sureI65 : Sure envI65 Tryz.prog := sure0.ins Ins65.insFn (by kernel_rfl)
noncomputable def envD35 : Env := envI65.withDel 35 1000000 1000
theorem sureD35 : Sure envD35 Tryz.prog := sureI65.del 1000000 1000 Del35.fn (by kernel_rfl)
noncomputable def envB : Env := envD35
theorem sureB : Sure envB Tryz.prog := sureD35
end Go.Proofs.YtgjpdjkkaogfiaaGreatDoor