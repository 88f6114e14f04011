/- What the machine looks up: slices.Insert kept apart. Plain definitions; no condition. -/
import Derived.Test.YtnhhppflnpfehacGreatDoorEnv
import Derived.Test.YtnhhppflnpfehacGreatDoorInsW90
import Derived.Test.YtnhhppflnpfehacGreatDoorInsW97
import Derived.Test.YtnhhppflnpfehacGreatDoorDelW49
namespace Go.Proofs.YtnhhppflnpfehacGreatDoor
open Go Go.Am

noncomputable def envI90 : Env := env.withIns 90 35 5 80
theorem sureI90 : Sure envI90 Tryz.prog := sure0.ins Ins90.insFn (by kernel_rfl)
noncomputable def envI97 : Env := envI90.withIns 97 53 4 56
theorem sureI97 : Sure envI97 Tryz.prog := sureI90.ins Ins97.insFn (by kernel_rfl)
noncomputable def envD49 : Env := envI97.withDel 49 1000000 1000
theorem sureD49 : Sure envD49 Tryz.prog := sureI97.del 1000000 1000 Del49.fn (by kernel_rfl)
noncomputable def envB : Env := envD49
theorem sureB : Sure envB Tryz.prog := sureD49
end Go.Proofs.YtnhhppflnpfehacGreatDoor