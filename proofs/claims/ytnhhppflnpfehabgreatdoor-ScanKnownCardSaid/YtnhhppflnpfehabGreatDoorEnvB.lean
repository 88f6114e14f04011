/- What the machine looks up: slices.Insert kept apart. Plain definitions; no condition. -/
import Derived.Test.YtnhhppflnpfehabGreatDoorEnv
import Derived.Test.YtnhhppflnpfehabGreatDoorInsW102
import Derived.Test.YtnhhppflnpfehabGreatDoorInsW110
import Derived.Test.YtnhhppflnpfehabGreatDoorDelW68
namespace Go.Proofs.YtnhhppflnpfehabGreatDoor
open Go Go.Am

noncomputable def envI102 : Env := env.withIns 102 31 5 80
theorem sureI102 : Sure envI102 Tryz.prog := sure0.ins Ins102.insFn (by kernel_rfl)
noncomputable def envI110 : Env := envI102.withIns 110 50 4 56
theorem sureI110 : Sure envI110 Tryz.prog := sureI102.ins Ins110.insFn (by kernel_rfl)
noncomputable def envD68 : Env := envI110.withDel 68 1000000 1000
theorem sureD68 : Sure envD68 Tryz.prog := sureI110.del 1000000 1000 Del68.fn (by kernel_rfl)
noncomputable def envB : Env := envD68
theorem sureB : Sure envB Tryz.prog := sureD68
end Go.Proofs.YtnhhppflnpfehabGreatDoor