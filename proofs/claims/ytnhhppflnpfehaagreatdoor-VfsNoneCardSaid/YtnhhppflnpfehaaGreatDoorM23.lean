/- VfsNone: the law returns true, of all arguments of its types, in whatever memory. Part 23 of 29; no condition. -/
import Derived.Test.YtnhhppflnpfehaaGreatDoorM22
section
/- What the machine looks up: slices.Insert kept apart. Plain definitions; no condition. -/
namespace Go.Proofs.YtnhhppflnpfehaaGreatDoor
open Go Go.Am

noncomputable def envI60 : Env := env.withIns 60 31 4 56
theorem sureI60 : Sure envI60 Tryz.prog := sure0.ins Ins60.insFn (by kernel_rfl)
noncomputable def envD36 : Env := envI60.withDel 36 1000000 1000
theorem sureD36 : Sure envD36 Tryz.prog := sureI60.del 1000000 1000 Del36.fn (by kernel_rfl)
noncomputable def envB : Env := envD36
theorem sureB : Sure envB Tryz.prog := sureD36
end Go.Proofs.YtnhhppflnpfehaaGreatDoor
end
