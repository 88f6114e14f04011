/- What the machine looks up of this program. Plain definitions; no condition. -/
import Derived.Test.YtgjpdjkkaogfiaaGreatDoorAmE
import Derived.Test.YtgjpdjkkaogfiaaGreatDoorProg
import Derived.KernelRfl
namespace Go.Proofs.YtgjpdjkkaogfiaaGreatDoor
open Go Go.Am

noncomputable def tys : Tr (Option Ty) := tyTable Tryz.prog.types.toList
noncomputable def fns : Tr (Option Fun) := funTable Tryz.prog.globals.size Tryz.prog.funcs.toList
noncomputable def exs (f : Nat) : Option (List Value → Mem → Option (Value × Mem)) :=
  match Nat.beq f 127 with
  | true => some xIndexByteString
  | false =>
    match Nat.beq f 130 with
    | true => some xCountString
    | false =>
      none
noncomputable def env : Env := envOf Tryz.prog tys fns exs

theorem env_ok : EnvOk env Tryz.prog := envOf_ok Tryz.prog rfl rfl (by kernel_rfl)
theorem env_ng : env.ng = 3 := by kernel_rfl

theorem x127 : ExtFn Tryz.prog 127 Tryz.f127 Extern.BytealgIndexByte.indexByte := ⟨Tryz.func127, by kernel_rfl, by kernel_rfl, by kernel_rfl, by kernel_rfl⟩
theorem x130 : ExtFn Tryz.prog 130 Tryz.f130 Extern.BytealgCount.count := ⟨Tryz.func130, by kernel_rfl, by kernel_rfl, by kernel_rfl, by kernel_rfl⟩

theorem env_ext : XTab env Tryz.prog := by
  constructor
  intro f g hg
  have hg' : exs f = some g := hg
  unfold exs at hg'
  split at hg'
  · rename_i h
    obtain rfl := Nat.eq_of_beq_eq_true h
    cases hg'
    exact ⟨_, _, x127, xIndexByteString_sim⟩
  · skip
    split at hg'
    · rename_i h
      obtain rfl := Nat.eq_of_beq_eq_true h
      cases hg'
      exact ⟨_, _, x130, xCountString_sim⟩
    · skip
      cases hg'
theorem sure0 : Sure env Tryz.prog := Sure.of env_ok env_ext
end Go.Proofs.YtgjpdjkkaogfiaaGreatDoor
