/- What the machine looks up of this program. Plain definitions; no condition. -/
import Derived.Test.YtgjpdjkkaogfiabGreatDoorAmE
import Derived.Test.YtgjpdjkkaogfiabGreatDoorProg
import Derived.KernelRfl
namespace Go.Proofs.YtgjpdjkkaogfiabGreatDoor
open Go Go.Am

noncomputable def tys : Tr (Option Ty) := tyTable Tryz.prog.types.toList
noncomputable def fns : Tr (Option Fun) := funTable Tryz.prog.globals.size Tryz.prog.funcs.toList
noncomputable def exs (f : Nat) : Option (List Value → Mem → Option (Value × Mem)) :=
  match Nat.beq f 275 with
  | true => some xCountString
  | false =>
    match Nat.beq f 288 with
    | true => some xCompare
    | false =>
      match Nat.beq f 290 with
      | true => some xIndexByteString
      | false =>
        none
noncomputable def env : Env := envOf Tryz.prog tys fns exs

theorem env_ok : EnvOk env Tryz.prog := envOf_ok Tryz.prog rfl rfl (by kernel_rfl)
theorem env_ng : env.ng = 3 := by kernel_rfl

theorem x275 : ExtFn Tryz.prog 275 Tryz.f275 Extern.BytealgCount.count := ⟨Tryz.func275, by kernel_rfl, by kernel_rfl, by kernel_rfl, by kernel_rfl⟩
theorem x288 : ExtFn Tryz.prog 288 Tryz.f288 Extern.BytealgCompare.compare := ⟨Tryz.func288, by kernel_rfl, by kernel_rfl, by kernel_rfl, by kernel_rfl⟩
theorem x290 : ExtFn Tryz.prog 290 Tryz.f290 Extern.BytealgIndexByte.indexByte := ⟨Tryz.func290, by kernel_rfl, by kernel_rfl, by kernel_rfl, by kernel_rfl⟩

theorem env_ext : XTab env Tryz.prog := by
  constructor
  intro f g hg
  have hg' : exs f = some g := hg
  unfold exs at hg'
  split at hg'
  · rename_i h
    obtain rfl := Nat.eq_of_beq_eq_true h
    cases hg'
    exact ⟨_, _, x275, xCountString_sim⟩
  · skip
    split at hg'
    · rename_i h
      obtain rfl := Nat.eq_of_beq_eq_true h
      cases hg'
      exact ⟨_, _, x288, xCompare_sim⟩
    · skip
      split at hg'
      · rename_i h
        obtain rfl := Nat.eq_of_beq_eq_true h
        cases hg'
        exact ⟨_, _, x290, xIndexByteString_sim⟩
      · skip
        cases hg'
theorem sure0 : Sure env Tryz.prog := Sure.of env_ok env_ext
end Go.Proofs.YtgjpdjkkaogfiabGreatDoor
