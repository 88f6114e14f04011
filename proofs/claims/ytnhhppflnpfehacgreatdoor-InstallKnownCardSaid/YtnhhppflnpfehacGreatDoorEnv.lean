/- What the machine looks up of this program. Plain definitions; no condition. -/
import Derived.Test.YtnhhppflnpfehacGreatDoorAmE
import Derived.Test.YtnhhppflnpfehacGreatDoorProg
import Derived.KernelRfl
namespace Go.Proofs.YtnhhppflnpfehacGreatDoor
open Go Go.Am

noncomputable def tys : Tr (Option Ty) := tyTable Tryz.prog.types.toList
noncomputable def fns : Tr (Option Fun) := funTable Tryz.prog.globals.size Tryz.prog.funcs.toList
noncomputable def exs (f : Nat) : Option (List Value → Mem → Option (Value × Mem)) :=
  match Nat.beq f 147 with
  | true => some xCompare
  | false =>
    match Nat.beq f 248 with
    | true => some xCountString
    | false =>
      match Nat.beq f 263 with
      | true => some xIndexByteString
      | false =>
        none
noncomputable def env : Env := envOf Tryz.prog tys fns exs

theorem env_ok : EnvOk env Tryz.prog := envOf_ok Tryz.prog rfl rfl (by kernel_rfl)
theorem env_ng : env.ng = 3 := by kernel_rfl

theorem x147 : ExtFn Tryz.prog 147 Tryz.f147 Extern.BytealgCompare.compare := ⟨Tryz.func147, by kernel_rfl, by kernel_rfl, by kernel_rfl, by kernel_rfl⟩
theorem x248 : ExtFn Tryz.prog 248 Tryz.f248 Extern.BytealgCount.count := ⟨Tryz.func248, by kernel_rfl, by kernel_rfl, by kernel_rfl, by kernel_rfl⟩
theorem x263 : ExtFn Tryz.prog 263 Tryz.f263 Extern.BytealgIndexByte.indexByte := ⟨Tryz.func263, by kernel_rfl, by kernel_rfl, by kernel_rfl, by kernel_rfl⟩

theorem env_ext : XTab env Tryz.prog := by
  constructor
  intro f g hg
  have hg' : exs f = some g := hg
  unfold exs at hg'
  split at hg'
  · rename_i h
    obtain rfl := Nat.eq_of_beq_eq_true h
    cases hg'
    exact ⟨_, _, x147, xCompare_sim⟩
  · skip
    split at hg'
    · rename_i h
      obtain rfl := Nat.eq_of_beq_eq_true h
      cases hg'
      exact ⟨_, _, x248, xCountString_sim⟩
    · skip
      split at hg'
      · rename_i h
        obtain rfl := Nat.eq_of_beq_eq_true h
        cases hg'
        exact ⟨_, _, x263, xIndexByteString_sim⟩
      · skip
        cases hg'
theorem sure0 : Sure env Tryz.prog := Sure.of env_ok env_ext
end Go.Proofs.YtnhhppflnpfehacGreatDoor
