/- What the machine looks up of this program. Plain definitions; no condition. -/
import Derived.Test.YtnhhppflnpfehabGreatDoorAmE
import Derived.Test.YtnhhppflnpfehabGreatDoorProg
import Derived.KernelRfl
namespace Go.Proofs.YtnhhppflnpfehabGreatDoor
open Go Go.Am

noncomputable def tys : Tr (Option Ty) := tyTable Tryz.prog.types.toList
noncomputable def fns : Tr (Option Fun) := funTable Tryz.prog.globals.size Tryz.prog.funcs.toList
noncomputable def exs (f : Nat) : Option (List Value → Mem → Option (Value × Mem)) :=
  match Nat.beq f 125 with
  | true => some xCompare
  | false =>
    match Nat.beq f 169 with
    | true => some xCountString
    | false =>
      match Nat.beq f 188 with
      | true => some xIndexByteString
      | false =>
        none
noncomputable def env : Env := envOf Tryz.prog tys fns exs

theorem env_ok : EnvOk env Tryz.prog := envOf_ok Tryz.prog rfl rfl (by kernel_rfl)
theorem env_ng : env.ng = 3 := by kernel_rfl

theorem x125 : ExtFn Tryz.prog 125 Tryz.f125 Extern.BytealgCompare.compare := ⟨Tryz.func125, by kernel_rfl, by kernel_rfl, by kernel_rfl, by kernel_rfl⟩
theorem x169 : ExtFn Tryz.prog 169 Tryz.f169 Extern.BytealgCount.count := ⟨Tryz.func169, by kernel_rfl, by kernel_rfl, by kernel_rfl, by kernel_rfl⟩
theorem x188 : ExtFn Tryz.prog 188 Tryz.f188 Extern.BytealgIndexByte.indexByte := ⟨Tryz.func188, by kernel_rfl, by kernel_rfl, by kernel_rfl, by kernel_rfl⟩

theorem env_ext : XTab env Tryz.prog := by
  constructor
  intro f g hg
  have hg' : exs f = some g := hg
  unfold exs at hg'
  split at hg'
  · rename_i h
    obtain rfl := Nat.eq_of_beq_eq_true h
    cases hg'
    exact ⟨_, _, x125, xCompare_sim⟩
  · skip
    split at hg'
    · rename_i h
      obtain rfl := Nat.eq_of_beq_eq_true h
      cases hg'
      exact ⟨_, _, x169, xCountString_sim⟩
    · skip
      split at hg'
      · rename_i h
        obtain rfl := Nat.eq_of_beq_eq_true h
        cases hg'
        exact ⟨_, _, x188, xIndexByteString_sim⟩
      · skip
        cases hg'
theorem sure0 : Sure env Tryz.prog := Sure.of env_ok env_ext
end Go.Proofs.YtnhhppflnpfehabGreatDoor
