/- What the machine looks up of this program. Plain definitions; no condition. -/
import Derived.Test.YtdnghlgepoilpacGreatDoorAm25
import Derived.Test.YtdnghlgepoilpacGreatDoorProg
import Derived.KernelRfl
namespace Go.Proofs.YtdnghlgepoilpacGreatDoor
open Go Go.Am

noncomputable def tys : Tr (Option Ty) := tyTable Tryz.prog.types.toList
noncomputable def fns : Tr (Option Fun) := funTable Tryz.prog.globals.size Tryz.prog.funcs.toList
noncomputable def exs (f : Nat) : Option (List Value → Mem → Option (Value × Mem)) :=
  match Nat.beq f 148 with
  | true => some xCompare
  | false =>
    match Nat.beq f 155 with
    | true => some xCountString
    | false =>
      match Nat.beq f 156 with
      | true => some xIndexByteString
      | false =>
        none
noncomputable def env : Env := envOf Tryz.prog tys fns exs

theorem env_ok : EnvOk env Tryz.prog := envOf_ok Tryz.prog rfl rfl (by kernel_rfl)
theorem env_ng : env.ng = 3 := by kernel_rfl

theorem x148 : ExtFn Tryz.prog 148 Tryz.f148 Extern.BytealgCompare.compare := ⟨Tryz.func148, by kernel_rfl, by kernel_rfl, by kernel_rfl, by kernel_rfl⟩
theorem x155 : ExtFn Tryz.prog 155 Tryz.f155 Extern.BytealgCount.count := ⟨Tryz.func155, by kernel_rfl, by kernel_rfl, by kernel_rfl, by kernel_rfl⟩
theorem x156 : ExtFn Tryz.prog 156 Tryz.f156 Extern.BytealgIndexByte.indexByte := ⟨Tryz.func156, by kernel_rfl, by kernel_rfl, by kernel_rfl, by kernel_rfl⟩

theorem env_ext : XTab env Tryz.prog := by
  constructor
  intro f g hg
  have hg' : exs f = some g := hg
  unfold exs at hg'
  split at hg'
  · rename_i h
    obtain rfl := Nat.eq_of_beq_eq_true h
    cases hg'
    exact ⟨_, _, x148, xCompare_sim⟩
  · skip
    split at hg'
    · rename_i h
      obtain rfl := Nat.eq_of_beq_eq_true h
      cases hg'
      exact ⟨_, _, x155, xCountString_sim⟩
    · skip
      split at hg'
      · rename_i h
        obtain rfl := Nat.eq_of_beq_eq_true h
        cases hg'
        exact ⟨_, _, x156, xIndexByteString_sim⟩
      · skip
        cases hg'
theorem sure0 : Sure env Tryz.prog := Sure.of env_ok env_ext
end Go.Proofs.YtdnghlgepoilpacGreatDoor
