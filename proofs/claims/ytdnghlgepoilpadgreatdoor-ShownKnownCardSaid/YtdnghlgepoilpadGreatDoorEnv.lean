/- What the machine looks up of this program. Plain definitions; no condition. -/
import Derived.Test.YtdnghlgepoilpadGreatDoorAm25
import Derived.Test.YtdnghlgepoilpadGreatDoorProg
import Derived.KernelRfl
namespace Go.Proofs.YtdnghlgepoilpadGreatDoor
open Go Go.Am

noncomputable def tys : Tr (Option Ty) := tyTable Tryz.prog.types.toList
noncomputable def fns : Tr (Option Fun) := funTable Tryz.prog.globals.size Tryz.prog.funcs.toList
noncomputable def exs (f : Nat) : Option (List Value → Mem → Option (Value × Mem)) :=
  match Nat.beq f 183 with
  | true => some xCompare
  | false =>
    match Nat.beq f 190 with
    | true => some xCountString
    | false =>
      match Nat.beq f 208 with
      | true => some xIndexByteString
      | false =>
        none
noncomputable def env : Env := envOf Tryz.prog tys fns exs

theorem env_ok : EnvOk env Tryz.prog := envOf_ok Tryz.prog rfl rfl (by kernel_rfl)
theorem env_ng : env.ng = 3 := by kernel_rfl

theorem x183 : ExtFn Tryz.prog 183 Tryz.f183 Extern.BytealgCompare.compare := ⟨Tryz.func183, by kernel_rfl, by kernel_rfl, by kernel_rfl, by kernel_rfl⟩
theorem x190 : ExtFn Tryz.prog 190 Tryz.f190 Extern.BytealgCount.count := ⟨Tryz.func190, by kernel_rfl, by kernel_rfl, by kernel_rfl, by kernel_rfl⟩
theorem x208 : ExtFn Tryz.prog 208 Tryz.f208 Extern.BytealgIndexByte.indexByte := ⟨Tryz.func208, by kernel_rfl, by kernel_rfl, by kernel_rfl, by kernel_rfl⟩

theorem env_ext : XTab env Tryz.prog := by
  constructor
  intro f g hg
  have hg' : exs f = some g := hg
  unfold exs at hg'
  split at hg'
  · rename_i h
    obtain rfl := Nat.eq_of_beq_eq_true h
    cases hg'
    exact ⟨_, _, x183, xCompare_sim⟩
  · skip
    split at hg'
    · rename_i h
      obtain rfl := Nat.eq_of_beq_eq_true h
      cases hg'
      exact ⟨_, _, x190, xCountString_sim⟩
    · skip
      split at hg'
      · rename_i h
        obtain rfl := Nat.eq_of_beq_eq_true h
        cases hg'
        exact ⟨_, _, x208, xIndexByteString_sim⟩
      · skip
        cases hg'
theorem sure0 : Sure env Tryz.prog := Sure.of env_ok env_ext
end Go.Proofs.YtdnghlgepoilpadGreatDoor
