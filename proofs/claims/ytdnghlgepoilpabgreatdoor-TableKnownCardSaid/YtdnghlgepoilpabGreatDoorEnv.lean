/- What the machine looks up of this program. Plain definitions; no condition. -/
import Derived.Test.YtdnghlgepoilpabGreatDoorAm25
import Derived.Test.YtdnghlgepoilpabGreatDoorProg
import Derived.KernelRfl
namespace Go.Proofs.YtdnghlgepoilpabGreatDoor
open Go Go.Am

noncomputable def tys : Tr (Option Ty) := tyTable Tryz.prog.types.toList
noncomputable def fns : Tr (Option Fun) := funTable Tryz.prog.globals.size Tryz.prog.funcs.toList
noncomputable def exs (f : Nat) : Option (List Value → Mem → Option (Value × Mem)) :=
  match Nat.beq f 98 with
  | true => some xCompare
  | false =>
    match Nat.beq f 118 with
    | true => some xCountString
    | false =>
      match Nat.beq f 119 with
      | true => some xIndexByteString
      | false =>
        none
noncomputable def env : Env := envOf Tryz.prog tys fns exs

theorem env_ok : EnvOk env Tryz.prog := envOf_ok Tryz.prog rfl rfl (by kernel_rfl)
theorem env_ng : env.ng = 3 := by kernel_rfl

theorem x98 : ExtFn Tryz.prog 98 Tryz.f98 Extern.BytealgCompare.compare := ⟨Tryz.func98, by kernel_rfl, by kernel_rfl, by kernel_rfl, by kernel_rfl⟩
theorem x118 : ExtFn Tryz.prog 118 Tryz.f118 Extern.BytealgCount.count := ⟨Tryz.func118, by kernel_rfl, by kernel_rfl, by kernel_rfl, by kernel_rfl⟩
theorem x119 : ExtFn Tryz.prog 119 Tryz.f119 Extern.BytealgIndexByte.indexByte := ⟨Tryz.func119, by kernel_rfl, by kernel_rfl, by kernel_rfl, by kernel_rfl⟩

theorem env_ext : XTab env Tryz.prog := by
  constructor
  intro f g hg
  have hg' : exs f = some g := hg
  unfold exs at hg'
  split at hg'
  · rename_i h
    obtain rfl := Nat.eq_of_beq_eq_true h
    cases hg'
    exact ⟨_, _, x98, xCompare_sim⟩
  · skip
    split at hg'
    · rename_i h
      obtain rfl := Nat.eq_of_beq_eq_true h
      cases hg'
      exact ⟨_, _, x118, xCountString_sim⟩
    · skip
      split at hg'
      · rename_i h
        obtain rfl := Nat.eq_of_beq_eq_true h
        cases hg'
        exact ⟨_, _, x119, xIndexByteString_sim⟩
      · skip
        cases hg'
theorem sure0 : Sure env Tryz.prog := Sure.of env_ok env_ext
end Go.Proofs.YtdnghlgepoilpabGreatDoor
