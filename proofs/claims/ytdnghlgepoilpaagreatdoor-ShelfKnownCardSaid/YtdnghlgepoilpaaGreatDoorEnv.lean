/- What the machine looks up of this program. Plain definitions; no condition. -/
import Derived.Test.YtdnghlgepoilpaaGreatDoorAm25
import Derived.Test.YtdnghlgepoilpaaGreatDoorProg
import Derived.KernelRfl
namespace Go.Proofs.YtdnghlgepoilpaaGreatDoor
open Go Go.Am

noncomputable def tys : Tr (Option Ty) := tyTable Tryz.prog.types.toList
noncomputable def fns : Tr (Option Fun) := funTable Tryz.prog.globals.size Tryz.prog.funcs.toList
noncomputable def exs (f : Nat) : Option (List Value → Mem → Option (Value × Mem)) :=
  match Nat.beq f 89 with
  | true => some xCompare
  | false =>
    match Nat.beq f 131 with
    | true => some xIndexByteString
    | false =>
      none
noncomputable def env : Env := envOf Tryz.prog tys fns exs

theorem env_ok : EnvOk env Tryz.prog := envOf_ok Tryz.prog rfl rfl (by kernel_rfl)
theorem env_ng : env.ng = 3 := by kernel_rfl

theorem x89 : ExtFn Tryz.prog 89 Tryz.f89 Extern.BytealgCompare.compare := ⟨Tryz.func89, by kernel_rfl, by kernel_rfl, by kernel_rfl, by kernel_rfl⟩
theorem x131 : ExtFn Tryz.prog 131 Tryz.f131 Extern.BytealgIndexByte.indexByte := ⟨Tryz.func131, by kernel_rfl, by kernel_rfl, by kernel_rfl, by kernel_rfl⟩

theorem env_ext : XTab env Tryz.prog := by
  constructor
  intro f g hg
  have hg' : exs f = some g := hg
  unfold exs at hg'
  split at hg'
  · rename_i h
    obtain rfl := Nat.eq_of_beq_eq_true h
    cases hg'
    exact ⟨_, _, x89, xCompare_sim⟩
  · skip
    split at hg'
    · rename_i h
      obtain rfl := Nat.eq_of_beq_eq_true h
      cases hg'
      exact ⟨_, _, x131, xIndexByteString_sim⟩
    · skip
      cases hg'
theorem sure0 : Sure env Tryz.prog := Sure.of env_ok env_ext
end Go.Proofs.YtdnghlgepoilpaaGreatDoor
