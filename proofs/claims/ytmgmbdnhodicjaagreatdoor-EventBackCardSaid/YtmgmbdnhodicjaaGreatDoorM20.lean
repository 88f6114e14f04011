/- EventBack. Part 20 of 30; no condition. -/
import Derived.Test.YtmgmbdnhodicjaaGreatDoorM19
import Derived.Test.YtmgmbdnhodicjaaGreatDoorProg
import Derived.KernelRfl
set_option linter.unusedVariables false
set_option linter.unusedSimpArgs false
section
namespace Go.Proofs.YtmgmbdnhodicjaaGreatDoor
open Go Go.Am
noncomputable def tys : Tr (Option Ty) := tyTable Tryz.prog.types.toList
noncomputable def fns : Tr (Option Fun) := funTable Tryz.prog.globals.size Tryz.prog.funcs.toList
noncomputable def exs (f : Nat) : Option (List Value → Mem → Option (Value × Mem)) :=
  match Nat.beq f 123 with
  | true => some xAdd64
  | false =>
    match Nat.beq f 127 with
    | true => some xLoad64
    | false =>
      match Nat.beq f 157 with
      | true => some xCas64
      | false =>
        match Nat.beq f 182 with
        | true => some xCompare
        | false =>
          match Nat.beq f 207 with
          | true => some xIndexByteString
          | false =>
            none
noncomputable def env : Env := envOf Tryz.prog tys fns exs
theorem env_ok : EnvOk env Tryz.prog := envOf_ok Tryz.prog rfl rfl (by kernel_rfl)
theorem env_ng : env.ng = 3 := by kernel_rfl
theorem x123 : ExtFn Tryz.prog 123 Tryz.f123 (Extern.Atomic.update (Op.intArith .add) .i64 true) := ⟨Tryz.func123, by kernel_rfl, by kernel_rfl, by kernel_rfl, by kernel_rfl⟩
theorem x127 : ExtFn Tryz.prog 127 Tryz.f127 (Extern.Atomic.loadT (.int .i64)) := ⟨Tryz.func127, by kernel_rfl, by kernel_rfl, by kernel_rfl, by kernel_rfl⟩
theorem x157 : ExtFn Tryz.prog 157 Tryz.f157 (Extern.Atomic.casT (.int .i64)) := ⟨Tryz.func157, by kernel_rfl, by kernel_rfl, by kernel_rfl, by kernel_rfl⟩
theorem x182 : ExtFn Tryz.prog 182 Tryz.f182 Extern.BytealgCompare.compare := ⟨Tryz.func182, by kernel_rfl, by kernel_rfl, by kernel_rfl, by kernel_rfl⟩
theorem x207 : ExtFn Tryz.prog 207 Tryz.f207 Extern.BytealgIndexByte.indexByte := ⟨Tryz.func207, by kernel_rfl, by kernel_rfl, by kernel_rfl, by kernel_rfl⟩
theorem env_ext : XTab env Tryz.prog := by
  constructor
  intro f g hg
  have hg' : exs f = some g := hg
  unfold exs at hg'
  split at hg'
  · rename_i h
    obtain rfl := Nat.eq_of_beq_eq_true h
    cases hg'
    exact ⟨_, _, x123, xAdd64_sim⟩
  · skip
    split at hg'
    · rename_i h
      obtain rfl := Nat.eq_of_beq_eq_true h
      cases hg'
      exact ⟨_, _, x127, xLoad64_sim⟩
    · skip
      split at hg'
      · rename_i h
        obtain rfl := Nat.eq_of_beq_eq_true h
        cases hg'
        exact ⟨_, _, x157, xCas64_sim⟩
      · skip
        split at hg'
        · rename_i h
          obtain rfl := Nat.eq_of_beq_eq_true h
          cases hg'
          exact ⟨_, _, x182, xCompare_sim⟩
        · skip
          split at hg'
          · rename_i h
            obtain rfl := Nat.eq_of_beq_eq_true h
            cases hg'
            exact ⟨_, _, x207, xIndexByteString_sim⟩
          · skip
            cases hg'
theorem sure0 : Sure env Tryz.prog := Sure.of env_ok env_ext
end Go.Proofs.YtmgmbdnhodicjaaGreatDoor
end
