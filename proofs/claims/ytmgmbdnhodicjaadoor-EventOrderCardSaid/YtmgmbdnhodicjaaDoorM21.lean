/- EventOrder: closed events are in order, and one made behind them is closed with them. Of any arguments. Part 21 of 38; no condition. -/
import Derived.Test.YtmgmbdnhodicjaaDoorM20
import Derived.Test.YtmgmbdnhodicjaaDoorProg
import Derived.KernelRfl
set_option linter.unusedVariables false
set_option linter.unusedSimpArgs false
section
namespace Go.Proofs.YtmgmbdnhodicjaaDoor
open Go Go.Am
noncomputable def tys : Tr (Option Ty) := tyTable Tryd.prog.types.toList
noncomputable def fns : Tr (Option Fun) := funTable Tryd.prog.globals.size Tryd.prog.funcs.toList
noncomputable def exs (f : Nat) : Option (List Value → Mem → Option (Value × Mem)) :=
  match Nat.beq f 58 with
  | true => some xAdd64
  | false => match Nat.beq f 60 with
    | true => some xLoad64
    | false => match Nat.beq f 80 with
      | true => some xCas64
      | false => match Nat.beq f 127 with
        | true => some xIndexByteString
        | false => none
noncomputable def env : Env := envOf Tryd.prog tys fns exs
theorem env_ok : EnvOk env Tryd.prog := envOf_ok Tryd.prog rfl rfl (by kernel_rfl)
theorem env_ng : env.ng = 3 := by kernel_rfl
theorem x58 : ExtFn Tryd.prog 58 Tryd.f58 (Extern.Atomic.update (Op.intArith .add) .i64 true) := ⟨Tryd.func58, by kernel_rfl, by kernel_rfl, by kernel_rfl, by kernel_rfl⟩
theorem x60 : ExtFn Tryd.prog 60 Tryd.f60 (Extern.Atomic.loadT (.int .i64)) := ⟨Tryd.func60, by kernel_rfl, by kernel_rfl, by kernel_rfl, by kernel_rfl⟩
theorem x80 : ExtFn Tryd.prog 80 Tryd.f80 (Extern.Atomic.casT (.int .i64)) := ⟨Tryd.func80, by kernel_rfl, by kernel_rfl, by kernel_rfl, by kernel_rfl⟩
theorem x127 : ExtFn Tryd.prog 127 Tryd.f127 Extern.BytealgIndexByte.indexByte := ⟨Tryd.func127, by kernel_rfl, by kernel_rfl, by kernel_rfl, by kernel_rfl⟩
theorem env_ext : XTab env Tryd.prog := by
  constructor
  intro f g hg
  have hg' : exs f = some g := hg
  unfold exs at hg'
  split at hg'
  · rename_i h
    obtain rfl := Nat.eq_of_beq_eq_true h
    cases hg'
    exact ⟨_, _, x58, xAdd64_sim⟩
  · split at hg'
    · rename_i h
      obtain rfl := Nat.eq_of_beq_eq_true h
      cases hg'
      exact ⟨_, _, x60, xLoad64_sim⟩
    · split at hg'
      · rename_i h
        obtain rfl := Nat.eq_of_beq_eq_true h
        cases hg'
        exact ⟨_, _, x80, xCas64_sim⟩
      · split at hg'
        · rename_i h
          obtain rfl := Nat.eq_of_beq_eq_true h
          cases hg'
          exact ⟨_, _, x127, xIndexByteString_sim⟩
        · cases hg'
end Go.Proofs.YtmgmbdnhodicjaaDoor
end
