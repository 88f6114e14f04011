/- TableMoves holds. Part 17 of 29; no condition. -/
import Derived.Test.YthjlhgjnjhmfbaaGreatDoorM16
set_option linter.unusedVariables false
set_option linter.unusedSimpArgs false
namespace Go.Pm
open Go.RowKit Go.Am
def Sub (M M' : PMem) : Prop := ∀ k i o, M k i = some o -> M' k i = some o
theorem Sub.refl (M : PMem) : Sub M M := fun _ _ _ h => h
theorem Sub.trans {M M' M'' : PMem} (h : Sub M M') (h' : Sub M' M'') : Sub M M'' := fun k i o e => h' k i o (h k i o e)
theorem Sub.seg {M : PMem} {k : Nat} {os : List Obj} (h : fresh M k) : Sub M (seg M k os) := fun k' i o e => by
 rw [seg_ne _ _ _ (fresh_ne h e)]; exact e
theorem Sub.sseg {M M' : PMem} {k : Nat} {os : List Obj} (h : Sub M M') (hf : fresh M' k) : Sub M (Pm.seg M' k os) := h.trans (Sub.seg hf)
section
variable {E : Env} {P : Program} {tm : List (Nat × PV)} {nt k n d f g : Nat} {os : List Obj} {M M' : PMem} {v : PV} {args vs first cap : List PV} {κ : Kont} {R : PSt -> Prop} {b : Bool}
def PTs (E : Env) (P : Program) (M : PMem) (f : Nat) (args : List PV) (v : PV) : Prop := ∀ M', Sub M M' -> PT E P f args M' (fun x M1 => x = v /\ M1 = M')
theorem PTs.sub (h : PTs E P M f args v) (hs : Sub M M') : PTs E P M' f args v := fun M'' h' => h M'' (hs.trans h')
theorem cs (hp : PTs E P M' g (first ++ (vs ++ cap)) v) (hs : Sub M' (seg M k os)) (hd : d < nt) (h : RK E P κ ⟨(d, v) :: tm, nt, k, os, M⟩ R) : cK E P (some d) κ tm nt k os M R vs (.fn g first cap) :=
 .inl ⟨_, _, _, rfl, (hp _ hs).monoL fun x M1 ⟨e1, e2⟩ => by rw [e1, e2]; exact took_eq hd h rfl⟩
theorem cs0 (hp : PTs E P M' g vs v) (hs : Sub M' (seg M k os)) (hd : d < nt) (h : RK E P κ ⟨(d, v) :: tm, nt, k, os, M⟩ R) : cK E P (some d) κ tm nt k os M R vs (.fn g [] []) := cs (by rw [List.append_nil]; exact hp) hs hd h
theorem PTs.enter {nt : Nat} {res : List ResultVar} {body : Code} {c : RC} (hE : EnvOk E P) (hf : E.fn f = some ⟨nt, res, body⟩) (hle : args.length <= nt) (hc : comp E body = c)
  (h : ∀ M' k, Sub M M' -> 0 < k -> fresh M' k -> wX E P none c ⟨argsP 0 args, nt, k, [], M'⟩ (ends E ⟨nt, res, body⟩ (fun x M1 => x = v /\ M1 = M'))) : PTs E P M f args v := fun M' hs =>
 PT.enterR hE hf hle hc fun k hk hfr => RX.of hE (h M' k hs hk hfr)
end
end Go.Pm