/- A law without arguments that the machine runs to 'true': the model's call returns true and leaves what was there. -/
import Derived.Test.YtnhhppflnpfehacGreatDoorAm22
namespace Go.Am
open Go.RowKit

noncomputable def isTrue : Option (Value × Mem) → Bool
  | some (.bool b, _) => b
  | _ => false

theorem isTrue_some {r : Option (Value × Mem)} (h : isTrue r = true) : ∃ m, r = some (.bool true, m) := by
  unfold isTrue at h
  split at h
  · subst h; exact ⟨_, rfl⟩
  · cases h

/-- Functions without a body, by number. -/
structure XTab (E : Env) (P : Program) : Prop where
  all : ∀ f g, E.ext f = some g → ∃ F s, ExtFn P f F s ∧ XSim E P g s

theorem XTab.ok {E : Env} {P : Program} (h : XTab E P) : ExtOk E P := fun {f g args args' m m1 v ι w} hg hr hR ha => by
  obtain ⟨F, s, h1, h2⟩ := h.all f g hg
  exact h2.upon h1 hr hR ha
theorem XTab.keep {E : Env} {P : Program} (h : XTab E P) : ExtKeep E := fun f g args m v m1 hg hw hr => by
  obtain ⟨F, s, h1, h2⟩ := h.all f g hg
  exact h2.keep hw hr

theorem closed_calls {E : Env} {P : Program} (hE : EnvOk E P) (hX : XTab E P) {j k f : Nat} {x : Fun} {W : World} (hf : E.fn f = some x) (hrun : isTrue (run E j k (.call f []) (mem0 E.ng)) = true) (hW : E.ng ≤ W.heap.size) :
    Calls P f #[] W fun e W' => e = .returned (.bool true) ∧ (∀ b, b < W.heap.size → W'.heap[b]? = W.heap[b]?) ∧ W.heap.size ≤ W'.heap.size ∧ W'.os = W.os ∧ W'.tape = W.tape ∧ W'.output = W.output := by
  obtain ⟨m1, hr⟩ := isTrue_some hrun
  have h := (run_ok hE hX.ok hX.keep (j := j) k).call (args' := []) hr (rel0 hW) .nil
  rw [callFunc_enter hE hf] at h
  have h' : CallsIn Fence.wide 0 P f #[] W (retOnly (Got E (inj0 E.ng) (mem0 E.ng) W (.bool true) m1)) := h
  refine (callsIn_wide.1 h').mono fun e W' he => ?_
  cases e with
  | returned v' =>
    obtain ⟨ι1, hv, hs⟩ := he
    cases hv
    exact ⟨rfl, fun b hb => hs.keep b hb own0, hs.size, hs.os, hs.tape, hs.output⟩
  | panicked _ => exact he.elim
  | outgrown => exact he.elim
end Go.Am
