/- EventOrder: closed events are in order, and one made behind them is closed with them. Of any arguments. Part 28 of 38; no condition. -/
import Derived.Test.YtmgmbdnhodicjaaDoorM27
set_option linter.unusedVariables false
set_option linter.unusedSimpArgs false
section
namespace Go.Proofs.YtmgmbdnhodicjaaDoor
open Go Go.Am Go.Pm
set_option maxHeartbeats 1000000
set_option maxRecDepth 100000
def effB (x m : Int) (b : List UInt8) : List UInt8 := form x.toNat ++ form m.toNat ++ rawB b
theorem eff_nn {x m : Int} {b : List UInt8} (h : effOk x m b = true) : 1 ≤ x ∧ x ≤ 3 ∧ 0 ≤ m ∧ m ≤ 511 ∧ b.length ≤ 1000 := by
  simp only [effOk, Bool.and_eq_true, Bool.not_eq_true', Bool.or_eq_false_iff, decide_eq_false_iff_not] at h
  obtain ⟨⟨h1, h2⟩, ⟨h3, h4⟩, h5⟩ := h
  refine ⟨by omega, by omega, by omega, ?_, ?_⟩
  · split at h4 <;> omega
  · split at h5 <;> omega
def evBytes (e : Ev) : List UInt8 := form e.node.toNat ++ form e.seq.toNat ++ rawB e.path ++ rawB (effB e.kind e.mode e.bytes) ++ rawB (pastB e.past)
def evSize (e : Ev) : Nat := if evOk e then (evBytes e).length else 0
theorem ev_parts {e : Ev} (h : evOk e = true) : dotOk e.node e.seq = true ∧ effOk e.kind e.mode e.bytes = true ∧ pastOk e.past = true := by
  simp only [evOk, Bool.and_eq_true] at h
  exact ⟨h.1, h.2.2.1, h.2.2.2.1⟩
end Go.Proofs.YtmgmbdnhodicjaaDoor
end
