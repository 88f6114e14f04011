/- EventOrder: closed events are in order, and one made behind them is closed with them. Of any arguments. Part 34 of 38; no condition. -/
import Derived.Test.YtmgmbdnhodicjaaDoorM33
set_option linter.unusedVariables false
set_option linter.unusedSimpArgs false
section
namespace Go.Proofs.YtmgmbdnhodicjaaDoor
open Go Go.Am Go.Pm
set_option maxHeartbeats 1000000
set_option maxRecDepth 100000
theorem chain.frame {M0 M M' : PMem} {p : PV} {ks : List (Nat × Nat)} {l : List (Ev × Nat)} (h : chain M0 M p ks l) (hf : ∀ k i, (k, i) ∈ ks → M' k i = M k i) : chain M0 M' p ks l := by
  induction h with
  | nil => exact .nil
  | cons h h0 hn r ih => exact .cons (by rw [hf _ _ List.mem_cons_self]; exact h) h0 hn (ih fun k i hx => hf k i (List.mem_cons_of_mem _ hx))
end Go.Proofs.YtmgmbdnhodicjaaDoor
end
