/- EventOrder: closed events are in order, and one made behind them is closed with them. Of any arguments. Part 30 of 38; no condition. -/
import Derived.Test.YtmgmbdnhodicjaaDoorM29
set_option linter.unusedVariables false
set_option linter.unusedSimpArgs false
section
namespace Go.Proofs.YtmgmbdnhodicjaaDoor
open Go Go.Am Go.Pm
set_option maxHeartbeats 1000000
set_option maxRecDepth 100000
theorem chain.sub {M0 M M' : PMem} {p : PV} {ks : List (Nat × Nat)} {l : List (Ev × Nat)} (h : chain M0 M p ks l) (hs : Pm.Sub M M') : chain M0 M' p ks l := by
  induction h with
  | nil => exact .nil
  | cons h h0 hn r ih => exact .cons (hs _ _ _ h) h0 hn ih
theorem Spl.mono {M0 M M' : PMem} {a : Nat} {bytes entries most : Int} {ks : List (Nat × Nat)} {l : List (Ev × Nat)} (h : Spl M0 M a bytes entries most ks l) (hs : Pm.Sub M M') : Spl M0 M' a bytes entries most ks l := by
  obtain ⟨p, h1, h2⟩ := h.row
  exact ⟨h.sub.trans hs, h.new, p, hs _ _ _ h1, h2.sub hs⟩
end Go.Proofs.YtmgmbdnhodicjaaDoor
end
