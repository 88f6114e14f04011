/- EventOrder: closed events are in order, and one made behind them is closed with them. Of any arguments. Part 27 of 38; no condition. -/
import Derived.Test.YtmgmbdnhodicjaaDoorM26
set_option linter.unusedVariables false
set_option linter.unusedSimpArgs false
section
namespace Go.Pm
theorem PLe.cells {es n : Nat} {cs cs' : List PV} (h : PLes cs cs') : PLe (.lst .no es n cs) (.lst .no es n cs') := fun cx v hx => by
  cases hx with
  | l0 => cases h; exact .l0 _ _ _ (by assumption)
  | lno hr hl hs hn hc he => exact .lno hr (by rw [← h.length]; exact hl) (by rw [← h.length]; exact h.sim hs) (by rw [← h.length]; exact hn) hc he
end Go.Pm
namespace Go.Proofs.YtmgmbdnhodicjaaDoor
open Go Go.Am Go.Pm
set_option maxHeartbeats 1000000
set_option maxRecDepth 100000
def spanBytes (x : Span) : List UInt8 := UInt8.ofNat (x.node.toNat % 256) :: (fourB x.frm.toNat ++ fourB x.to.toNat)
def pastB (xs : List Span) : List UInt8 := (fourB xs.length).drop 2 ++ xs.flatMap spanBytes
end Go.Proofs.YtmgmbdnhodicjaaDoor
end
