/- SpoolKnown: the machine's run, by the kernel. -/
import Derived.Test.YtmgmbdnhodicjaaDoorSpoolKnown
namespace Go.Proofs.YtmgmbdnhodicjaaDoor
open Go Go.Am

set_option maxRecDepth 1000000
theorem ran : isTrue (run env 100000 1000 (.call 3 []) (mem0 3)) = true := by kernel_rfl

theorem fn3 : (env.fn 3).isSome = true := by kernel_rfl

theorem ran' : isTrue (run env 100000 1000 (.call 3 []) (mem0 env.ng)) = true := env_ng.symm ▸ ran

theorem known_calls (W : World) (hW : 3 ≤ W.heap.size) :
    Calls Tryd.prog 3 #[] W fun e W' => e = .returned (.bool true) ∧ (∀ b, b < W.heap.size → W'.heap[b]? = W.heap[b]?) ∧ W.heap.size ≤ W'.heap.size ∧ W'.os = W.os ∧ W'.tape = W.tape ∧ W'.output = W.output :=
  match Option.isSome_iff_exists.1 fn3 with
  | ⟨_, hx⟩ => closed_calls (j := 100000) (k := 1000) env_ok env_ext hx ran' (env_ng.symm ▸ hW)
end Go.Proofs.YtmgmbdnhodicjaaDoor
