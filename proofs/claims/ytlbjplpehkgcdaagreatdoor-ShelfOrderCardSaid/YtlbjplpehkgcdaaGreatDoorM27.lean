/- ShelfOrder holds. Part 27 of 32; no condition. -/
import Derived.Test.YtlbjplpehkgcdaaGreatDoorM26
set_option linter.unusedVariables false
set_option linter.unusedSimpArgs false
set_option maxHeartbeats 4000000
set_option maxRecDepth 100000
noncomputable section
namespace Go.Proofs.YtlbjplpehkgcdaaGreatDoor
namespace awake
open Go Go.Am
set_option maxRecDepth 1000000
theorem aKN : aC Tryz.prog 3 41 [.agg [.v (.int .i64 1), .v (.int .i64 1), .v (.string ⟨#[102]⟩), .v (.int .i64 1), .v (.int .i64 0), .v (.slice none 0 0), .v (.slice none 0 0)]] (.int .i64 0) := jH.pure 1000000 1000 (by kernel_rfl)
theorem aLC : aC Tryz.prog 3 41 [.agg [.v (.int .i64 2), .v (.int .i64 1), .v (.string ⟨#[102]⟩), .v (.int .i64 3), .v (.int .i64 0), .v (.slice none 0 0), .lst 3 1 [.v (.int .i64 1), .v (.int .i64 1), .v (.int .i64 1)]]] (.int .i64 0) := jH.pure 1000000 1000 (by kernel_rfl)
theorem aLV : aC Tryz.prog 3 41 [.agg [.v (.int .i64 3), .v (.int .i64 1), .v (.string ⟨#[102]⟩), .v (.int .i64 2), .v (.int .i64 0), .v (.slice none 0 0), .v (.slice none 0 0)]] (.int .i64 0) := jH.pure 1000000 1000 (by kernel_rfl)
def t41 : List (List DV × Value) := [([.agg [.v (.int .i64 1), .v (.int .i64 1), .v (.string ⟨#[102]⟩), .v (.int .i64 1), .v (.int .i64 0), .v (.slice none 0 0), .v (.slice none 0 0)]], .int .i64 0),
 ([.agg [.v (.int .i64 2), .v (.int .i64 1), .v (.string ⟨#[102]⟩), .v (.int .i64 3), .v (.int .i64 0), .v (.slice none 0 0), .lst 3 1 [.v (.int .i64 1), .v (.int .i64 1), .v (.int .i64 1)]]], .int .i64 0),
 ([.agg [.v (.int .i64 3), .v (.int .i64 1), .v (.string ⟨#[102]⟩), .v (.int .i64 2), .v (.int .i64 0), .v (.slice none 0 0), .v (.slice none 0 0)]], .int .i64 0)]
theorem e41 : wY Tryz.prog 3 41 t41 := .cons aKN rfl <| .cons aLC rfl <| .cons aLV rfl <| .nil
def env1 : i9 := aUN.memo (aMM 41 t41)
theorem sure1 : gK env1 Tryz.prog := jH.memo e41
theorem ran : iN (run env1 1000000 1000 (.call 7 []) (nP 3)) = true := by kernel_rfl
theorem fn : (env.fn 7).isSome = true := by kernel_rfl
theorem bAL (W : World) (hW : 3 <= W.heap.size) :
  Calls Tryz.prog 7 #[] W fun e W' => e = .returned (.bool true) /\ (∀ b, b < W.heap.size -> W'.heap[b]? = W.heap[b]?) /\ W.heap.size <= W'.heap.size /\ W'.os = W.os /\ W'.tape = W.tape /\ W'.output = W.output :=
 match Option.isSome_iff_exists.1 fn with
 | ⟨_, hx⟩ => gL (E := env1) (j := 1000000) (k := 1000) sure1.ok sure1.ext sure1.keep hx (show iN (run env1 1000000 1000 (.call 7 []) (nP env.ng)) = true from oY.symm ▸ ran) (show env.ng <= _ from oY.symm ▸ hW)
end awake
end Go.Proofs.YtlbjplpehkgcdaaGreatDoor
end