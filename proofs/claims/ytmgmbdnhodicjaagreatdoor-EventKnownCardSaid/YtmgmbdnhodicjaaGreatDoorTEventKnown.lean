/- EventKnown: answers of calls that come again, and the run that uses them, by the kernel. Of closed terms; no condition. -/
import Derived.Test.YtmgmbdnhodicjaaGreatDoorEnv
namespace Go.Proofs.YtmgmbdnhodicjaaGreatDoor
namespace EventKnown
open Go Go.Am
set_option maxRecDepth 1000000

/-- tributary/path.Check -/
theorem p144_0 : PureE Tryz.prog 3 144 [.v (.string ⟨#[102]⟩)] (.int .i64 0) := sure0.pure 1000000 1000 (by kernel_rfl)
/-- tributary/path.Check -/
theorem p144_1 : PureE Tryz.prog 3 144 [.v (.string ⟨#[70]⟩)] (.int .i64 2) := sure0.pure 1000000 1000 (by kernel_rfl)
noncomputable def t144 : List (List DV × Value) := [([.v (.string ⟨#[102]⟩)], .int .i64 0),
  ([.v (.string ⟨#[70]⟩)], .int .i64 2)]
theorem e144 : Ents Tryz.prog 3 144 t144 := .cons p144_0 rfl <| .cons p144_1 rfl <| .nil
noncomputable def env1 : Env := env.memo (tab1 144 t144)
theorem sure1 : Sure env1 Tryz.prog := sure0.memo e144

/-- tributary/past.Check -/
theorem p131_0 : PureE Tryz.prog 3 131 [.v (.slice none 0 0)] (.int .i64 0) := sure1.pure 1000000 1000 (by kernel_rfl)
/-- tributary/past.Check -/
theorem p131_1 : PureE Tryz.prog 3 131 [.lst 3 1 [.v (.int .i64 1), .v (.int .i64 1), .v (.int .i64 1)]] (.int .i64 0) := sure1.pure 1000000 1000 (by kernel_rfl)
/-- tributary/past.Check -/
theorem p131_2 : PureE Tryz.prog 3 131 [.lst 3 1 [.v (.int .i64 2), .v (.int .i64 1), .v (.int .i64 1)]] (.int .i64 0) := sure1.pure 1000000 1000 (by kernel_rfl)
noncomputable def t131 : List (List DV × Value) := [([.v (.slice none 0 0)], .int .i64 0),
  ([.lst 3 1 [.v (.int .i64 1), .v (.int .i64 1), .v (.int .i64 1)]], .int .i64 0),
  ([.lst 3 1 [.v (.int .i64 2), .v (.int .i64 1), .v (.int .i64 1)]], .int .i64 0)]
theorem e131 : Ents Tryz.prog 3 131 t131 := .cons p131_0 rfl <| .cons p131_1 rfl <| .cons p131_2 rfl <| .nil
noncomputable def env2 : Env := env1.memo (tab1 131 t131)
theorem sure2 : Sure env2 Tryz.prog := sure1.memo e131

/-- tributary/event.Check -/
theorem p42_0 : PureE Tryz.prog 3 42 [.agg [.v (.int .i64 1), .v (.int .i64 1), .v (.string ⟨#[102]⟩), .v (.int .i64 1), .v (.int .i64 0), .v (.slice none 0 0), .v (.slice none 0 0)]] (.int .i64 0) := sure2.pure 1000000 1000 (by kernel_rfl)
/-- tributary/event.Check -/
theorem p42_1 : PureE Tryz.prog 3 42 [.agg [.v (.int .i64 2), .v (.int .i64 1), .v (.string ⟨#[102]⟩), .v (.int .i64 3), .v (.int .i64 0), .v (.slice none 0 0), .lst 3 1 [.v (.int .i64 1), .v (.int .i64 1), .v (.int .i64 1)]]] (.int .i64 0) := sure2.pure 1000000 1000 (by kernel_rfl)
/-- tributary/event.Check -/
theorem p42_2 : PureE Tryz.prog 3 42 [.agg [.v (.int .i64 1), .v (.int .i64 1), .v (.string ⟨#[102]⟩), .v (.int .i64 1), .v (.int .i64 0), .v (.slice none 0 0), .lst 3 1 [.v (.int .i64 1), .v (.int .i64 1), .v (.int .i64 1)]]] (.int .i64 2) := sure2.pure 1000000 1000 (by kernel_rfl)
/-- tributary/event.Check -/
theorem p42_3 : PureE Tryz.prog 3 42 [.agg [.v (.int .i64 1), .v (.int .i64 1), .v (.string ⟨#[70]⟩), .v (.int .i64 1), .v (.int .i64 0), .v (.slice none 0 0), .v (.slice none 0 0)]] (.int .i64 2) := sure2.pure 1000000 1000 (by kernel_rfl)
noncomputable def t42 : List (List DV × Value) := [([.agg [.v (.int .i64 1), .v (.int .i64 1), .v (.string ⟨#[102]⟩), .v (.int .i64 1), .v (.int .i64 0), .v (.slice none 0 0), .v (.slice none 0 0)]], .int .i64 0),
  ([.agg [.v (.int .i64 2), .v (.int .i64 1), .v (.string ⟨#[102]⟩), .v (.int .i64 3), .v (.int .i64 0), .v (.slice none 0 0), .lst 3 1 [.v (.int .i64 1), .v (.int .i64 1), .v (.int .i64 1)]]], .int .i64 0),
  ([.agg [.v (.int .i64 1), .v (.int .i64 1), .v (.string ⟨#[102]⟩), .v (.int .i64 1), .v (.int .i64 0), .v (.slice none 0 0), .lst 3 1 [.v (.int .i64 1), .v (.int .i64 1), .v (.int .i64 1)]]], .int .i64 2),
  ([.agg [.v (.int .i64 1), .v (.int .i64 1), .v (.string ⟨#[70]⟩), .v (.int .i64 1), .v (.int .i64 0), .v (.slice none 0 0), .v (.slice none 0 0)]], .int .i64 2)]
theorem e42 : Ents Tryz.prog 3 42 t42 := .cons p42_0 rfl <| .cons p42_1 rfl <| .cons p42_2 rfl <| .cons p42_3 rfl <| .nil
noncomputable def env3 : Env := env2.memo (tab1 42 t42)
theorem sure3 : Sure env3 Tryz.prog := sure2.memo e42

/-- tributary/event.Ahead -/
theorem p46_0 : PureE Tryz.prog 3 46 [.agg [.v (.int .i64 1), .v (.int .i64 1), .v (.string ⟨#[102]⟩), .v (.int .i64 1), .v (.int .i64 0), .v (.slice none 0 0), .v (.slice none 0 0)], .agg [.v (.int .i64 2), .v (.int .i64 1), .v (.string ⟨#[102]⟩), .v (.int .i64 3), .v (.int .i64 0), .v (.slice none 0 0), .lst 3 1 [.v (.int .i64 1), .v (.int .i64 1), .v (.int .i64 1)]]] (.bool true) := sure3.pure 1000000 1000 (by kernel_rfl)
/-- tributary/event.Ahead -/
theorem p46_1 : PureE Tryz.prog 3 46 [.agg [.v (.int .i64 2), .v (.int .i64 1), .v (.string ⟨#[102]⟩), .v (.int .i64 3), .v (.int .i64 0), .v (.slice none 0 0), .lst 3 1 [.v (.int .i64 1), .v (.int .i64 1), .v (.int .i64 1)]], .agg [.v (.int .i64 1), .v (.int .i64 1), .v (.string ⟨#[102]⟩), .v (.int .i64 1), .v (.int .i64 0), .v (.slice none 0 0), .v (.slice none 0 0)]] (.bool false) := sure3.pure 1000000 1000 (by kernel_rfl)
noncomputable def t46 : List (List DV × Value) := [([.agg [.v (.int .i64 1), .v (.int .i64 1), .v (.string ⟨#[102]⟩), .v (.int .i64 1), .v (.int .i64 0), .v (.slice none 0 0), .v (.slice none 0 0)], .agg [.v (.int .i64 2), .v (.int .i64 1), .v (.string ⟨#[102]⟩), .v (.int .i64 3), .v (.int .i64 0), .v (.slice none 0 0), .lst 3 1 [.v (.int .i64 1), .v (.int .i64 1), .v (.int .i64 1)]]], .bool true),
  ([.agg [.v (.int .i64 2), .v (.int .i64 1), .v (.string ⟨#[102]⟩), .v (.int .i64 3), .v (.int .i64 0), .v (.slice none 0 0), .lst 3 1 [.v (.int .i64 1), .v (.int .i64 1), .v (.int .i64 1)]], .agg [.v (.int .i64 1), .v (.int .i64 1), .v (.string ⟨#[102]⟩), .v (.int .i64 1), .v (.int .i64 0), .v (.slice none 0 0), .v (.slice none 0 0)]], .bool false)]
theorem e46 : Ents Tryz.prog 3 46 t46 := .cons p46_0 rfl <| .cons p46_1 rfl <| .nil
noncomputable def env4 : Env := env3.memo (tab1 46 t46)
theorem sure4 : Sure env4 Tryz.prog := sure3.memo e46

/-- math/bits.Len64 -/
theorem p163_0 : PureE Tryz.prog 3 163 [.v (.int .u64 1)] (.int .i64 1) := sure4.pure 1000000 1000 (by kernel_rfl)
/-- math/bits.Len64 -/
theorem p163_1 : PureE Tryz.prog 3 163 [.v (.int .u64 0)] (.int .i64 0) := sure4.pure 1000000 1000 (by kernel_rfl)
/-- math/bits.Len64 -/
theorem p163_2 : PureE Tryz.prog 3 163 [.v (.int .u64 4)] (.int .i64 3) := sure4.pure 1000000 1000 (by kernel_rfl)
/-- math/bits.Len64 -/
theorem p163_3 : PureE Tryz.prog 3 163 [.v (.int .u64 2)] (.int .i64 2) := sure4.pure 1000000 1000 (by kernel_rfl)
noncomputable def t163 : List (List DV × Value) := [([.v (.int .u64 1)], .int .i64 1),
  ([.v (.int .u64 0)], .int .i64 0),
  ([.v (.int .u64 4)], .int .i64 3),
  ([.v (.int .u64 2)], .int .i64 2)]
theorem e163 : Ents Tryz.prog 3 163 t163 := .cons p163_0 rfl <| .cons p163_1 rfl <| .cons p163_2 rfl <| .cons p163_3 rfl <| .nil
noncomputable def env5 : Env := env4.memo (tab1 163 t163)
theorem sure5 : Sure env5 Tryz.prog := sure4.memo e163

theorem ran : isTrue (run env5 1000000 1000 (.call 8 []) (mem0 3)) = true := by kernel_rfl
theorem fn : (env.fn 8).isSome = true := by kernel_rfl
theorem calls (W : World) (hW : 3 ≤ W.heap.size) :
    Calls Tryz.prog 8 #[] W fun e W' => e = .returned (.bool true) ∧ (∀ b, b < W.heap.size → W'.heap[b]? = W.heap[b]?) ∧ W.heap.size ≤ W'.heap.size ∧ W'.os = W.os ∧ W'.tape = W.tape ∧ W'.output = W.output :=
  match Option.isSome_iff_exists.1 fn with
  | ⟨_, hx⟩ => closed_calls' (E := env5) (j := 1000000) (k := 1000) sure5.ok sure5.ext sure5.keep hx (show isTrue (run env5 1000000 1000 (.call 8 []) (mem0 env.ng)) = true from env_ng.symm ▸ ran) (show env.ng ≤ _ from env_ng.symm ▸ hW)
end EventKnown
end Go.Proofs.YtmgmbdnhodicjaaGreatDoor
