/- VfsNone: the law returns true, of all arguments of its types, in whatever memory. Part 27 of 29; no condition. -/
import Derived.Test.YtnhhppflnpfehaaGreatDoorM26
section
/- awake: answers of calls that come again, and the run that uses them, by the kernel. Of closed terms; no condition. -/
namespace Go.Proofs.YtnhhppflnpfehaaGreatDoor
namespace awake
open Go Go.Am
set_option maxRecDepth 1000000

/-- tributary/path.part -/
theorem p53_0 : PureE Tryz.prog 3 53 [.v (.string ⟨#[97]⟩)] (.bool true) := sureB.pure 1000000 1000 (by kernel_rfl)
/-- tributary/path.part -/
theorem p53_1 : PureE Tryz.prog 3 53 [.v (.string ⟨#[98]⟩)] (.bool true) := sureB.pure 1000000 1000 (by kernel_rfl)
/-- tributary/path.part -/
theorem p53_2 : PureE Tryz.prog 3 53 [.v (.string ⟨#[99]⟩)] (.bool true) := sureB.pure 1000000 1000 (by kernel_rfl)
noncomputable def t53 : List (List DV × Value) := [([.v (.string ⟨#[97]⟩)], .bool true),
  ([.v (.string ⟨#[98]⟩)], .bool true),
  ([.v (.string ⟨#[99]⟩)], .bool true)]
theorem e53 : Ents Tryz.prog 3 53 t53 := .cons p53_0 rfl <| .cons p53_1 rfl <| .cons p53_2 rfl <| .nil
noncomputable def env1 : Env := envB.memo (tab1 53 t53)
theorem sure1 : Sure env1 Tryz.prog := sureB.memo e53

/-- tributary/path.Check -/
theorem p31_0 : PureE Tryz.prog 3 31 [.v (.string ⟨#[97]⟩)] (.int .i64 0) := sure1.pure 1000000 1000 (by kernel_rfl)
/-- tributary/path.Check -/
theorem p31_1 : PureE Tryz.prog 3 31 [.v (.string ⟨#[97, 47, 98]⟩)] (.int .i64 0) := sure1.pure 1000000 1000 (by kernel_rfl)
/-- tributary/path.Check -/
theorem p31_2 : PureE Tryz.prog 3 31 [.v (.string ⟨#[99]⟩)] (.int .i64 0) := sure1.pure 1000000 1000 (by kernel_rfl)
/-- tributary/path.Check -/
theorem p31_3 : PureE Tryz.prog 3 31 [.v (.string ⟨#[99, 47, 98]⟩)] (.int .i64 0) := sure1.pure 1000000 1000 (by kernel_rfl)
noncomputable def t31 : List (List DV × Value) := [([.v (.string ⟨#[97]⟩)], .int .i64 0),
  ([.v (.string ⟨#[97, 47, 98]⟩)], .int .i64 0),
  ([.v (.string ⟨#[99]⟩)], .int .i64 0),
  ([.v (.string ⟨#[99, 47, 98]⟩)], .int .i64 0)]
theorem e31 : Ents Tryz.prog 3 31 t31 := .cons p31_0 rfl <| .cons p31_1 rfl <| .cons p31_2 rfl <| .cons p31_3 rfl <| .nil
noncomputable def env2 : Env := env1.memo (tab1 31 t31)
theorem sure2 : Sure env2 Tryz.prog := sure1.memo e31

/-- tributary/path.Parent -/
theorem p62_0 : PureA Tryz.prog 3 62 [.v (.string ⟨#[97]⟩)] (.tl [.string ⟨#[]⟩, .bool false]) := sure2.ans 1000000 1000 (by kernel_rfl)
/-- tributary/path.Parent -/
theorem p62_1 : PureA Tryz.prog 3 62 [.v (.string ⟨#[97, 47, 98]⟩)] (.tl [.string ⟨#[97]⟩, .bool true]) := sure2.ans 1000000 1000 (by kernel_rfl)
/-- tributary/path.Parent -/
theorem p62_2 : PureA Tryz.prog 3 62 [.v (.string ⟨#[99]⟩)] (.tl [.string ⟨#[]⟩, .bool false]) := sure2.ans 1000000 1000 (by kernel_rfl)
noncomputable def t62 : List (List DV × Ans) := [([.v (.string ⟨#[97]⟩)], .tl [.string ⟨#[]⟩, .bool false]),
  ([.v (.string ⟨#[97, 47, 98]⟩)], .tl [.string ⟨#[97]⟩, .bool true]),
  ([.v (.string ⟨#[99]⟩)], .tl [.string ⟨#[]⟩, .bool false])]
theorem e62 : EntsA Tryz.prog 3 62 t62 := .cons p62_0 <| .cons p62_1 <| .cons p62_2 <| .nil
noncomputable def env3 : Env := env2.memoA 62 t62
theorem sure3 : Sure env3 Tryz.prog := sure2.memoA e62

/-- tributary/path.Less -/
theorem p61_0 : PureE Tryz.prog 3 61 [.v (.string ⟨#[97]⟩), .v (.string ⟨#[97, 47, 98]⟩)] (.bool true) := sure3.pure 1000000 1000 (by kernel_rfl)
/-- tributary/path.Less -/
theorem p61_1 : PureE Tryz.prog 3 61 [.v (.string ⟨#[99, 47, 98]⟩), .v (.string ⟨#[99]⟩)] (.bool false) := sure3.pure 1000000 1000 (by kernel_rfl)
/-- tributary/path.Less -/
theorem p61_2 : PureE Tryz.prog 3 61 [.v (.string ⟨#[99]⟩), .v (.string ⟨#[99, 47, 98]⟩)] (.bool true) := sure3.pure 1000000 1000 (by kernel_rfl)
noncomputable def t61 : List (List DV × Value) := [([.v (.string ⟨#[97]⟩), .v (.string ⟨#[97, 47, 98]⟩)], .bool true),
  ([.v (.string ⟨#[99, 47, 98]⟩), .v (.string ⟨#[99]⟩)], .bool false),
  ([.v (.string ⟨#[99]⟩), .v (.string ⟨#[99, 47, 98]⟩)], .bool true)]
theorem e61 : Ents Tryz.prog 3 61 t61 := .cons p61_0 rfl <| .cons p61_1 rfl <| .cons p61_2 rfl <| .nil
noncomputable def env4 : Env := env3.memo (tab1 61 t61)
theorem sure4 : Sure env4 Tryz.prog := sure3.memo e61

/-- tributary/tributarylaw13.awake -/
theorem p5_0 : PureE Tryz.prog 3 5 [] (.bool true) := sure4.pure 1000000 1000 (by kernel_rfl)
noncomputable def t5 : List (List DV × Value) := [([], .bool true)]
theorem e5 : Ents Tryz.prog 3 5 t5 := .cons p5_0 rfl <| .nil
noncomputable def env5 : Env := env4.memo (tab1 5 t5)
theorem sure5 : Sure env5 Tryz.prog := sure4.memo e5

theorem ran : isTrue (run env5 1000000 1000 (.call 5 []) (mem0 3)) = true := by kernel_rfl
theorem fn : (env.fn 5).isSome = true := by kernel_rfl
theorem calls (W : World) (hW : 3 ≤ W.heap.size) :
    Calls Tryz.prog 5 #[] W fun e W' => e = .returned (.bool true) ∧ (∀ b, b < W.heap.size → W'.heap[b]? = W.heap[b]?) ∧ W.heap.size ≤ W'.heap.size ∧ W'.os = W.os ∧ W'.tape = W.tape ∧ W'.output = W.output :=
  match Option.isSome_iff_exists.1 fn with
  | ⟨_, hx⟩ => closed_calls' (E := env5) (j := 1000000) (k := 1000) sure5.ok sure5.ext sure5.keep hx (show isTrue (run env5 1000000 1000 (.call 5 []) (mem0 env.ng)) = true from env_ng.symm ▸ ran) (show env.ng ≤ _ from env_ng.symm ▸ hW)
end awake
end Go.Proofs.YtnhhppflnpfehaaGreatDoor
end
