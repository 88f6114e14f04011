/- ShelfKnown: answers of calls that come again, and the run that uses them, by the kernel. Of closed terms; no condition. -/
import Derived.Test.YtdnghlgepoilpaaGreatDoorEnvB
namespace Go.Proofs.YtdnghlgepoilpaaGreatDoor
namespace ShelfKnown
open Go Go.Am
set_option maxRecDepth 1000000

/-- tributary/path.Check -/
theorem p77_0 : PureE Tryz.prog 3 77 [.v (.string ⟨#[102]⟩)] (.int .i64 0) := sureB.pure 1000000 1000 (by kernel_rfl)
/-- tributary/path.Check -/
theorem p77_1 : PureE Tryz.prog 3 77 [.v (.string ⟨#[103]⟩)] (.int .i64 0) := sureB.pure 1000000 1000 (by kernel_rfl)
noncomputable def t77 : List (List DV × Value) := [([.v (.string ⟨#[102]⟩)], .int .i64 0),
  ([.v (.string ⟨#[103]⟩)], .int .i64 0)]
theorem e77 : Ents Tryz.prog 3 77 t77 := .cons p77_0 rfl <| .cons p77_1 rfl <| .nil
noncomputable def env1 : Env := envB.memo (tab1 77 t77)
theorem sure1 : Sure env1 Tryz.prog := sureB.memo e77

/-- tributary/past.Check -/
theorem p74_0 : PureE Tryz.prog 3 74 [.v (.slice none 0 0)] (.int .i64 0) := sure1.pure 1000000 1000 (by kernel_rfl)
/-- tributary/past.Check -/
theorem p74_1 : PureE Tryz.prog 3 74 [.lst 3 1 [.v (.int .i64 1), .v (.int .i64 1), .v (.int .i64 1)]] (.int .i64 0) := sure1.pure 1000000 1000 (by kernel_rfl)
/-- tributary/past.Check -/
theorem p74_2 : PureE Tryz.prog 3 74 [.lst 3 1 [.v (.int .i64 2), .v (.int .i64 1), .v (.int .i64 1)]] (.int .i64 0) := sure1.pure 1000000 1000 (by kernel_rfl)
noncomputable def t74 : List (List DV × Value) := [([.v (.slice none 0 0)], .int .i64 0),
  ([.lst 3 1 [.v (.int .i64 1), .v (.int .i64 1), .v (.int .i64 1)]], .int .i64 0),
  ([.lst 3 1 [.v (.int .i64 2), .v (.int .i64 1), .v (.int .i64 1)]], .int .i64 0)]
theorem e74 : Ents Tryz.prog 3 74 t74 := .cons p74_0 rfl <| .cons p74_1 rfl <| .cons p74_2 rfl <| .nil
noncomputable def env2 : Env := env1.memo (tab1 74 t74)
theorem sure2 : Sure env2 Tryz.prog := sure1.memo e74

/-- tributary/event.Check -/
theorem p28_0 : PureE Tryz.prog 3 28 [.agg [.v (.int .i64 1), .v (.int .i64 1), .v (.string ⟨#[102]⟩), .v (.int .i64 1), .v (.int .i64 0), .v (.slice none 0 0), .v (.slice none 0 0)]] (.int .i64 0) := sure2.pure 1000000 1000 (by kernel_rfl)
/-- tributary/event.Check -/
theorem p28_1 : PureE Tryz.prog 3 28 [.agg [.v (.int .i64 2), .v (.int .i64 1), .v (.string ⟨#[102]⟩), .v (.int .i64 3), .v (.int .i64 0), .v (.slice none 0 0), .lst 3 1 [.v (.int .i64 1), .v (.int .i64 1), .v (.int .i64 1)]]] (.int .i64 0) := sure2.pure 1000000 1000 (by kernel_rfl)
/-- tributary/event.Check -/
theorem p28_2 : PureE Tryz.prog 3 28 [.agg [.v (.int .i64 3), .v (.int .i64 1), .v (.string ⟨#[102]⟩), .v (.int .i64 2), .v (.int .i64 0), .v (.slice none 0 0), .v (.slice none 0 0)]] (.int .i64 0) := sure2.pure 1000000 1000 (by kernel_rfl)
/-- tributary/event.Check -/
theorem p28_3 : PureE Tryz.prog 3 28 [.agg [.v (.int .i64 1), .v (.int .i64 2), .v (.string ⟨#[103]⟩), .v (.int .i64 1), .v (.int .i64 0), .v (.slice none 0 0), .v (.slice none 0 0)]] (.int .i64 0) := sure2.pure 1000000 1000 (by kernel_rfl)
noncomputable def t28 : List (List DV × Value) := [([.agg [.v (.int .i64 1), .v (.int .i64 1), .v (.string ⟨#[102]⟩), .v (.int .i64 1), .v (.int .i64 0), .v (.slice none 0 0), .v (.slice none 0 0)]], .int .i64 0),
  ([.agg [.v (.int .i64 2), .v (.int .i64 1), .v (.string ⟨#[102]⟩), .v (.int .i64 3), .v (.int .i64 0), .v (.slice none 0 0), .lst 3 1 [.v (.int .i64 1), .v (.int .i64 1), .v (.int .i64 1)]]], .int .i64 0),
  ([.agg [.v (.int .i64 3), .v (.int .i64 1), .v (.string ⟨#[102]⟩), .v (.int .i64 2), .v (.int .i64 0), .v (.slice none 0 0), .v (.slice none 0 0)]], .int .i64 0),
  ([.agg [.v (.int .i64 1), .v (.int .i64 2), .v (.string ⟨#[103]⟩), .v (.int .i64 1), .v (.int .i64 0), .v (.slice none 0 0), .v (.slice none 0 0)]], .int .i64 0)]
theorem e28 : Ents Tryz.prog 3 28 t28 := .cons p28_0 rfl <| .cons p28_1 rfl <| .cons p28_2 rfl <| .cons p28_3 rfl <| .nil
noncomputable def env3 : Env := env2.memo (tab1 28 t28)
theorem sure3 : Sure env3 Tryz.prog := sure2.memo e28

/-- tributary/event.Ahead -/
theorem p32_0 : PureE Tryz.prog 3 32 [.agg [.v (.int .i64 1), .v (.int .i64 1), .v (.string ⟨#[102]⟩), .v (.int .i64 1), .v (.int .i64 0), .v (.slice none 0 0), .v (.slice none 0 0)], .agg [.v (.int .i64 1), .v (.int .i64 1), .v (.string ⟨#[102]⟩), .v (.int .i64 1), .v (.int .i64 0), .v (.slice none 0 0), .v (.slice none 0 0)]] (.bool false) := sure3.pure 1000000 1000 (by kernel_rfl)
/-- tributary/event.Ahead -/
theorem p32_1 : PureE Tryz.prog 3 32 [.agg [.v (.int .i64 2), .v (.int .i64 1), .v (.string ⟨#[102]⟩), .v (.int .i64 3), .v (.int .i64 0), .v (.slice none 0 0), .lst 3 1 [.v (.int .i64 1), .v (.int .i64 1), .v (.int .i64 1)]], .agg [.v (.int .i64 2), .v (.int .i64 1), .v (.string ⟨#[102]⟩), .v (.int .i64 3), .v (.int .i64 0), .v (.slice none 0 0), .lst 3 1 [.v (.int .i64 1), .v (.int .i64 1), .v (.int .i64 1)]]] (.bool false) := sure3.pure 1000000 1000 (by kernel_rfl)
/-- tributary/event.Ahead -/
theorem p32_2 : PureE Tryz.prog 3 32 [.agg [.v (.int .i64 2), .v (.int .i64 1), .v (.string ⟨#[102]⟩), .v (.int .i64 3), .v (.int .i64 0), .v (.slice none 0 0), .lst 3 1 [.v (.int .i64 1), .v (.int .i64 1), .v (.int .i64 1)]], .agg [.v (.int .i64 1), .v (.int .i64 1), .v (.string ⟨#[102]⟩), .v (.int .i64 1), .v (.int .i64 0), .v (.slice none 0 0), .v (.slice none 0 0)]] (.bool false) := sure3.pure 1000000 1000 (by kernel_rfl)
/-- tributary/event.Ahead -/
theorem p32_3 : PureE Tryz.prog 3 32 [.agg [.v (.int .i64 1), .v (.int .i64 1), .v (.string ⟨#[102]⟩), .v (.int .i64 1), .v (.int .i64 0), .v (.slice none 0 0), .v (.slice none 0 0)], .agg [.v (.int .i64 2), .v (.int .i64 1), .v (.string ⟨#[102]⟩), .v (.int .i64 3), .v (.int .i64 0), .v (.slice none 0 0), .lst 3 1 [.v (.int .i64 1), .v (.int .i64 1), .v (.int .i64 1)]]] (.bool true) := sure3.pure 1000000 1000 (by kernel_rfl)
/-- tributary/event.Ahead -/
theorem p32_4 : PureE Tryz.prog 3 32 [.agg [.v (.int .i64 1), .v (.int .i64 1), .v (.string ⟨#[102]⟩), .v (.int .i64 1), .v (.int .i64 0), .v (.slice none 0 0), .v (.slice none 0 0)], .agg [.v (.int .i64 3), .v (.int .i64 1), .v (.string ⟨#[102]⟩), .v (.int .i64 2), .v (.int .i64 0), .v (.slice none 0 0), .v (.slice none 0 0)]] (.bool false) := sure3.pure 1000000 1000 (by kernel_rfl)
/-- tributary/event.Ahead -/
theorem p32_5 : PureE Tryz.prog 3 32 [.agg [.v (.int .i64 3), .v (.int .i64 1), .v (.string ⟨#[102]⟩), .v (.int .i64 2), .v (.int .i64 0), .v (.slice none 0 0), .v (.slice none 0 0)], .agg [.v (.int .i64 1), .v (.int .i64 1), .v (.string ⟨#[102]⟩), .v (.int .i64 1), .v (.int .i64 0), .v (.slice none 0 0), .v (.slice none 0 0)]] (.bool false) := sure3.pure 1000000 1000 (by kernel_rfl)
/-- tributary/event.Ahead -/
theorem p32_6 : PureE Tryz.prog 3 32 [.agg [.v (.int .i64 3), .v (.int .i64 1), .v (.string ⟨#[102]⟩), .v (.int .i64 2), .v (.int .i64 0), .v (.slice none 0 0), .v (.slice none 0 0)], .agg [.v (.int .i64 3), .v (.int .i64 1), .v (.string ⟨#[102]⟩), .v (.int .i64 2), .v (.int .i64 0), .v (.slice none 0 0), .v (.slice none 0 0)]] (.bool false) := sure3.pure 1000000 1000 (by kernel_rfl)
/-- tributary/event.Ahead -/
theorem p32_7 : PureE Tryz.prog 3 32 [.agg [.v (.int .i64 2), .v (.int .i64 1), .v (.string ⟨#[102]⟩), .v (.int .i64 3), .v (.int .i64 0), .v (.slice none 0 0), .lst 3 1 [.v (.int .i64 1), .v (.int .i64 1), .v (.int .i64 1)]], .agg [.v (.int .i64 3), .v (.int .i64 1), .v (.string ⟨#[102]⟩), .v (.int .i64 2), .v (.int .i64 0), .v (.slice none 0 0), .v (.slice none 0 0)]] (.bool false) := sure3.pure 1000000 1000 (by kernel_rfl)
/-- tributary/event.Ahead -/
theorem p32_8 : PureE Tryz.prog 3 32 [.agg [.v (.int .i64 3), .v (.int .i64 1), .v (.string ⟨#[102]⟩), .v (.int .i64 2), .v (.int .i64 0), .v (.slice none 0 0), .v (.slice none 0 0)], .agg [.v (.int .i64 2), .v (.int .i64 1), .v (.string ⟨#[102]⟩), .v (.int .i64 3), .v (.int .i64 0), .v (.slice none 0 0), .lst 3 1 [.v (.int .i64 1), .v (.int .i64 1), .v (.int .i64 1)]]] (.bool false) := sure3.pure 1000000 1000 (by kernel_rfl)
/-- tributary/event.Ahead -/
theorem p32_9 : PureE Tryz.prog 3 32 [.agg [.v (.int .i64 1), .v (.int .i64 2), .v (.string ⟨#[103]⟩), .v (.int .i64 1), .v (.int .i64 0), .v (.slice none 0 0), .v (.slice none 0 0)], .agg [.v (.int .i64 1), .v (.int .i64 2), .v (.string ⟨#[103]⟩), .v (.int .i64 1), .v (.int .i64 0), .v (.slice none 0 0), .v (.slice none 0 0)]] (.bool false) := sure3.pure 1000000 1000 (by kernel_rfl)
noncomputable def t32 : List (List DV × Value) := [([.agg [.v (.int .i64 1), .v (.int .i64 1), .v (.string ⟨#[102]⟩), .v (.int .i64 1), .v (.int .i64 0), .v (.slice none 0 0), .v (.slice none 0 0)], .agg [.v (.int .i64 1), .v (.int .i64 1), .v (.string ⟨#[102]⟩), .v (.int .i64 1), .v (.int .i64 0), .v (.slice none 0 0), .v (.slice none 0 0)]], .bool false),
  ([.agg [.v (.int .i64 2), .v (.int .i64 1), .v (.string ⟨#[102]⟩), .v (.int .i64 3), .v (.int .i64 0), .v (.slice none 0 0), .lst 3 1 [.v (.int .i64 1), .v (.int .i64 1), .v (.int .i64 1)]], .agg [.v (.int .i64 2), .v (.int .i64 1), .v (.string ⟨#[102]⟩), .v (.int .i64 3), .v (.int .i64 0), .v (.slice none 0 0), .lst 3 1 [.v (.int .i64 1), .v (.int .i64 1), .v (.int .i64 1)]]], .bool false),
  ([.agg [.v (.int .i64 2), .v (.int .i64 1), .v (.string ⟨#[102]⟩), .v (.int .i64 3), .v (.int .i64 0), .v (.slice none 0 0), .lst 3 1 [.v (.int .i64 1), .v (.int .i64 1), .v (.int .i64 1)]], .agg [.v (.int .i64 1), .v (.int .i64 1), .v (.string ⟨#[102]⟩), .v (.int .i64 1), .v (.int .i64 0), .v (.slice none 0 0), .v (.slice none 0 0)]], .bool false),
  ([.agg [.v (.int .i64 1), .v (.int .i64 1), .v (.string ⟨#[102]⟩), .v (.int .i64 1), .v (.int .i64 0), .v (.slice none 0 0), .v (.slice none 0 0)], .agg [.v (.int .i64 2), .v (.int .i64 1), .v (.string ⟨#[102]⟩), .v (.int .i64 3), .v (.int .i64 0), .v (.slice none 0 0), .lst 3 1 [.v (.int .i64 1), .v (.int .i64 1), .v (.int .i64 1)]]], .bool true),
  ([.agg [.v (.int .i64 1), .v (.int .i64 1), .v (.string ⟨#[102]⟩), .v (.int .i64 1), .v (.int .i64 0), .v (.slice none 0 0), .v (.slice none 0 0)], .agg [.v (.int .i64 3), .v (.int .i64 1), .v (.string ⟨#[102]⟩), .v (.int .i64 2), .v (.int .i64 0), .v (.slice none 0 0), .v (.slice none 0 0)]], .bool false),
  ([.agg [.v (.int .i64 3), .v (.int .i64 1), .v (.string ⟨#[102]⟩), .v (.int .i64 2), .v (.int .i64 0), .v (.slice none 0 0), .v (.slice none 0 0)], .agg [.v (.int .i64 1), .v (.int .i64 1), .v (.string ⟨#[102]⟩), .v (.int .i64 1), .v (.int .i64 0), .v (.slice none 0 0), .v (.slice none 0 0)]], .bool false),
  ([.agg [.v (.int .i64 3), .v (.int .i64 1), .v (.string ⟨#[102]⟩), .v (.int .i64 2), .v (.int .i64 0), .v (.slice none 0 0), .v (.slice none 0 0)], .agg [.v (.int .i64 3), .v (.int .i64 1), .v (.string ⟨#[102]⟩), .v (.int .i64 2), .v (.int .i64 0), .v (.slice none 0 0), .v (.slice none 0 0)]], .bool false),
  ([.agg [.v (.int .i64 2), .v (.int .i64 1), .v (.string ⟨#[102]⟩), .v (.int .i64 3), .v (.int .i64 0), .v (.slice none 0 0), .lst 3 1 [.v (.int .i64 1), .v (.int .i64 1), .v (.int .i64 1)]], .agg [.v (.int .i64 3), .v (.int .i64 1), .v (.string ⟨#[102]⟩), .v (.int .i64 2), .v (.int .i64 0), .v (.slice none 0 0), .v (.slice none 0 0)]], .bool false),
  ([.agg [.v (.int .i64 3), .v (.int .i64 1), .v (.string ⟨#[102]⟩), .v (.int .i64 2), .v (.int .i64 0), .v (.slice none 0 0), .v (.slice none 0 0)], .agg [.v (.int .i64 2), .v (.int .i64 1), .v (.string ⟨#[102]⟩), .v (.int .i64 3), .v (.int .i64 0), .v (.slice none 0 0), .lst 3 1 [.v (.int .i64 1), .v (.int .i64 1), .v (.int .i64 1)]]], .bool false),
  ([.agg [.v (.int .i64 1), .v (.int .i64 2), .v (.string ⟨#[103]⟩), .v (.int .i64 1), .v (.int .i64 0), .v (.slice none 0 0), .v (.slice none 0 0)], .agg [.v (.int .i64 1), .v (.int .i64 2), .v (.string ⟨#[103]⟩), .v (.int .i64 1), .v (.int .i64 0), .v (.slice none 0 0), .v (.slice none 0 0)]], .bool false)]
theorem e32 : Ents Tryz.prog 3 32 t32 := .cons p32_0 rfl <| .cons p32_1 rfl <| .cons p32_2 rfl <| .cons p32_3 rfl <| .cons p32_4 rfl <| .cons p32_5 rfl <| .cons p32_6 rfl <| .cons p32_7 rfl <| .cons p32_8 rfl <| .cons p32_9 rfl <| .nil
noncomputable def env4 : Env := env3.memo (tab1 32 t32)
theorem sure4 : Sure env4 Tryz.prog := sure3.memo e32

/-- tributary/shelf.Check -/
theorem p14_0 : PureE Tryz.prog 3 14 [.lst 7 1 [.v (.int .i64 1), .v (.int .i64 1), .v (.string ⟨#[102]⟩), .v (.int .i64 1), .v (.int .i64 0), .v (.slice none 0 0), .v (.slice none 0 0)]] (.int .i64 0) := sure4.pure 1000000 1000 (by kernel_rfl)
/-- tributary/shelf.Check -/
theorem p14_1 : PureE Tryz.prog 3 14 [.lst 7 1 [.v (.int .i64 2), .v (.int .i64 1), .v (.string ⟨#[102]⟩), .v (.int .i64 3), .v (.int .i64 0), .v (.slice none 0 0), .lst 3 1 [.v (.int .i64 1), .v (.int .i64 1), .v (.int .i64 1)]]] (.int .i64 0) := sure4.pure 1000000 1000 (by kernel_rfl)
/-- tributary/shelf.Check -/
theorem p14_2 : PureE Tryz.prog 3 14 [.lst 7 2 [.v (.int .i64 1), .v (.int .i64 1), .v (.string ⟨#[102]⟩), .v (.int .i64 1), .v (.int .i64 0), .v (.slice none 0 0), .v (.slice none 0 0), .v (.int .i64 3), .v (.int .i64 1), .v (.string ⟨#[102]⟩), .v (.int .i64 2), .v (.int .i64 0), .v (.slice none 0 0), .v (.slice none 0 0)]] (.int .i64 0) := sure4.pure 1000000 1000 (by kernel_rfl)
/-- tributary/shelf.Check -/
theorem p14_3 : PureE Tryz.prog 3 14 [.lst 7 1 [.v (.int .i64 1), .v (.int .i64 2), .v (.string ⟨#[103]⟩), .v (.int .i64 1), .v (.int .i64 0), .v (.slice none 0 0), .v (.slice none 0 0)]] (.int .i64 0) := sure4.pure 1000000 1000 (by kernel_rfl)
/-- tributary/shelf.Check -/
theorem p14_4 : PureE Tryz.prog 3 14 [.lst 7 2 [.v (.int .i64 1), .v (.int .i64 1), .v (.string ⟨#[102]⟩), .v (.int .i64 1), .v (.int .i64 0), .v (.slice none 0 0), .v (.slice none 0 0), .v (.int .i64 2), .v (.int .i64 1), .v (.string ⟨#[102]⟩), .v (.int .i64 3), .v (.int .i64 0), .v (.slice none 0 0), .lst 3 1 [.v (.int .i64 1), .v (.int .i64 1), .v (.int .i64 1)]]] (.int .i64 2) := sure4.pure 1000000 1000 (by kernel_rfl)
/-- tributary/shelf.Check -/
theorem p14_5 : PureE Tryz.prog 3 14 [.lst 7 2 [.v (.int .i64 3), .v (.int .i64 1), .v (.string ⟨#[102]⟩), .v (.int .i64 2), .v (.int .i64 0), .v (.slice none 0 0), .v (.slice none 0 0), .v (.int .i64 1), .v (.int .i64 1), .v (.string ⟨#[102]⟩), .v (.int .i64 1), .v (.int .i64 0), .v (.slice none 0 0), .v (.slice none 0 0)]] (.int .i64 2) := sure4.pure 1000000 1000 (by kernel_rfl)
/-- tributary/shelf.Check -/
theorem p14_6 : PureE Tryz.prog 3 14 [.v (.slice none 0 0)] (.int .i64 0) := sure4.pure 1000000 1000 (by kernel_rfl)
/-- tributary/shelf.Check -/
theorem p14_7 : PureE Tryz.prog 3 14 [.lst 7 1 [.v (.int .i64 3), .v (.int .i64 1), .v (.string ⟨#[102]⟩), .v (.int .i64 2), .v (.int .i64 0), .v (.slice none 0 0), .v (.slice none 0 0)]] (.int .i64 0) := sure4.pure 1000000 1000 (by kernel_rfl)
noncomputable def t14 : List (List DV × Value) := [([.lst 7 1 [.v (.int .i64 1), .v (.int .i64 1), .v (.string ⟨#[102]⟩), .v (.int .i64 1), .v (.int .i64 0), .v (.slice none 0 0), .v (.slice none 0 0)]], .int .i64 0),
  ([.lst 7 1 [.v (.int .i64 2), .v (.int .i64 1), .v (.string ⟨#[102]⟩), .v (.int .i64 3), .v (.int .i64 0), .v (.slice none 0 0), .lst 3 1 [.v (.int .i64 1), .v (.int .i64 1), .v (.int .i64 1)]]], .int .i64 0),
  ([.lst 7 2 [.v (.int .i64 1), .v (.int .i64 1), .v (.string ⟨#[102]⟩), .v (.int .i64 1), .v (.int .i64 0), .v (.slice none 0 0), .v (.slice none 0 0), .v (.int .i64 3), .v (.int .i64 1), .v (.string ⟨#[102]⟩), .v (.int .i64 2), .v (.int .i64 0), .v (.slice none 0 0), .v (.slice none 0 0)]], .int .i64 0),
  ([.lst 7 1 [.v (.int .i64 1), .v (.int .i64 2), .v (.string ⟨#[103]⟩), .v (.int .i64 1), .v (.int .i64 0), .v (.slice none 0 0), .v (.slice none 0 0)]], .int .i64 0),
  ([.lst 7 2 [.v (.int .i64 1), .v (.int .i64 1), .v (.string ⟨#[102]⟩), .v (.int .i64 1), .v (.int .i64 0), .v (.slice none 0 0), .v (.slice none 0 0), .v (.int .i64 2), .v (.int .i64 1), .v (.string ⟨#[102]⟩), .v (.int .i64 3), .v (.int .i64 0), .v (.slice none 0 0), .lst 3 1 [.v (.int .i64 1), .v (.int .i64 1), .v (.int .i64 1)]]], .int .i64 2),
  ([.lst 7 2 [.v (.int .i64 3), .v (.int .i64 1), .v (.string ⟨#[102]⟩), .v (.int .i64 2), .v (.int .i64 0), .v (.slice none 0 0), .v (.slice none 0 0), .v (.int .i64 1), .v (.int .i64 1), .v (.string ⟨#[102]⟩), .v (.int .i64 1), .v (.int .i64 0), .v (.slice none 0 0), .v (.slice none 0 0)]], .int .i64 2),
  ([.v (.slice none 0 0)], .int .i64 0),
  ([.lst 7 1 [.v (.int .i64 3), .v (.int .i64 1), .v (.string ⟨#[102]⟩), .v (.int .i64 2), .v (.int .i64 0), .v (.slice none 0 0), .v (.slice none 0 0)]], .int .i64 0)]
theorem e14 : Ents Tryz.prog 3 14 t14 := .cons p14_0 rfl <| .cons p14_1 rfl <| .cons p14_2 rfl <| .cons p14_3 rfl <| .cons p14_4 rfl <| .cons p14_5 rfl <| .cons p14_6 rfl <| .cons p14_7 rfl <| .nil
noncomputable def env5 : Env := env4.memo (tab1 14 t14)
theorem sure5 : Sure env5 Tryz.prog := sure4.memo e14

/-- tributary/shelf.Effects$1 -/
theorem p22_0 : PureE Tryz.prog 3 22 [.agg [.v (.int .i64 2), .v (.int .i64 0), .v (.slice none 0 0)], .agg [.v (.int .i64 1), .v (.int .i64 0), .v (.slice none 0 0)]] (.int .i64 1) := sure5.pure 1000000 1000 (by kernel_rfl)
noncomputable def t22 : List (List DV × Value) := [([.agg [.v (.int .i64 2), .v (.int .i64 0), .v (.slice none 0 0)], .agg [.v (.int .i64 1), .v (.int .i64 0), .v (.slice none 0 0)]], .int .i64 1)]
theorem e22 : Ents Tryz.prog 3 22 t22 := .cons p22_0 rfl <| .nil
noncomputable def env6 : Env := env5.memo (tab1 22 t22)
theorem sure6 : Sure env6 Tryz.prog := sure5.memo e22

/-- tributary/tributarykit.SameEvent -/
theorem p27_0 : PureE Tryz.prog 3 27 [.agg [.v (.int .i64 2), .v (.int .i64 1), .v (.string ⟨#[102]⟩), .v (.int .i64 3), .v (.int .i64 0), .v (.slice none 0 0), .lst 3 1 [.v (.int .i64 1), .v (.int .i64 1), .v (.int .i64 1)]], .agg [.v (.int .i64 2), .v (.int .i64 1), .v (.string ⟨#[102]⟩), .v (.int .i64 3), .v (.int .i64 0), .v (.slice none 0 0), .lst 3 1 [.v (.int .i64 1), .v (.int .i64 1), .v (.int .i64 1)]]] (.bool true) := sure6.pure 1000000 1000 (by kernel_rfl)
/-- tributary/tributarykit.SameEvent -/
theorem p27_1 : PureE Tryz.prog 3 27 [.agg [.v (.int .i64 3), .v (.int .i64 1), .v (.string ⟨#[102]⟩), .v (.int .i64 2), .v (.int .i64 0), .v (.slice none 0 0), .v (.slice none 0 0)], .agg [.v (.int .i64 3), .v (.int .i64 1), .v (.string ⟨#[102]⟩), .v (.int .i64 2), .v (.int .i64 0), .v (.slice none 0 0), .v (.slice none 0 0)]] (.bool true) := sure6.pure 1000000 1000 (by kernel_rfl)
/-- tributary/tributarykit.SameEvent -/
theorem p27_2 : PureE Tryz.prog 3 27 [.agg [.v (.int .i64 1), .v (.int .i64 1), .v (.string ⟨#[102]⟩), .v (.int .i64 1), .v (.int .i64 0), .v (.slice none 0 0), .v (.slice none 0 0)], .agg [.v (.int .i64 1), .v (.int .i64 1), .v (.string ⟨#[102]⟩), .v (.int .i64 1), .v (.int .i64 0), .v (.slice none 0 0), .v (.slice none 0 0)]] (.bool true) := sure6.pure 1000000 1000 (by kernel_rfl)
noncomputable def t27 : List (List DV × Value) := [([.agg [.v (.int .i64 2), .v (.int .i64 1), .v (.string ⟨#[102]⟩), .v (.int .i64 3), .v (.int .i64 0), .v (.slice none 0 0), .lst 3 1 [.v (.int .i64 1), .v (.int .i64 1), .v (.int .i64 1)]], .agg [.v (.int .i64 2), .v (.int .i64 1), .v (.string ⟨#[102]⟩), .v (.int .i64 3), .v (.int .i64 0), .v (.slice none 0 0), .lst 3 1 [.v (.int .i64 1), .v (.int .i64 1), .v (.int .i64 1)]]], .bool true),
  ([.agg [.v (.int .i64 3), .v (.int .i64 1), .v (.string ⟨#[102]⟩), .v (.int .i64 2), .v (.int .i64 0), .v (.slice none 0 0), .v (.slice none 0 0)], .agg [.v (.int .i64 3), .v (.int .i64 1), .v (.string ⟨#[102]⟩), .v (.int .i64 2), .v (.int .i64 0), .v (.slice none 0 0), .v (.slice none 0 0)]], .bool true),
  ([.agg [.v (.int .i64 1), .v (.int .i64 1), .v (.string ⟨#[102]⟩), .v (.int .i64 1), .v (.int .i64 0), .v (.slice none 0 0), .v (.slice none 0 0)], .agg [.v (.int .i64 1), .v (.int .i64 1), .v (.string ⟨#[102]⟩), .v (.int .i64 1), .v (.int .i64 0), .v (.slice none 0 0), .v (.slice none 0 0)]], .bool true)]
theorem e27 : Ents Tryz.prog 3 27 t27 := .cons p27_0 rfl <| .cons p27_1 rfl <| .cons p27_2 rfl <| .nil
noncomputable def env7 : Env := env6.memo (tab1 27 t27)
theorem sure7 : Sure env7 Tryz.prog := sure6.memo e27

/-- tributary/tributarykit.SameEvents -/
theorem p12_0 : PureE Tryz.prog 3 12 [.lst 7 1 [.v (.int .i64 2), .v (.int .i64 1), .v (.string ⟨#[102]⟩), .v (.int .i64 3), .v (.int .i64 0), .v (.slice none 0 0), .lst 3 1 [.v (.int .i64 1), .v (.int .i64 1), .v (.int .i64 1)]], .lst 7 1 [.v (.int .i64 2), .v (.int .i64 1), .v (.string ⟨#[102]⟩), .v (.int .i64 3), .v (.int .i64 0), .v (.slice none 0 0), .lst 3 1 [.v (.int .i64 1), .v (.int .i64 1), .v (.int .i64 1)]]] (.bool true) := sure7.pure 1000000 1000 (by kernel_rfl)
/-- tributary/tributarykit.SameEvents -/
theorem p12_1 : PureE Tryz.prog 3 12 [.lst 7 2 [.v (.int .i64 2), .v (.int .i64 1), .v (.string ⟨#[102]⟩), .v (.int .i64 3), .v (.int .i64 0), .v (.slice none 0 0), .lst 3 1 [.v (.int .i64 1), .v (.int .i64 1), .v (.int .i64 1)], .v (.int .i64 3), .v (.int .i64 1), .v (.string ⟨#[102]⟩), .v (.int .i64 2), .v (.int .i64 0), .v (.slice none 0 0), .v (.slice none 0 0)], .lst 7 2 [.v (.int .i64 2), .v (.int .i64 1), .v (.string ⟨#[102]⟩), .v (.int .i64 3), .v (.int .i64 0), .v (.slice none 0 0), .lst 3 1 [.v (.int .i64 1), .v (.int .i64 1), .v (.int .i64 1)], .v (.int .i64 3), .v (.int .i64 1), .v (.string ⟨#[102]⟩), .v (.int .i64 2), .v (.int .i64 0), .v (.slice none 0 0), .v (.slice none 0 0)]] (.bool true) := sure7.pure 1000000 1000 (by kernel_rfl)
/-- tributary/tributarykit.SameEvents -/
theorem p12_2 : PureE Tryz.prog 3 12 [.lst 7 1 [.v (.int .i64 1), .v (.int .i64 1), .v (.string ⟨#[102]⟩), .v (.int .i64 1), .v (.int .i64 0), .v (.slice none 0 0), .v (.slice none 0 0)], .lst 7 1 [.v (.int .i64 1), .v (.int .i64 1), .v (.string ⟨#[102]⟩), .v (.int .i64 1), .v (.int .i64 0), .v (.slice none 0 0), .v (.slice none 0 0)]] (.bool true) := sure7.pure 1000000 1000 (by kernel_rfl)
/-- tributary/tributarykit.SameEvents -/
theorem p12_3 : PureE Tryz.prog 3 12 [.lst 7 2 [.v (.int .i64 1), .v (.int .i64 1), .v (.string ⟨#[102]⟩), .v (.int .i64 1), .v (.int .i64 0), .v (.slice none 0 0), .v (.slice none 0 0), .v (.int .i64 3), .v (.int .i64 1), .v (.string ⟨#[102]⟩), .v (.int .i64 2), .v (.int .i64 0), .v (.slice none 0 0), .v (.slice none 0 0)], .lst 7 2 [.v (.int .i64 1), .v (.int .i64 1), .v (.string ⟨#[102]⟩), .v (.int .i64 1), .v (.int .i64 0), .v (.slice none 0 0), .v (.slice none 0 0), .v (.int .i64 3), .v (.int .i64 1), .v (.string ⟨#[102]⟩), .v (.int .i64 2), .v (.int .i64 0), .v (.slice none 0 0), .v (.slice none 0 0)]] (.bool true) := sure7.pure 1000000 1000 (by kernel_rfl)
noncomputable def t12 : List (List DV × Value) := [([.lst 7 1 [.v (.int .i64 2), .v (.int .i64 1), .v (.string ⟨#[102]⟩), .v (.int .i64 3), .v (.int .i64 0), .v (.slice none 0 0), .lst 3 1 [.v (.int .i64 1), .v (.int .i64 1), .v (.int .i64 1)]], .lst 7 1 [.v (.int .i64 2), .v (.int .i64 1), .v (.string ⟨#[102]⟩), .v (.int .i64 3), .v (.int .i64 0), .v (.slice none 0 0), .lst 3 1 [.v (.int .i64 1), .v (.int .i64 1), .v (.int .i64 1)]]], .bool true),
  ([.lst 7 2 [.v (.int .i64 2), .v (.int .i64 1), .v (.string ⟨#[102]⟩), .v (.int .i64 3), .v (.int .i64 0), .v (.slice none 0 0), .lst 3 1 [.v (.int .i64 1), .v (.int .i64 1), .v (.int .i64 1)], .v (.int .i64 3), .v (.int .i64 1), .v (.string ⟨#[102]⟩), .v (.int .i64 2), .v (.int .i64 0), .v (.slice none 0 0), .v (.slice none 0 0)], .lst 7 2 [.v (.int .i64 2), .v (.int .i64 1), .v (.string ⟨#[102]⟩), .v (.int .i64 3), .v (.int .i64 0), .v (.slice none 0 0), .lst 3 1 [.v (.int .i64 1), .v (.int .i64 1), .v (.int .i64 1)], .v (.int .i64 3), .v (.int .i64 1), .v (.string ⟨#[102]⟩), .v (.int .i64 2), .v (.int .i64 0), .v (.slice none 0 0), .v (.slice none 0 0)]], .bool true),
  ([.lst 7 1 [.v (.int .i64 1), .v (.int .i64 1), .v (.string ⟨#[102]⟩), .v (.int .i64 1), .v (.int .i64 0), .v (.slice none 0 0), .v (.slice none 0 0)], .lst 7 1 [.v (.int .i64 1), .v (.int .i64 1), .v (.string ⟨#[102]⟩), .v (.int .i64 1), .v (.int .i64 0), .v (.slice none 0 0), .v (.slice none 0 0)]], .bool true),
  ([.lst 7 2 [.v (.int .i64 1), .v (.int .i64 1), .v (.string ⟨#[102]⟩), .v (.int .i64 1), .v (.int .i64 0), .v (.slice none 0 0), .v (.slice none 0 0), .v (.int .i64 3), .v (.int .i64 1), .v (.string ⟨#[102]⟩), .v (.int .i64 2), .v (.int .i64 0), .v (.slice none 0 0), .v (.slice none 0 0)], .lst 7 2 [.v (.int .i64 1), .v (.int .i64 1), .v (.string ⟨#[102]⟩), .v (.int .i64 1), .v (.int .i64 0), .v (.slice none 0 0), .v (.slice none 0 0), .v (.int .i64 3), .v (.int .i64 1), .v (.string ⟨#[102]⟩), .v (.int .i64 2), .v (.int .i64 0), .v (.slice none 0 0), .v (.slice none 0 0)]], .bool true)]
theorem e12 : Ents Tryz.prog 3 12 t12 := .cons p12_0 rfl <| .cons p12_1 rfl <| .cons p12_2 rfl <| .cons p12_3 rfl <| .nil
noncomputable def env8 : Env := env7.memo (tab1 12 t12)
theorem sure8 : Sure env8 Tryz.prog := sure7.memo e12

theorem ran : isTrue (run env8 1000000 1000 (.call 3 []) (mem0 3)) = true := by kernel_rfl
theorem fn : (env.fn 3).isSome = true := by kernel_rfl
theorem calls (W : World) (hW : 3 ≤ W.heap.size) :
    Calls Tryz.prog 3 #[] W fun e W' => e = .returned (.bool true) ∧ (∀ b, b < W.heap.size → W'.heap[b]? = W.heap[b]?) ∧ W.heap.size ≤ W'.heap.size ∧ W'.os = W.os ∧ W'.tape = W.tape ∧ W'.output = W.output :=
  match Option.isSome_iff_exists.1 fn with
  | ⟨_, hx⟩ => closed_calls' (E := env8) (j := 1000000) (k := 1000) sure8.ok sure8.ext sure8.keep hx (show isTrue (run env8 1000000 1000 (.call 3 []) (mem0 env.ng)) = true from env_ng.symm ▸ ran) (show env.ng ≤ _ from env_ng.symm ▸ hW)
end ShelfKnown
end Go.Proofs.YtdnghlgepoilpaaGreatDoor
