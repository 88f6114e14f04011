/- VfsKnown: answers of calls that come again, and the run that uses them, by the kernel. Of closed terms; no condition. -/
import Derived.Test.YtgjpdjkkaogfiaaGreatDoorEnvB
namespace Go.Proofs.YtgjpdjkkaogfiaaGreatDoor
namespace VfsKnown
open Go Go.Am
set_option maxRecDepth 1000000

/-- tributary/table.Check -/
theorem p37_0 : PureE Tryz.prog 3 37 [.v (.slice none 0 0)] (.int .i64 0) := sureB.pure 1000000 1000 (by kernel_rfl)
/-- tributary/table.Check -/
theorem p37_1 : PureE Tryz.prog 3 37 [.lst 4 1 [.v (.string ⟨#[97]⟩), .v (.int .i64 2), .v (.int .i64 0), .v (.slice none 0 0)]] (.int .i64 0) := sureB.pure 1000000 1000 (by kernel_rfl)
/-- tributary/table.Check -/
theorem p37_2 : PureE Tryz.prog 3 37 [.lst 4 2 [.v (.string ⟨#[97]⟩), .v (.int .i64 2), .v (.int .i64 0), .v (.slice none 0 0), .v (.string ⟨#[97, 47, 98]⟩), .v (.int .i64 1), .v (.int .i64 0), .lst 1 1 [.v (.int .u8 7)]]] (.int .i64 0) := sureB.pure 1000000 1000 (by kernel_rfl)
/-- tributary/table.Check -/
theorem p37_3 : PureE Tryz.prog 3 37 [.lst 4 2 [.v (.string ⟨#[99]⟩), .v (.int .i64 2), .v (.int .i64 0), .v (.slice none 0 0), .v (.string ⟨#[99, 47, 98]⟩), .v (.int .i64 1), .v (.int .i64 0), .lst 1 1 [.v (.int .u8 7)]]] (.int .i64 0) := sureB.pure 1000000 1000 (by kernel_rfl)
noncomputable def t37 : List (List DV × Value) := [([.v (.slice none 0 0)], .int .i64 0),
  ([.lst 4 1 [.v (.string ⟨#[97]⟩), .v (.int .i64 2), .v (.int .i64 0), .v (.slice none 0 0)]], .int .i64 0),
  ([.lst 4 2 [.v (.string ⟨#[97]⟩), .v (.int .i64 2), .v (.int .i64 0), .v (.slice none 0 0), .v (.string ⟨#[97, 47, 98]⟩), .v (.int .i64 1), .v (.int .i64 0), .lst 1 1 [.v (.int .u8 7)]]], .int .i64 0),
  ([.lst 4 2 [.v (.string ⟨#[99]⟩), .v (.int .i64 2), .v (.int .i64 0), .v (.slice none 0 0), .v (.string ⟨#[99, 47, 98]⟩), .v (.int .i64 1), .v (.int .i64 0), .lst 1 1 [.v (.int .u8 7)]]], .int .i64 0)]
theorem e37 : Ents Tryz.prog 3 37 t37 := .cons p37_0 rfl <| .cons p37_1 rfl <| .cons p37_2 rfl <| .cons p37_3 rfl <| .nil
noncomputable def env1 : Env := envB.memo (tab1 37 t37)
theorem sure1 : Sure env1 Tryz.prog := sureB.memo e37

/-- tributary/path.part -/
theorem p52_0 : PureE Tryz.prog 3 52 [.v (.string ⟨#[97]⟩)] (.bool true) := sure1.pure 1000000 1000 (by kernel_rfl)
/-- tributary/path.part -/
theorem p52_1 : PureE Tryz.prog 3 52 [.v (.string ⟨#[98]⟩)] (.bool true) := sure1.pure 1000000 1000 (by kernel_rfl)
/-- tributary/path.part -/
theorem p52_2 : PureE Tryz.prog 3 52 [.v (.string ⟨#[99]⟩)] (.bool true) := sure1.pure 1000000 1000 (by kernel_rfl)
/-- tributary/path.part -/
theorem p52_3 : PureE Tryz.prog 3 52 [.v (.string ⟨#[120]⟩)] (.bool true) := sure1.pure 1000000 1000 (by kernel_rfl)
/-- tributary/path.part -/
theorem p52_4 : PureE Tryz.prog 3 52 [.v (.string ⟨#[121]⟩)] (.bool true) := sure1.pure 1000000 1000 (by kernel_rfl)
/-- tributary/path.part -/
theorem p52_5 : PureE Tryz.prog 3 52 [.v (.string ⟨#[100]⟩)] (.bool true) := sure1.pure 1000000 1000 (by kernel_rfl)
noncomputable def t52 : List (List DV × Value) := [([.v (.string ⟨#[97]⟩)], .bool true),
  ([.v (.string ⟨#[98]⟩)], .bool true),
  ([.v (.string ⟨#[99]⟩)], .bool true),
  ([.v (.string ⟨#[120]⟩)], .bool true),
  ([.v (.string ⟨#[121]⟩)], .bool true),
  ([.v (.string ⟨#[100]⟩)], .bool true)]
theorem e52 : Ents Tryz.prog 3 52 t52 := .cons p52_0 rfl <| .cons p52_1 rfl <| .cons p52_2 rfl <| .cons p52_3 rfl <| .cons p52_4 rfl <| .cons p52_5 rfl <| .nil
noncomputable def env2 : Env := env1.memo (tab1 52 t52)
theorem sure2 : Sure env2 Tryz.prog := sure1.memo e52

/-- tributary/path.Check -/
theorem p29_0 : PureE Tryz.prog 3 29 [.v (.string ⟨#[97]⟩)] (.int .i64 0) := sure2.pure 1000000 1000 (by kernel_rfl)
/-- tributary/path.Check -/
theorem p29_1 : PureE Tryz.prog 3 29 [.v (.string ⟨#[97, 47, 98]⟩)] (.int .i64 0) := sure2.pure 1000000 1000 (by kernel_rfl)
/-- tributary/path.Check -/
theorem p29_2 : PureE Tryz.prog 3 29 [.v (.string ⟨#[99]⟩)] (.int .i64 0) := sure2.pure 1000000 1000 (by kernel_rfl)
/-- tributary/path.Check -/
theorem p29_3 : PureE Tryz.prog 3 29 [.v (.string ⟨#[99, 47, 98]⟩)] (.int .i64 0) := sure2.pure 1000000 1000 (by kernel_rfl)
/-- tributary/path.Check -/
theorem p29_4 : PureE Tryz.prog 3 29 [.v (.string ⟨#[120]⟩)] (.int .i64 0) := sure2.pure 1000000 1000 (by kernel_rfl)
/-- tributary/path.Check -/
theorem p29_5 : PureE Tryz.prog 3 29 [.v (.string ⟨#[120, 47, 121]⟩)] (.int .i64 0) := sure2.pure 1000000 1000 (by kernel_rfl)
/-- tributary/path.Check -/
theorem p29_6 : PureE Tryz.prog 3 29 [.v (.string ⟨#[100]⟩)] (.int .i64 0) := sure2.pure 1000000 1000 (by kernel_rfl)
noncomputable def t29 : List (List DV × Value) := [([.v (.string ⟨#[97]⟩)], .int .i64 0),
  ([.v (.string ⟨#[97, 47, 98]⟩)], .int .i64 0),
  ([.v (.string ⟨#[99]⟩)], .int .i64 0),
  ([.v (.string ⟨#[99, 47, 98]⟩)], .int .i64 0),
  ([.v (.string ⟨#[120]⟩)], .int .i64 0),
  ([.v (.string ⟨#[120, 47, 121]⟩)], .int .i64 0),
  ([.v (.string ⟨#[100]⟩)], .int .i64 0)]
theorem e29 : Ents Tryz.prog 3 29 t29 := .cons p29_0 rfl <| .cons p29_1 rfl <| .cons p29_2 rfl <| .cons p29_3 rfl <| .cons p29_4 rfl <| .cons p29_5 rfl <| .cons p29_6 rfl <| .nil
noncomputable def env3 : Env := env2.memo (tab1 29 t29)
theorem sure3 : Sure env3 Tryz.prog := sure2.memo e29

/-- tributary/effect.Check -/
theorem p30_0 : PureE Tryz.prog 3 30 [.agg [.v (.int .i64 2), .v (.int .i64 0), .v (.slice none 0 0)]] (.int .i64 0) := sure3.pure 1000000 1000 (by kernel_rfl)
/-- tributary/effect.Check -/
theorem p30_1 : PureE Tryz.prog 3 30 [.agg [.v (.int .i64 1), .v (.int .i64 0), .lst 1 1 [.v (.int .u8 7)]]] (.int .i64 0) := sure3.pure 1000000 1000 (by kernel_rfl)
/-- tributary/effect.Check -/
theorem p30_2 : PureE Tryz.prog 3 30 [.agg [.v (.int .i64 1), .v (.int .i64 0), .lst 1 1 [.v (.int .u8 1)]]] (.int .i64 0) := sure3.pure 1000000 1000 (by kernel_rfl)
/-- tributary/effect.Check -/
theorem p30_3 : PureE Tryz.prog 3 30 [.agg [.v (.int .i64 1), .v (.int .i64 0), .lst 1 1 [.v (.int .u8 9)]]] (.int .i64 0) := sure3.pure 1000000 1000 (by kernel_rfl)
/-- tributary/effect.Check -/
theorem p30_4 : PureE Tryz.prog 3 30 [.agg [.v (.int .i64 3), .v (.int .i64 0), .v (.slice none 0 0)]] (.int .i64 0) := sure3.pure 1000000 1000 (by kernel_rfl)
noncomputable def t30 : List (List DV × Value) := [([.agg [.v (.int .i64 2), .v (.int .i64 0), .v (.slice none 0 0)]], .int .i64 0),
  ([.agg [.v (.int .i64 1), .v (.int .i64 0), .lst 1 1 [.v (.int .u8 7)]]], .int .i64 0),
  ([.agg [.v (.int .i64 1), .v (.int .i64 0), .lst 1 1 [.v (.int .u8 1)]]], .int .i64 0),
  ([.agg [.v (.int .i64 1), .v (.int .i64 0), .lst 1 1 [.v (.int .u8 9)]]], .int .i64 0),
  ([.agg [.v (.int .i64 3), .v (.int .i64 0), .v (.slice none 0 0)]], .int .i64 0)]
theorem e30 : Ents Tryz.prog 3 30 t30 := .cons p30_0 rfl <| .cons p30_1 rfl <| .cons p30_2 rfl <| .cons p30_3 rfl <| .cons p30_4 rfl <| .nil
noncomputable def env4 : Env := env3.memo (tab1 30 t30)
theorem sure4 : Sure env4 Tryz.prog := sure3.memo e30

/-- tributary/table.parented -/
theorem p39_0 : PureE Tryz.prog 3 39 [.v (.slice none 0 0), .v (.string ⟨#[97]⟩)] (.int .i64 0) := sure4.pure 1000000 1000 (by kernel_rfl)
/-- tributary/table.parented -/
theorem p39_1 : PureE Tryz.prog 3 39 [.lst 4 1 [.v (.string ⟨#[97]⟩), .v (.int .i64 2), .v (.int .i64 0), .v (.slice none 0 0)], .v (.string ⟨#[97]⟩)] (.int .i64 0) := sure4.pure 1000000 1000 (by kernel_rfl)
/-- tributary/table.parented -/
theorem p39_2 : PureE Tryz.prog 3 39 [.lst 4 1 [.v (.string ⟨#[97]⟩), .v (.int .i64 2), .v (.int .i64 0), .v (.slice none 0 0)], .v (.string ⟨#[97, 47, 98]⟩)] (.int .i64 0) := sure4.pure 1000000 1000 (by kernel_rfl)
/-- tributary/table.parented -/
theorem p39_3 : PureE Tryz.prog 3 39 [.lst 4 2 [.v (.string ⟨#[97]⟩), .v (.int .i64 2), .v (.int .i64 0), .v (.slice none 0 0), .v (.string ⟨#[97, 47, 98]⟩), .v (.int .i64 1), .v (.int .i64 0), .lst 1 1 [.v (.int .u8 7)]], .v (.string ⟨#[97]⟩)] (.int .i64 0) := sure4.pure 1000000 1000 (by kernel_rfl)
/-- tributary/table.parented -/
theorem p39_4 : PureE Tryz.prog 3 39 [.lst 4 2 [.v (.string ⟨#[97]⟩), .v (.int .i64 2), .v (.int .i64 0), .v (.slice none 0 0), .v (.string ⟨#[97, 47, 98]⟩), .v (.int .i64 1), .v (.int .i64 0), .lst 1 1 [.v (.int .u8 7)]], .v (.string ⟨#[97, 47, 98]⟩)] (.int .i64 0) := sure4.pure 1000000 1000 (by kernel_rfl)
/-- tributary/table.parented -/
theorem p39_5 : PureE Tryz.prog 3 39 [.lst 4 2 [.v (.string ⟨#[97]⟩), .v (.int .i64 2), .v (.int .i64 0), .v (.slice none 0 0), .v (.string ⟨#[97, 47, 98]⟩), .v (.int .i64 1), .v (.int .i64 0), .lst 1 1 [.v (.int .u8 7)]], .v (.string ⟨#[99]⟩)] (.int .i64 0) := sure4.pure 1000000 1000 (by kernel_rfl)
/-- tributary/table.parented -/
theorem p39_6 : PureE Tryz.prog 3 39 [.lst 4 2 [.v (.string ⟨#[99]⟩), .v (.int .i64 2), .v (.int .i64 0), .v (.slice none 0 0), .v (.string ⟨#[99, 47, 98]⟩), .v (.int .i64 1), .v (.int .i64 0), .lst 1 1 [.v (.int .u8 7)]], .v (.string ⟨#[99]⟩)] (.int .i64 0) := sure4.pure 1000000 1000 (by kernel_rfl)
/-- tributary/table.parented -/
theorem p39_7 : PureE Tryz.prog 3 39 [.lst 4 2 [.v (.string ⟨#[99]⟩), .v (.int .i64 2), .v (.int .i64 0), .v (.slice none 0 0), .v (.string ⟨#[99, 47, 98]⟩), .v (.int .i64 1), .v (.int .i64 0), .lst 1 1 [.v (.int .u8 7)]], .v (.string ⟨#[99, 47, 98]⟩)] (.int .i64 0) := sure4.pure 1000000 1000 (by kernel_rfl)
/-- tributary/table.parented -/
theorem p39_8 : PureE Tryz.prog 3 39 [.lst 4 2 [.v (.string ⟨#[99]⟩), .v (.int .i64 2), .v (.int .i64 0), .v (.slice none 0 0), .v (.string ⟨#[99, 47, 98]⟩), .v (.int .i64 1), .v (.int .i64 0), .lst 1 1 [.v (.int .u8 7)]], .v (.string ⟨#[120, 47, 121]⟩)] (.int .i64 6) := sure4.pure 1000000 1000 (by kernel_rfl)
noncomputable def t39 : List (List DV × Value) := [([.v (.slice none 0 0), .v (.string ⟨#[97]⟩)], .int .i64 0),
  ([.lst 4 1 [.v (.string ⟨#[97]⟩), .v (.int .i64 2), .v (.int .i64 0), .v (.slice none 0 0)], .v (.string ⟨#[97]⟩)], .int .i64 0),
  ([.lst 4 1 [.v (.string ⟨#[97]⟩), .v (.int .i64 2), .v (.int .i64 0), .v (.slice none 0 0)], .v (.string ⟨#[97, 47, 98]⟩)], .int .i64 0),
  ([.lst 4 2 [.v (.string ⟨#[97]⟩), .v (.int .i64 2), .v (.int .i64 0), .v (.slice none 0 0), .v (.string ⟨#[97, 47, 98]⟩), .v (.int .i64 1), .v (.int .i64 0), .lst 1 1 [.v (.int .u8 7)]], .v (.string ⟨#[97]⟩)], .int .i64 0),
  ([.lst 4 2 [.v (.string ⟨#[97]⟩), .v (.int .i64 2), .v (.int .i64 0), .v (.slice none 0 0), .v (.string ⟨#[97, 47, 98]⟩), .v (.int .i64 1), .v (.int .i64 0), .lst 1 1 [.v (.int .u8 7)]], .v (.string ⟨#[97, 47, 98]⟩)], .int .i64 0),
  ([.lst 4 2 [.v (.string ⟨#[97]⟩), .v (.int .i64 2), .v (.int .i64 0), .v (.slice none 0 0), .v (.string ⟨#[97, 47, 98]⟩), .v (.int .i64 1), .v (.int .i64 0), .lst 1 1 [.v (.int .u8 7)]], .v (.string ⟨#[99]⟩)], .int .i64 0),
  ([.lst 4 2 [.v (.string ⟨#[99]⟩), .v (.int .i64 2), .v (.int .i64 0), .v (.slice none 0 0), .v (.string ⟨#[99, 47, 98]⟩), .v (.int .i64 1), .v (.int .i64 0), .lst 1 1 [.v (.int .u8 7)]], .v (.string ⟨#[99]⟩)], .int .i64 0),
  ([.lst 4 2 [.v (.string ⟨#[99]⟩), .v (.int .i64 2), .v (.int .i64 0), .v (.slice none 0 0), .v (.string ⟨#[99, 47, 98]⟩), .v (.int .i64 1), .v (.int .i64 0), .lst 1 1 [.v (.int .u8 7)]], .v (.string ⟨#[99, 47, 98]⟩)], .int .i64 0),
  ([.lst 4 2 [.v (.string ⟨#[99]⟩), .v (.int .i64 2), .v (.int .i64 0), .v (.slice none 0 0), .v (.string ⟨#[99, 47, 98]⟩), .v (.int .i64 1), .v (.int .i64 0), .lst 1 1 [.v (.int .u8 7)]], .v (.string ⟨#[120, 47, 121]⟩)], .int .i64 6)]
theorem e39 : Ents Tryz.prog 3 39 t39 := .cons p39_0 rfl <| .cons p39_1 rfl <| .cons p39_2 rfl <| .cons p39_3 rfl <| .cons p39_4 rfl <| .cons p39_5 rfl <| .cons p39_6 rfl <| .cons p39_7 rfl <| .cons p39_8 rfl <| .nil
noncomputable def env5 : Env := env4.memo (tab1 39 t39)
theorem sure5 : Sure env5 Tryz.prog := sure4.memo e39

/-- tributary/path.Under -/
theorem p19_0 : PureE Tryz.prog 3 19 [.v (.string ⟨#[97, 47, 98]⟩), .v (.string ⟨#[97]⟩)] (.bool false) := sure5.pure 1000000 1000 (by kernel_rfl)
/-- tributary/path.Under -/
theorem p19_1 : PureE Tryz.prog 3 19 [.v (.string ⟨#[97]⟩), .v (.string ⟨#[99]⟩)] (.bool false) := sure5.pure 1000000 1000 (by kernel_rfl)
/-- tributary/path.Under -/
theorem p19_2 : PureE Tryz.prog 3 19 [.v (.string ⟨#[97]⟩), .v (.string ⟨#[97, 47, 98]⟩)] (.bool true) := sure5.pure 1000000 1000 (by kernel_rfl)
/-- tributary/path.Under -/
theorem p19_3 : PureE Tryz.prog 3 19 [.v (.string ⟨#[99]⟩), .v (.string ⟨#[99, 47, 98]⟩)] (.bool true) := sure5.pure 1000000 1000 (by kernel_rfl)
/-- tributary/path.Under -/
theorem p19_4 : PureE Tryz.prog 3 19 [.v (.string ⟨#[99, 47, 98]⟩), .v (.string ⟨#[99]⟩)] (.bool false) := sure5.pure 1000000 1000 (by kernel_rfl)
/-- tributary/path.Under -/
theorem p19_5 : PureE Tryz.prog 3 19 [.v (.string ⟨#[99, 47, 98]⟩), .v (.string ⟨#[99, 47, 98]⟩)] (.bool false) := sure5.pure 1000000 1000 (by kernel_rfl)
/-- tributary/path.Under -/
theorem p19_6 : PureE Tryz.prog 3 19 [.v (.string ⟨#[99]⟩), .v (.string ⟨#[99]⟩)] (.bool false) := sure5.pure 1000000 1000 (by kernel_rfl)
/-- tributary/path.Under -/
theorem p19_7 : PureE Tryz.prog 3 19 [.v (.string ⟨#[100]⟩), .v (.string ⟨#[99]⟩)] (.bool false) := sure5.pure 1000000 1000 (by kernel_rfl)
/-- tributary/path.Under -/
theorem p19_8 : PureE Tryz.prog 3 19 [.v (.string ⟨#[100]⟩), .v (.string ⟨#[99, 47, 98]⟩)] (.bool false) := sure5.pure 1000000 1000 (by kernel_rfl)
noncomputable def t19 : List (List DV × Value) := [([.v (.string ⟨#[97, 47, 98]⟩), .v (.string ⟨#[97]⟩)], .bool false),
  ([.v (.string ⟨#[97]⟩), .v (.string ⟨#[99]⟩)], .bool false),
  ([.v (.string ⟨#[97]⟩), .v (.string ⟨#[97, 47, 98]⟩)], .bool true),
  ([.v (.string ⟨#[99]⟩), .v (.string ⟨#[99, 47, 98]⟩)], .bool true),
  ([.v (.string ⟨#[99, 47, 98]⟩), .v (.string ⟨#[99]⟩)], .bool false),
  ([.v (.string ⟨#[99, 47, 98]⟩), .v (.string ⟨#[99, 47, 98]⟩)], .bool false),
  ([.v (.string ⟨#[99]⟩), .v (.string ⟨#[99]⟩)], .bool false),
  ([.v (.string ⟨#[100]⟩), .v (.string ⟨#[99]⟩)], .bool false),
  ([.v (.string ⟨#[100]⟩), .v (.string ⟨#[99, 47, 98]⟩)], .bool false)]
theorem e19 : Ents Tryz.prog 3 19 t19 := .cons p19_0 rfl <| .cons p19_1 rfl <| .cons p19_2 rfl <| .cons p19_3 rfl <| .cons p19_4 rfl <| .cons p19_5 rfl <| .cons p19_6 rfl <| .cons p19_7 rfl <| .cons p19_8 rfl <| .nil
noncomputable def env6 : Env := env5.memo (tab1 19 t19)
theorem sure6 : Sure env6 Tryz.prog := sure5.memo e19

/-- tributary/path.Less -/
theorem p55_0 : PureE Tryz.prog 3 55 [.v (.string ⟨#[97]⟩), .v (.string ⟨#[97, 47, 98]⟩)] (.bool true) := sure6.pure 1000000 1000 (by kernel_rfl)
/-- tributary/path.Less -/
theorem p55_1 : PureE Tryz.prog 3 55 [.v (.string ⟨#[99, 47, 98]⟩), .v (.string ⟨#[99]⟩)] (.bool false) := sure6.pure 1000000 1000 (by kernel_rfl)
/-- tributary/path.Less -/
theorem p55_2 : PureE Tryz.prog 3 55 [.v (.string ⟨#[99]⟩), .v (.string ⟨#[99, 47, 98]⟩)] (.bool true) := sure6.pure 1000000 1000 (by kernel_rfl)
noncomputable def t55 : List (List DV × Value) := [([.v (.string ⟨#[97]⟩), .v (.string ⟨#[97, 47, 98]⟩)], .bool true),
  ([.v (.string ⟨#[99, 47, 98]⟩), .v (.string ⟨#[99]⟩)], .bool false),
  ([.v (.string ⟨#[99]⟩), .v (.string ⟨#[99, 47, 98]⟩)], .bool true)]
theorem e55 : Ents Tryz.prog 3 55 t55 := .cons p55_0 rfl <| .cons p55_1 rfl <| .cons p55_2 rfl <| .nil
noncomputable def env7 : Env := env6.memo (tab1 55 t55)
theorem sure7 : Sure env7 Tryz.prog := sure6.memo e55

/-- tributary/table.by -/
theorem p42_0 : PureE Tryz.prog 3 42 [.agg [.v (.string ⟨#[97]⟩), .v (.int .i64 2), .v (.int .i64 0), .v (.slice none 0 0)], .agg [.v (.string ⟨#[97, 47, 98]⟩), .v (.int .i64 1), .v (.int .i64 0), .lst 1 1 [.v (.int .u8 7)]]] (.int .i64 (-1)) := sure7.pure 1000000 1000 (by kernel_rfl)
/-- tributary/table.by -/
theorem p42_1 : PureE Tryz.prog 3 42 [.agg [.v (.string ⟨#[99, 47, 98]⟩), .v (.int .i64 1), .v (.int .i64 0), .lst 1 1 [.v (.int .u8 7)]], .agg [.v (.string ⟨#[99]⟩), .v (.int .i64 2), .v (.int .i64 0), .v (.slice none 0 0)]] (.int .i64 1) := sure7.pure 1000000 1000 (by kernel_rfl)
noncomputable def t42 : List (List DV × Value) := [([.agg [.v (.string ⟨#[97]⟩), .v (.int .i64 2), .v (.int .i64 0), .v (.slice none 0 0)], .agg [.v (.string ⟨#[97, 47, 98]⟩), .v (.int .i64 1), .v (.int .i64 0), .lst 1 1 [.v (.int .u8 7)]]], .int .i64 (-1)),
  ([.agg [.v (.string ⟨#[99, 47, 98]⟩), .v (.int .i64 1), .v (.int .i64 0), .lst 1 1 [.v (.int .u8 7)]], .agg [.v (.string ⟨#[99]⟩), .v (.int .i64 2), .v (.int .i64 0), .v (.slice none 0 0)]], .int .i64 1)]
theorem e42 : Ents Tryz.prog 3 42 t42 := .cons p42_0 rfl <| .cons p42_1 rfl <| .nil
noncomputable def env8 : Env := env7.memo (tab1 42 t42)
theorem sure8 : Sure env8 Tryz.prog := sure7.memo e42

theorem ran : isTrue (run env8 1000000 1000 (.call 3 []) (mem0 3)) = true := by kernel_rfl
theorem fn : (env.fn 3).isSome = true := by kernel_rfl
theorem calls (W : World) (hW : 3 ≤ W.heap.size) :
    Calls Tryz.prog 3 #[] W fun e W' => e = .returned (.bool true) ∧ (∀ b, b < W.heap.size → W'.heap[b]? = W.heap[b]?) ∧ W.heap.size ≤ W'.heap.size ∧ W'.os = W.os ∧ W'.tape = W.tape ∧ W'.output = W.output :=
  match Option.isSome_iff_exists.1 fn with
  | ⟨_, hx⟩ => closed_calls' (E := env8) (j := 1000000) (k := 1000) sure8.ok sure8.ext sure8.keep hx (show isTrue (run env8 1000000 1000 (.call 3 []) (mem0 env.ng)) = true from env_ng.symm ▸ ran) (show env.ng ≤ _ from env_ng.symm ▸ hW)
end VfsKnown
end Go.Proofs.YtgjpdjkkaogfiaaGreatDoor
