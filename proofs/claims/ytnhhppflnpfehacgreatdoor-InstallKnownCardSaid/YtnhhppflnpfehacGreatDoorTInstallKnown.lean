/- InstallKnown: answers of calls that come again, and the run that uses them, by the kernel. Of closed terms; no condition. -/
import Derived.Test.YtnhhppflnpfehacGreatDoorEnvB
namespace Go.Proofs.YtnhhppflnpfehacGreatDoor
namespace InstallKnown
open Go Go.Am
set_option maxRecDepth 1000000

/-- tributary/table.find -/
theorem p51_0 : PureA Tryz.prog 3 51 [.v (.slice none 0 0), .v (.string ⟨#[]⟩)] (.tl [.int .i64 (-1), .bool false]) := sureB.ans 1000000 1000 (by kernel_rfl)
/-- tributary/table.find -/
theorem p51_1 : PureA Tryz.prog 3 51 [.v (.slice none 0 0), .v (.string ⟨#[100]⟩)] (.tl [.int .i64 (-1), .bool false]) := sureB.ans 1000000 1000 (by kernel_rfl)
/-- tributary/table.find -/
theorem p51_2 : PureA Tryz.prog 3 51 [.lst 4 1 [.v (.string ⟨#[100]⟩), .v (.int .i64 2), .v (.int .i64 0), .v (.slice none 0 0)], .v (.string ⟨#[]⟩)] (.tl [.int .i64 (-1), .bool false]) := sureB.ans 1000000 1000 (by kernel_rfl)
/-- tributary/table.find -/
theorem p51_3 : PureA Tryz.prog 3 51 [.lst 4 1 [.v (.string ⟨#[100]⟩), .v (.int .i64 2), .v (.int .i64 0), .v (.slice none 0 0)], .v (.string ⟨#[100]⟩)] (.tl [.int .i64 0, .bool true]) := sureB.ans 1000000 1000 (by kernel_rfl)
/-- tributary/table.find -/
theorem p51_4 : PureA Tryz.prog 3 51 [.lst 4 1 [.v (.string ⟨#[100]⟩), .v (.int .i64 2), .v (.int .i64 0), .v (.slice none 0 0)], .v (.string ⟨#[100, 47, 102]⟩)] (.tl [.int .i64 (-1), .bool false]) := sureB.ans 1000000 1000 (by kernel_rfl)
/-- tributary/table.find -/
theorem p51_5 : PureA Tryz.prog 3 51 [.lst 4 2 [.v (.string ⟨#[100]⟩), .v (.int .i64 2), .v (.int .i64 0), .v (.slice none 0 0), .v (.string ⟨#[100, 47, 102]⟩), .v (.int .i64 1), .v (.int .i64 0), .lst 1 1 [.v (.int .u8 8)]], .v (.string ⟨#[]⟩)] (.tl [.int .i64 (-1), .bool false]) := sureB.ans 1000000 1000 (by kernel_rfl)
/-- tributary/table.find -/
theorem p51_6 : PureA Tryz.prog 3 51 [.lst 4 2 [.v (.string ⟨#[100]⟩), .v (.int .i64 2), .v (.int .i64 0), .v (.slice none 0 0), .v (.string ⟨#[100, 47, 102]⟩), .v (.int .i64 1), .v (.int .i64 0), .lst 1 1 [.v (.int .u8 8)]], .v (.string ⟨#[100]⟩)] (.tl [.int .i64 0, .bool true]) := sureB.ans 1000000 1000 (by kernel_rfl)
/-- tributary/table.find -/
theorem p51_7 : PureA Tryz.prog 3 51 [.lst 4 2 [.v (.string ⟨#[100]⟩), .v (.int .i64 2), .v (.int .i64 0), .v (.slice none 0 0), .v (.string ⟨#[100, 47, 102]⟩), .v (.int .i64 1), .v (.int .i64 0), .lst 1 1 [.v (.int .u8 8)]], .v (.string ⟨#[100, 47, 102]⟩)] (.tl [.int .i64 1, .bool true]) := sureB.ans 1000000 1000 (by kernel_rfl)
/-- tributary/table.find -/
theorem p51_8 : PureA Tryz.prog 3 51 [.lst 4 1 [.v (.string ⟨#[100, 47, 102]⟩), .v (.int .i64 1), .v (.int .i64 0), .v (.slice none 0 0)], .v (.string ⟨#[100]⟩)] (.tl [.int .i64 (-1), .bool false]) := sureB.ans 1000000 1000 (by kernel_rfl)
noncomputable def t51 : List (List DV × Ans) := [([.v (.slice none 0 0), .v (.string ⟨#[]⟩)], .tl [.int .i64 (-1), .bool false]),
  ([.v (.slice none 0 0), .v (.string ⟨#[100]⟩)], .tl [.int .i64 (-1), .bool false]),
  ([.lst 4 1 [.v (.string ⟨#[100]⟩), .v (.int .i64 2), .v (.int .i64 0), .v (.slice none 0 0)], .v (.string ⟨#[]⟩)], .tl [.int .i64 (-1), .bool false]),
  ([.lst 4 1 [.v (.string ⟨#[100]⟩), .v (.int .i64 2), .v (.int .i64 0), .v (.slice none 0 0)], .v (.string ⟨#[100]⟩)], .tl [.int .i64 0, .bool true]),
  ([.lst 4 1 [.v (.string ⟨#[100]⟩), .v (.int .i64 2), .v (.int .i64 0), .v (.slice none 0 0)], .v (.string ⟨#[100, 47, 102]⟩)], .tl [.int .i64 (-1), .bool false]),
  ([.lst 4 2 [.v (.string ⟨#[100]⟩), .v (.int .i64 2), .v (.int .i64 0), .v (.slice none 0 0), .v (.string ⟨#[100, 47, 102]⟩), .v (.int .i64 1), .v (.int .i64 0), .lst 1 1 [.v (.int .u8 8)]], .v (.string ⟨#[]⟩)], .tl [.int .i64 (-1), .bool false]),
  ([.lst 4 2 [.v (.string ⟨#[100]⟩), .v (.int .i64 2), .v (.int .i64 0), .v (.slice none 0 0), .v (.string ⟨#[100, 47, 102]⟩), .v (.int .i64 1), .v (.int .i64 0), .lst 1 1 [.v (.int .u8 8)]], .v (.string ⟨#[100]⟩)], .tl [.int .i64 0, .bool true]),
  ([.lst 4 2 [.v (.string ⟨#[100]⟩), .v (.int .i64 2), .v (.int .i64 0), .v (.slice none 0 0), .v (.string ⟨#[100, 47, 102]⟩), .v (.int .i64 1), .v (.int .i64 0), .lst 1 1 [.v (.int .u8 8)]], .v (.string ⟨#[100, 47, 102]⟩)], .tl [.int .i64 1, .bool true]),
  ([.lst 4 1 [.v (.string ⟨#[100, 47, 102]⟩), .v (.int .i64 1), .v (.int .i64 0), .v (.slice none 0 0)], .v (.string ⟨#[100]⟩)], .tl [.int .i64 (-1), .bool false])]
theorem e51 : EntsA Tryz.prog 3 51 t51 := .cons p51_0 <| .cons p51_1 <| .cons p51_2 <| .cons p51_3 <| .cons p51_4 <| .cons p51_5 <| .cons p51_6 <| .cons p51_7 <| .cons p51_8 <| .nil
noncomputable def env1 : Env := envB.memoA 51 t51
theorem sure1 : Sure env1 Tryz.prog := sureB.memoA e51

/-- tributary/table.Check -/
theorem p64_0 : PureE Tryz.prog 3 64 [.v (.slice none 0 0)] (.int .i64 0) := sure1.pure 1000000 1000 (by kernel_rfl)
/-- tributary/table.Check -/
theorem p64_1 : PureE Tryz.prog 3 64 [.lst 4 1 [.v (.string ⟨#[100]⟩), .v (.int .i64 2), .v (.int .i64 0), .v (.slice none 0 0)]] (.int .i64 0) := sure1.pure 1000000 1000 (by kernel_rfl)
/-- tributary/table.Check -/
theorem p64_2 : PureE Tryz.prog 3 64 [.lst 4 1 [.v (.string ⟨#[100, 47, 102]⟩), .v (.int .i64 1), .v (.int .i64 0), .v (.slice none 0 0)]] (.int .i64 2) := sure1.pure 1000000 1000 (by kernel_rfl)
noncomputable def t64 : List (List DV × Value) := [([.v (.slice none 0 0)], .int .i64 0),
  ([.lst 4 1 [.v (.string ⟨#[100]⟩), .v (.int .i64 2), .v (.int .i64 0), .v (.slice none 0 0)]], .int .i64 0),
  ([.lst 4 1 [.v (.string ⟨#[100, 47, 102]⟩), .v (.int .i64 1), .v (.int .i64 0), .v (.slice none 0 0)]], .int .i64 2)]
theorem e64 : Ents Tryz.prog 3 64 t64 := .cons p64_0 rfl <| .cons p64_1 rfl <| .cons p64_2 rfl <| .nil
noncomputable def env2 : Env := env1.memo (tab1 64 t64)
theorem sure2 : Sure env2 Tryz.prog := sure1.memo e64

/-- tributary/shown.Check -/
theorem p26_0 : PureE Tryz.prog 3 26 [.v (.slice none 0 0)] (.int .i64 0) := sure2.pure 1000000 1000 (by kernel_rfl)
/-- tributary/shown.Check -/
theorem p26_1 : PureE Tryz.prog 3 26 [.lst 5 1 [.v (.string ⟨#[100]⟩), .v (.int .i64 2), .v (.int .i64 0), .v (.slice none 0 0), .lst 3 1 [.v (.int .i64 1), .v (.int .i64 1), .v (.int .i64 1)]]] (.int .i64 0) := sure2.pure 1000000 1000 (by kernel_rfl)
/-- tributary/shown.Check -/
theorem p26_2 : PureE Tryz.prog 3 26 [.lst 5 1 [.v (.string ⟨#[100, 47, 102]⟩), .v (.int .i64 1), .v (.int .i64 0), .v (.slice none 0 0), .v (.slice none 0 0)]] (.int .i64 2) := sure2.pure 1000000 1000 (by kernel_rfl)
noncomputable def t26 : List (List DV × Value) := [([.v (.slice none 0 0)], .int .i64 0),
  ([.lst 5 1 [.v (.string ⟨#[100]⟩), .v (.int .i64 2), .v (.int .i64 0), .v (.slice none 0 0), .lst 3 1 [.v (.int .i64 1), .v (.int .i64 1), .v (.int .i64 1)]]], .int .i64 0),
  ([.lst 5 1 [.v (.string ⟨#[100, 47, 102]⟩), .v (.int .i64 1), .v (.int .i64 0), .v (.slice none 0 0), .v (.slice none 0 0)]], .int .i64 2)]
theorem e26 : Ents Tryz.prog 3 26 t26 := .cons p26_0 rfl <| .cons p26_1 rfl <| .cons p26_2 rfl <| .nil
noncomputable def env3 : Env := env2.memo (tab1 26 t26)
theorem sure3 : Sure env3 Tryz.prog := sure2.memo e26

/-- tributary/path.Sort -/
theorem p78_0 : PureA Tryz.prog 3 78 [.v (.slice none 0 0)] (.lf (.slice none 0 0)) := sure3.ans 1000000 1000 (by kernel_rfl)
/-- tributary/path.Sort -/
theorem p78_1 : PureA Tryz.prog 3 78 [.lst 1 2 [.v (.string ⟨#[100]⟩), .v (.string ⟨#[100, 47, 102]⟩)]] (.sl 1 2 [.string ⟨#[100]⟩, .string ⟨#[100, 47, 102]⟩]) := sure3.ans 1000000 1000 (by kernel_rfl)
/-- tributary/path.Sort -/
theorem p78_2 : PureA Tryz.prog 3 78 [.lst 1 2 [.v (.string ⟨#[100]⟩), .v (.string ⟨#[100]⟩)]] (.sl 1 1 [.string ⟨#[100]⟩]) := sure3.ans 1000000 1000 (by kernel_rfl)
/-- tributary/path.Sort -/
theorem p78_3 : PureA Tryz.prog 3 78 [.lst 1 3 [.v (.string ⟨#[100]⟩), .v (.string ⟨#[100, 47, 102]⟩), .v (.string ⟨#[100]⟩)]] (.sl 1 2 [.string ⟨#[100]⟩, .string ⟨#[100, 47, 102]⟩]) := sure3.ans 1000000 1000 (by kernel_rfl)
/-- tributary/path.Sort -/
theorem p78_4 : PureA Tryz.prog 3 78 [.lst 1 1 [.v (.string ⟨#[100]⟩)]] (.sl 1 1 [.string ⟨#[100]⟩]) := sure3.ans 1000000 1000 (by kernel_rfl)
noncomputable def t78 : List (List DV × Ans) := [([.v (.slice none 0 0)], .lf (.slice none 0 0)),
  ([.lst 1 2 [.v (.string ⟨#[100]⟩), .v (.string ⟨#[100, 47, 102]⟩)]], .sl 1 2 [.string ⟨#[100]⟩, .string ⟨#[100, 47, 102]⟩]),
  ([.lst 1 2 [.v (.string ⟨#[100]⟩), .v (.string ⟨#[100]⟩)]], .sl 1 1 [.string ⟨#[100]⟩]),
  ([.lst 1 3 [.v (.string ⟨#[100]⟩), .v (.string ⟨#[100, 47, 102]⟩), .v (.string ⟨#[100]⟩)]], .sl 1 2 [.string ⟨#[100]⟩, .string ⟨#[100, 47, 102]⟩]),
  ([.lst 1 1 [.v (.string ⟨#[100]⟩)]], .sl 1 1 [.string ⟨#[100]⟩])]
theorem e78 : EntsA Tryz.prog 3 78 t78 := .cons p78_0 <| .cons p78_1 <| .cons p78_2 <| .cons p78_3 <| .cons p78_4 <| .nil
noncomputable def env4 : Env := env3.memoA 78 t78
theorem sure4 : Sure env4 Tryz.prog := sure3.memoA e78

/-- tributary/path.part -/
theorem p99_0 : PureE Tryz.prog 3 99 [.v (.string ⟨#[100]⟩)] (.bool true) := sure4.pure 1000000 1000 (by kernel_rfl)
/-- tributary/path.part -/
theorem p99_1 : PureE Tryz.prog 3 99 [.v (.string ⟨#[102]⟩)] (.bool true) := sure4.pure 1000000 1000 (by kernel_rfl)
noncomputable def t99 : List (List DV × Value) := [([.v (.string ⟨#[100]⟩)], .bool true),
  ([.v (.string ⟨#[102]⟩)], .bool true)]
theorem e99 : Ents Tryz.prog 3 99 t99 := .cons p99_0 rfl <| .cons p99_1 rfl <| .nil
noncomputable def env5 : Env := env4.memo (tab1 99 t99)
theorem sure5 : Sure env5 Tryz.prog := sure4.memo e99

/-- tributary/path.Check -/
theorem p56_0 : PureE Tryz.prog 3 56 [.v (.string ⟨#[100]⟩)] (.int .i64 0) := sure5.pure 1000000 1000 (by kernel_rfl)
/-- tributary/path.Check -/
theorem p56_1 : PureE Tryz.prog 3 56 [.v (.string ⟨#[100, 47, 102]⟩)] (.int .i64 0) := sure5.pure 1000000 1000 (by kernel_rfl)
noncomputable def t56 : List (List DV × Value) := [([.v (.string ⟨#[100]⟩)], .int .i64 0),
  ([.v (.string ⟨#[100, 47, 102]⟩)], .int .i64 0)]
theorem e56 : Ents Tryz.prog 3 56 t56 := .cons p56_0 rfl <| .cons p56_1 rfl <| .nil
noncomputable def env6 : Env := env5.memo (tab1 56 t56)
theorem sure6 : Sure env6 Tryz.prog := sure5.memo e56

/-- tributary/effect.Check -/
theorem p57_0 : PureE Tryz.prog 3 57 [.agg [.v (.int .i64 2), .v (.int .i64 0), .v (.slice none 0 0)]] (.int .i64 0) := sure6.pure 1000000 1000 (by kernel_rfl)
/-- tributary/effect.Check -/
theorem p57_1 : PureE Tryz.prog 3 57 [.agg [.v (.int .i64 1), .v (.int .i64 0), .lst 1 1 [.v (.int .u8 7)]]] (.int .i64 0) := sure6.pure 1000000 1000 (by kernel_rfl)
/-- tributary/effect.Check -/
theorem p57_2 : PureE Tryz.prog 3 57 [.agg [.v (.int .i64 1), .v (.int .i64 0), .lst 1 1 [.v (.int .u8 8)]]] (.int .i64 0) := sure6.pure 1000000 1000 (by kernel_rfl)
/-- tributary/effect.Check -/
theorem p57_3 : PureE Tryz.prog 3 57 [.agg [.v (.int .i64 3), .v (.int .i64 0), .v (.slice none 0 0)]] (.int .i64 0) := sure6.pure 1000000 1000 (by kernel_rfl)
/-- tributary/effect.Check -/
theorem p57_4 : PureE Tryz.prog 3 57 [.agg [.v (.int .i64 1), .v (.int .i64 0), .v (.slice none 0 0)]] (.int .i64 0) := sure6.pure 1000000 1000 (by kernel_rfl)
noncomputable def t57 : List (List DV × Value) := [([.agg [.v (.int .i64 2), .v (.int .i64 0), .v (.slice none 0 0)]], .int .i64 0),
  ([.agg [.v (.int .i64 1), .v (.int .i64 0), .lst 1 1 [.v (.int .u8 7)]]], .int .i64 0),
  ([.agg [.v (.int .i64 1), .v (.int .i64 0), .lst 1 1 [.v (.int .u8 8)]]], .int .i64 0),
  ([.agg [.v (.int .i64 3), .v (.int .i64 0), .v (.slice none 0 0)]], .int .i64 0),
  ([.agg [.v (.int .i64 1), .v (.int .i64 0), .v (.slice none 0 0)]], .int .i64 0)]
theorem e57 : Ents Tryz.prog 3 57 t57 := .cons p57_0 rfl <| .cons p57_1 rfl <| .cons p57_2 rfl <| .cons p57_3 rfl <| .cons p57_4 rfl <| .nil
noncomputable def env7 : Env := env6.memo (tab1 57 t57)
theorem sure7 : Sure env7 Tryz.prog := sure6.memo e57

/-- tributary/past.Check -/
theorem p58_0 : PureE Tryz.prog 3 58 [.v (.slice none 0 0)] (.int .i64 0) := sure7.pure 1000000 1000 (by kernel_rfl)
/-- tributary/past.Check -/
theorem p58_1 : PureE Tryz.prog 3 58 [.lst 3 1 [.v (.int .i64 1), .v (.int .i64 1), .v (.int .i64 1)]] (.int .i64 0) := sure7.pure 1000000 1000 (by kernel_rfl)
/-- tributary/past.Check -/
theorem p58_2 : PureE Tryz.prog 3 58 [.lst 3 1 [.v (.int .i64 2), .v (.int .i64 1), .v (.int .i64 1)]] (.int .i64 0) := sure7.pure 1000000 1000 (by kernel_rfl)
/-- tributary/past.Check -/
theorem p58_3 : PureE Tryz.prog 3 58 [.lst 3 2 [.v (.int .i64 1), .v (.int .i64 1), .v (.int .i64 1), .v (.int .i64 2), .v (.int .i64 1), .v (.int .i64 1)]] (.int .i64 0) := sure7.pure 1000000 1000 (by kernel_rfl)
noncomputable def t58 : List (List DV × Value) := [([.v (.slice none 0 0)], .int .i64 0),
  ([.lst 3 1 [.v (.int .i64 1), .v (.int .i64 1), .v (.int .i64 1)]], .int .i64 0),
  ([.lst 3 1 [.v (.int .i64 2), .v (.int .i64 1), .v (.int .i64 1)]], .int .i64 0),
  ([.lst 3 2 [.v (.int .i64 1), .v (.int .i64 1), .v (.int .i64 1), .v (.int .i64 2), .v (.int .i64 1), .v (.int .i64 1)]], .int .i64 0)]
theorem e58 : Ents Tryz.prog 3 58 t58 := .cons p58_0 rfl <| .cons p58_1 rfl <| .cons p58_2 rfl <| .cons p58_3 rfl <| .nil
noncomputable def env8 : Env := env7.memo (tab1 58 t58)
theorem sure8 : Sure env8 Tryz.prog := sure7.memo e58

/-- tributary/event.Check -/
theorem p124_0 : PureE Tryz.prog 3 124 [.agg [.v (.int .i64 1), .v (.int .i64 1), .v (.string ⟨#[100]⟩), .v (.int .i64 2), .v (.int .i64 0), .v (.slice none 0 0), .v (.slice none 0 0)]] (.int .i64 0) := sure8.pure 1000000 1000 (by kernel_rfl)
/-- tributary/event.Check -/
theorem p124_1 : PureE Tryz.prog 3 124 [.agg [.v (.int .i64 2), .v (.int .i64 1), .v (.string ⟨#[100, 47, 102]⟩), .v (.int .i64 1), .v (.int .i64 0), .lst 1 1 [.v (.int .u8 7)], .lst 3 1 [.v (.int .i64 1), .v (.int .i64 1), .v (.int .i64 1)]]] (.int .i64 0) := sure8.pure 1000000 1000 (by kernel_rfl)
noncomputable def t124 : List (List DV × Value) := [([.agg [.v (.int .i64 1), .v (.int .i64 1), .v (.string ⟨#[100]⟩), .v (.int .i64 2), .v (.int .i64 0), .v (.slice none 0 0), .v (.slice none 0 0)]], .int .i64 0),
  ([.agg [.v (.int .i64 2), .v (.int .i64 1), .v (.string ⟨#[100, 47, 102]⟩), .v (.int .i64 1), .v (.int .i64 0), .lst 1 1 [.v (.int .u8 7)], .lst 3 1 [.v (.int .i64 1), .v (.int .i64 1), .v (.int .i64 1)]]], .int .i64 0)]
theorem e124 : Ents Tryz.prog 3 124 t124 := .cons p124_0 rfl <| .cons p124_1 rfl <| .nil
noncomputable def env9 : Env := env8.memo (tab1 124 t124)
theorem sure9 : Sure env9 Tryz.prog := sure8.memo e124

/-- tributary/shown.Next$1 -/
theorem p123_0 : PureE Tryz.prog 3 123 [.agg [.v (.int .i64 1), .v (.int .i64 1), .v (.string ⟨#[100]⟩), .v (.int .i64 2), .v (.int .i64 0), .v (.slice none 0 0), .v (.slice none 0 0)]] (.bool false) := sure9.pure 1000000 1000 (by kernel_rfl)
/-- tributary/shown.Next$1 -/
theorem p123_1 : PureE Tryz.prog 3 123 [.agg [.v (.int .i64 2), .v (.int .i64 1), .v (.string ⟨#[100, 47, 102]⟩), .v (.int .i64 1), .v (.int .i64 0), .lst 1 1 [.v (.int .u8 7)], .lst 3 1 [.v (.int .i64 1), .v (.int .i64 1), .v (.int .i64 1)]]] (.bool false) := sure9.pure 1000000 1000 (by kernel_rfl)
noncomputable def t123 : List (List DV × Value) := [([.agg [.v (.int .i64 1), .v (.int .i64 1), .v (.string ⟨#[100]⟩), .v (.int .i64 2), .v (.int .i64 0), .v (.slice none 0 0), .v (.slice none 0 0)]], .bool false),
  ([.agg [.v (.int .i64 2), .v (.int .i64 1), .v (.string ⟨#[100, 47, 102]⟩), .v (.int .i64 1), .v (.int .i64 0), .lst 1 1 [.v (.int .u8 7)], .lst 3 1 [.v (.int .i64 1), .v (.int .i64 1), .v (.int .i64 1)]]], .bool false)]
theorem e123 : Ents Tryz.prog 3 123 t123 := .cons p123_0 rfl <| .cons p123_1 rfl <| .nil
noncomputable def env10 : Env := env9.memo (tab1 123 t123)
theorem sure10 : Sure env10 Tryz.prog := sure9.memo e123

/-- strings.Split -/
theorem p143_0 : PureA Tryz.prog 3 143 [.v (.string ⟨#[100, 47, 102]⟩), .v (.string ⟨#[47]⟩)] (.sl 1 2 [.string ⟨#[100]⟩, .string ⟨#[102]⟩]) := sure10.ans 1000000 1000 (by kernel_rfl)
/-- strings.Split -/
theorem p143_1 : PureA Tryz.prog 3 143 [.v (.string ⟨#[100]⟩), .v (.string ⟨#[47]⟩)] (.sl 1 1 [.string ⟨#[100]⟩]) := sure10.ans 1000000 1000 (by kernel_rfl)
noncomputable def t143 : List (List DV × Ans) := [([.v (.string ⟨#[100, 47, 102]⟩), .v (.string ⟨#[47]⟩)], .sl 1 2 [.string ⟨#[100]⟩, .string ⟨#[102]⟩]),
  ([.v (.string ⟨#[100]⟩), .v (.string ⟨#[47]⟩)], .sl 1 1 [.string ⟨#[100]⟩])]
theorem e143 : EntsA Tryz.prog 3 143 t143 := .cons p143_0 <| .cons p143_1 <| .nil
noncomputable def env11 : Env := env10.memoA 143 t143
theorem sure11 : Sure env11 Tryz.prog := sure10.memoA e143

/-- tributary/path.order -/
theorem p105_0 : PureE Tryz.prog 3 105 [.v (.string ⟨#[100, 47, 102]⟩), .v (.string ⟨#[100]⟩)] (.int .i64 1) := sure11.pure 1000000 1000 (by kernel_rfl)
/-- tributary/path.order -/
theorem p105_1 : PureE Tryz.prog 3 105 [.v (.string ⟨#[100]⟩), .v (.string ⟨#[100]⟩)] (.int .i64 0) := sure11.pure 1000000 1000 (by kernel_rfl)
/-- tributary/path.order -/
theorem p105_2 : PureE Tryz.prog 3 105 [.v (.string ⟨#[100]⟩), .v (.string ⟨#[100, 47, 102]⟩)] (.int .i64 (-1)) := sure11.pure 1000000 1000 (by kernel_rfl)
noncomputable def t105 : List (List DV × Value) := [([.v (.string ⟨#[100, 47, 102]⟩), .v (.string ⟨#[100]⟩)], .int .i64 1),
  ([.v (.string ⟨#[100]⟩), .v (.string ⟨#[100]⟩)], .int .i64 0),
  ([.v (.string ⟨#[100]⟩), .v (.string ⟨#[100, 47, 102]⟩)], .int .i64 (-1))]
theorem e105 : Ents Tryz.prog 3 105 t105 := .cons p105_0 rfl <| .cons p105_1 rfl <| .cons p105_2 rfl <| .nil
noncomputable def env12 : Env := env11.memo (tab1 105 t105)
theorem sure12 : Sure env12 Tryz.prog := sure11.memo e105

/-- tributary/shelf.Check -/
theorem p166_0 : PureE Tryz.prog 3 166 [.lst 7 1 [.v (.int .i64 1), .v (.int .i64 1), .v (.string ⟨#[100]⟩), .v (.int .i64 2), .v (.int .i64 0), .v (.slice none 0 0), .v (.slice none 0 0)]] (.int .i64 0) := sure12.pure 1000000 1000 (by kernel_rfl)
/-- tributary/shelf.Check -/
theorem p166_1 : PureE Tryz.prog 3 166 [.lst 7 1 [.v (.int .i64 2), .v (.int .i64 1), .v (.string ⟨#[100, 47, 102]⟩), .v (.int .i64 1), .v (.int .i64 0), .lst 1 1 [.v (.int .u8 7)], .lst 3 1 [.v (.int .i64 1), .v (.int .i64 1), .v (.int .i64 1)]]] (.int .i64 0) := sure12.pure 1000000 1000 (by kernel_rfl)
noncomputable def t166 : List (List DV × Value) := [([.lst 7 1 [.v (.int .i64 1), .v (.int .i64 1), .v (.string ⟨#[100]⟩), .v (.int .i64 2), .v (.int .i64 0), .v (.slice none 0 0), .v (.slice none 0 0)]], .int .i64 0),
  ([.lst 7 1 [.v (.int .i64 2), .v (.int .i64 1), .v (.string ⟨#[100, 47, 102]⟩), .v (.int .i64 1), .v (.int .i64 0), .lst 1 1 [.v (.int .u8 7)], .lst 3 1 [.v (.int .i64 1), .v (.int .i64 1), .v (.int .i64 1)]]], .int .i64 0)]
theorem e166 : Ents Tryz.prog 3 166 t166 := .cons p166_0 rfl <| .cons p166_1 rfl <| .nil
noncomputable def env13 : Env := env12.memo (tab1 166 t166)
theorem sure13 : Sure env13 Tryz.prog := sure12.memo e166

/-- slices.Clone[[]byte,byte] -/
theorem p24_0 : PureA Tryz.prog 3 24 [.v (.slice none 0 0)] (.lf (.slice none 0 0)) := sure13.ans 1000000 1000 (by kernel_rfl)
/-- slices.Clone[[]byte,byte] -/
theorem p24_1 : PureA Tryz.prog 3 24 [.lst 1 1 [.v (.int .u8 7)]] (.sl 1 1 [.int .u8 7]) := sure13.ans 1000000 1000 (by kernel_rfl)
/-- slices.Clone[[]byte,byte] -/
theorem p24_2 : PureA Tryz.prog 3 24 [.lst 1 1 [.v (.int .u8 8)]] (.sl 1 1 [.int .u8 8]) := sure13.ans 1000000 1000 (by kernel_rfl)
noncomputable def t24 : List (List DV × Ans) := [([.v (.slice none 0 0)], .lf (.slice none 0 0)),
  ([.lst 1 1 [.v (.int .u8 7)]], .sl 1 1 [.int .u8 7]),
  ([.lst 1 1 [.v (.int .u8 8)]], .sl 1 1 [.int .u8 8])]
theorem e24 : EntsA Tryz.prog 3 24 t24 := .cons p24_0 <| .cons p24_1 <| .cons p24_2 <| .nil
noncomputable def env14 : Env := env13.memoA 24 t24
theorem sure14 : Sure env14 Tryz.prog := sure13.memoA e24

/-- slices.Clone[[]tributary/api.Span,tributary/api.Span] -/
theorem p129_0 : PureA Tryz.prog 3 129 [.v (.slice none 0 0)] (.lf (.slice none 0 0)) := sure14.ans 1000000 1000 (by kernel_rfl)
/-- slices.Clone[[]tributary/api.Span,tributary/api.Span] -/
theorem p129_1 : PureA Tryz.prog 3 129 [.lst 3 1 [.v (.int .i64 1), .v (.int .i64 1), .v (.int .i64 1)]] (.sl 3 1 [.int .i64 1, .int .i64 1, .int .i64 1]) := sure14.ans 1000000 1000 (by kernel_rfl)
/-- slices.Clone[[]tributary/api.Span,tributary/api.Span] -/
theorem p129_2 : PureA Tryz.prog 3 129 [.lst 3 1 [.v (.int .i64 2), .v (.int .i64 1), .v (.int .i64 1)]] (.sl 3 1 [.int .i64 2, .int .i64 1, .int .i64 1]) := sure14.ans 1000000 1000 (by kernel_rfl)
/-- slices.Clone[[]tributary/api.Span,tributary/api.Span] -/
theorem p129_3 : PureA Tryz.prog 3 129 [.lst 3 2 [.v (.int .i64 1), .v (.int .i64 1), .v (.int .i64 1), .v (.int .i64 2), .v (.int .i64 1), .v (.int .i64 1)]] (.sl 3 2 [.int .i64 1, .int .i64 1, .int .i64 1, .int .i64 2, .int .i64 1, .int .i64 1]) := sure14.ans 1000000 1000 (by kernel_rfl)
noncomputable def t129 : List (List DV × Ans) := [([.v (.slice none 0 0)], .lf (.slice none 0 0)),
  ([.lst 3 1 [.v (.int .i64 1), .v (.int .i64 1), .v (.int .i64 1)]], .sl 3 1 [.int .i64 1, .int .i64 1, .int .i64 1]),
  ([.lst 3 1 [.v (.int .i64 2), .v (.int .i64 1), .v (.int .i64 1)]], .sl 3 1 [.int .i64 2, .int .i64 1, .int .i64 1]),
  ([.lst 3 2 [.v (.int .i64 1), .v (.int .i64 1), .v (.int .i64 1), .v (.int .i64 2), .v (.int .i64 1), .v (.int .i64 1)]], .sl 3 2 [.int .i64 1, .int .i64 1, .int .i64 1, .int .i64 2, .int .i64 1, .int .i64 1])]
theorem e129 : EntsA Tryz.prog 3 129 t129 := .cons p129_0 <| .cons p129_1 <| .cons p129_2 <| .cons p129_3 <| .nil
noncomputable def env15 : Env := env14.memoA 129 t129
theorem sure15 : Sure env15 Tryz.prog := sure14.memoA e129

/-- tributary/shelf.Alike -/
theorem p202_0 : PureE Tryz.prog 3 202 [.lst 7 1 [.v (.int .i64 1), .v (.int .i64 1), .v (.string ⟨#[100]⟩), .v (.int .i64 2), .v (.int .i64 0), .v (.slice none 0 0), .v (.slice none 0 0)]] (.bool true) := sure15.pure 1000000 1000 (by kernel_rfl)
/-- tributary/shelf.Alike -/
theorem p202_1 : PureE Tryz.prog 3 202 [.lst 7 1 [.v (.int .i64 2), .v (.int .i64 1), .v (.string ⟨#[100, 47, 102]⟩), .v (.int .i64 1), .v (.int .i64 0), .lst 1 1 [.v (.int .u8 7)], .lst 3 1 [.v (.int .i64 1), .v (.int .i64 1), .v (.int .i64 1)]]] (.bool true) := sure15.pure 1000000 1000 (by kernel_rfl)
noncomputable def t202 : List (List DV × Value) := [([.lst 7 1 [.v (.int .i64 1), .v (.int .i64 1), .v (.string ⟨#[100]⟩), .v (.int .i64 2), .v (.int .i64 0), .v (.slice none 0 0), .v (.slice none 0 0)]], .bool true),
  ([.lst 7 1 [.v (.int .i64 2), .v (.int .i64 1), .v (.string ⟨#[100, 47, 102]⟩), .v (.int .i64 1), .v (.int .i64 0), .lst 1 1 [.v (.int .u8 7)], .lst 3 1 [.v (.int .i64 1), .v (.int .i64 1), .v (.int .i64 1)]]], .bool true)]
theorem e202 : Ents Tryz.prog 3 202 t202 := .cons p202_0 rfl <| .cons p202_1 rfl <| .nil
noncomputable def env16 : Env := env15.memo (tab1 202 t202)
theorem sure16 : Sure env16 Tryz.prog := sure15.memo e202

/-- tributary/clash.With -/
theorem p204_0 : PureA Tryz.prog 3 204 [.lst 7 2 [.v (.int .i64 1), .v (.int .i64 1), .v (.string ⟨#[100]⟩), .v (.int .i64 2), .v (.int .i64 0), .v (.slice none 0 0), .v (.slice none 0 0), .v (.int .i64 2), .v (.int .i64 1), .v (.string ⟨#[100, 47, 102]⟩), .v (.int .i64 1), .v (.int .i64 0), .lst 1 1 [.v (.int .u8 7)], .lst 3 1 [.v (.int .i64 1), .v (.int .i64 1), .v (.int .i64 1)]], .agg [.v (.int .i64 1), .v (.int .i64 1), .v (.string ⟨#[100]⟩), .v (.int .i64 2), .v (.int .i64 0), .v (.slice none 0 0), .v (.slice none 0 0)]] (.lf (.slice none 0 0)) := sure16.ans 1000000 1000 (by kernel_rfl)
/-- tributary/clash.With -/
theorem p204_1 : PureA Tryz.prog 3 204 [.lst 7 2 [.v (.int .i64 1), .v (.int .i64 1), .v (.string ⟨#[100]⟩), .v (.int .i64 2), .v (.int .i64 0), .v (.slice none 0 0), .v (.slice none 0 0), .v (.int .i64 2), .v (.int .i64 1), .v (.string ⟨#[100, 47, 102]⟩), .v (.int .i64 1), .v (.int .i64 0), .lst 1 1 [.v (.int .u8 7)], .lst 3 1 [.v (.int .i64 1), .v (.int .i64 1), .v (.int .i64 1)]], .agg [.v (.int .i64 2), .v (.int .i64 1), .v (.string ⟨#[100, 47, 102]⟩), .v (.int .i64 1), .v (.int .i64 0), .lst 1 1 [.v (.int .u8 7)], .lst 3 1 [.v (.int .i64 1), .v (.int .i64 1), .v (.int .i64 1)]]] (.lf (.slice none 0 0)) := sure16.ans 1000000 1000 (by kernel_rfl)
noncomputable def t204 : List (List DV × Ans) := [([.lst 7 2 [.v (.int .i64 1), .v (.int .i64 1), .v (.string ⟨#[100]⟩), .v (.int .i64 2), .v (.int .i64 0), .v (.slice none 0 0), .v (.slice none 0 0), .v (.int .i64 2), .v (.int .i64 1), .v (.string ⟨#[100, 47, 102]⟩), .v (.int .i64 1), .v (.int .i64 0), .lst 1 1 [.v (.int .u8 7)], .lst 3 1 [.v (.int .i64 1), .v (.int .i64 1), .v (.int .i64 1)]], .agg [.v (.int .i64 1), .v (.int .i64 1), .v (.string ⟨#[100]⟩), .v (.int .i64 2), .v (.int .i64 0), .v (.slice none 0 0), .v (.slice none 0 0)]], .lf (.slice none 0 0)),
  ([.lst 7 2 [.v (.int .i64 1), .v (.int .i64 1), .v (.string ⟨#[100]⟩), .v (.int .i64 2), .v (.int .i64 0), .v (.slice none 0 0), .v (.slice none 0 0), .v (.int .i64 2), .v (.int .i64 1), .v (.string ⟨#[100, 47, 102]⟩), .v (.int .i64 1), .v (.int .i64 0), .lst 1 1 [.v (.int .u8 7)], .lst 3 1 [.v (.int .i64 1), .v (.int .i64 1), .v (.int .i64 1)]], .agg [.v (.int .i64 2), .v (.int .i64 1), .v (.string ⟨#[100, 47, 102]⟩), .v (.int .i64 1), .v (.int .i64 0), .lst 1 1 [.v (.int .u8 7)], .lst 3 1 [.v (.int .i64 1), .v (.int .i64 1), .v (.int .i64 1)]]], .lf (.slice none 0 0))]
theorem e204 : EntsA Tryz.prog 3 204 t204 := .cons p204_0 <| .cons p204_1 <| .nil
noncomputable def env17 : Env := env16.memoA 204 t204
theorem sure17 : Sure env17 Tryz.prog := sure16.memoA e204

/-- tributary/past.Join -/
theorem p128_0 : PureA Tryz.prog 3 128 [.v (.slice none 0 0), .v (.slice none 0 0)] (.tl [.slice none 0 0, .int .i64 0]) := sure17.ans 1000000 1000 (by kernel_rfl)
/-- tributary/past.Join -/
theorem p128_1 : PureA Tryz.prog 3 128 [.v (.slice none 0 0), .lst 3 1 [.v (.int .i64 1), .v (.int .i64 1), .v (.int .i64 1)]] (.ts 3 1 [.int .i64 1, .int .i64 1, .int .i64 1] [.int .i64 0]) := sure17.ans 1000000 1000 (by kernel_rfl)
/-- tributary/past.Join -/
theorem p128_2 : PureA Tryz.prog 3 128 [.lst 3 1 [.v (.int .i64 1), .v (.int .i64 1), .v (.int .i64 1)], .v (.slice none 0 0)] (.ts 3 1 [.int .i64 1, .int .i64 1, .int .i64 1] [.int .i64 0]) := sure17.ans 1000000 1000 (by kernel_rfl)
/-- tributary/past.Join -/
theorem p128_3 : PureA Tryz.prog 3 128 [.lst 3 1 [.v (.int .i64 1), .v (.int .i64 1), .v (.int .i64 1)], .lst 3 1 [.v (.int .i64 2), .v (.int .i64 1), .v (.int .i64 1)]] (.ts 3 2 [.int .i64 1, .int .i64 1, .int .i64 1, .int .i64 2, .int .i64 1, .int .i64 1] [.int .i64 0]) := sure17.ans 1000000 1000 (by kernel_rfl)
/-- tributary/past.Join -/
theorem p128_4 : PureA Tryz.prog 3 128 [.lst 3 2 [.v (.int .i64 1), .v (.int .i64 1), .v (.int .i64 1), .v (.int .i64 2), .v (.int .i64 1), .v (.int .i64 1)], .v (.slice none 0 0)] (.ts 3 2 [.int .i64 1, .int .i64 1, .int .i64 1, .int .i64 2, .int .i64 1, .int .i64 1] [.int .i64 0]) := sure17.ans 1000000 1000 (by kernel_rfl)
noncomputable def t128 : List (List DV × Ans) := [([.v (.slice none 0 0), .v (.slice none 0 0)], .tl [.slice none 0 0, .int .i64 0]),
  ([.v (.slice none 0 0), .lst 3 1 [.v (.int .i64 1), .v (.int .i64 1), .v (.int .i64 1)]], .ts 3 1 [.int .i64 1, .int .i64 1, .int .i64 1] [.int .i64 0]),
  ([.lst 3 1 [.v (.int .i64 1), .v (.int .i64 1), .v (.int .i64 1)], .v (.slice none 0 0)], .ts 3 1 [.int .i64 1, .int .i64 1, .int .i64 1] [.int .i64 0]),
  ([.lst 3 1 [.v (.int .i64 1), .v (.int .i64 1), .v (.int .i64 1)], .lst 3 1 [.v (.int .i64 2), .v (.int .i64 1), .v (.int .i64 1)]], .ts 3 2 [.int .i64 1, .int .i64 1, .int .i64 1, .int .i64 2, .int .i64 1, .int .i64 1] [.int .i64 0]),
  ([.lst 3 2 [.v (.int .i64 1), .v (.int .i64 1), .v (.int .i64 1), .v (.int .i64 2), .v (.int .i64 1), .v (.int .i64 1)], .v (.slice none 0 0)], .ts 3 2 [.int .i64 1, .int .i64 1, .int .i64 1, .int .i64 2, .int .i64 1, .int .i64 1] [.int .i64 0])]
theorem e128 : EntsA Tryz.prog 3 128 t128 := .cons p128_0 <| .cons p128_1 <| .cons p128_2 <| .cons p128_3 <| .cons p128_4 <| .nil
noncomputable def env18 : Env := env17.memoA 128 t128
theorem sure18 : Sure env18 Tryz.prog := sure17.memoA e128

/-- tributary/shelf.Past -/
theorem p127_0 : PureA Tryz.prog 3 127 [.lst 7 1 [.v (.int .i64 1), .v (.int .i64 1), .v (.string ⟨#[100]⟩), .v (.int .i64 2), .v (.int .i64 0), .v (.slice none 0 0), .v (.slice none 0 0)]] (.ts 3 1 [.int .i64 1, .int .i64 1, .int .i64 1] [.int .i64 0]) := sure18.ans 1000000 1000 (by kernel_rfl)
/-- tributary/shelf.Past -/
theorem p127_1 : PureA Tryz.prog 3 127 [.lst 7 1 [.v (.int .i64 2), .v (.int .i64 1), .v (.string ⟨#[100, 47, 102]⟩), .v (.int .i64 1), .v (.int .i64 0), .lst 1 1 [.v (.int .u8 7)], .lst 3 1 [.v (.int .i64 1), .v (.int .i64 1), .v (.int .i64 1)]]] (.ts 3 2 [.int .i64 1, .int .i64 1, .int .i64 1, .int .i64 2, .int .i64 1, .int .i64 1] [.int .i64 0]) := sure18.ans 1000000 1000 (by kernel_rfl)
noncomputable def t127 : List (List DV × Ans) := [([.lst 7 1 [.v (.int .i64 1), .v (.int .i64 1), .v (.string ⟨#[100]⟩), .v (.int .i64 2), .v (.int .i64 0), .v (.slice none 0 0), .v (.slice none 0 0)]], .ts 3 1 [.int .i64 1, .int .i64 1, .int .i64 1] [.int .i64 0]),
  ([.lst 7 1 [.v (.int .i64 2), .v (.int .i64 1), .v (.string ⟨#[100, 47, 102]⟩), .v (.int .i64 1), .v (.int .i64 0), .lst 1 1 [.v (.int .u8 7)], .lst 3 1 [.v (.int .i64 1), .v (.int .i64 1), .v (.int .i64 1)]]], .ts 3 2 [.int .i64 1, .int .i64 1, .int .i64 1, .int .i64 2, .int .i64 1, .int .i64 1] [.int .i64 0])]
theorem e127 : EntsA Tryz.prog 3 127 t127 := .cons p127_0 <| .cons p127_1 <| .nil
noncomputable def env19 : Env := env18.memoA 127 t127
theorem sure19 : Sure env19 Tryz.prog := sure18.memoA e127

/-- tributary/path.Parent -/
theorem p132_0 : PureA Tryz.prog 3 132 [.v (.string ⟨#[100]⟩)] (.tl [.string ⟨#[]⟩, .bool false]) := sure19.ans 1000000 1000 (by kernel_rfl)
/-- tributary/path.Parent -/
theorem p132_1 : PureA Tryz.prog 3 132 [.v (.string ⟨#[100, 47, 102]⟩)] (.tl [.string ⟨#[100]⟩, .bool true]) := sure19.ans 1000000 1000 (by kernel_rfl)
noncomputable def t132 : List (List DV × Ans) := [([.v (.string ⟨#[100]⟩)], .tl [.string ⟨#[]⟩, .bool false]),
  ([.v (.string ⟨#[100, 47, 102]⟩)], .tl [.string ⟨#[100]⟩, .bool true])]
theorem e132 : EntsA Tryz.prog 3 132 t132 := .cons p132_0 <| .cons p132_1 <| .nil
noncomputable def env20 : Env := env19.memoA 132 t132
theorem sure20 : Sure env20 Tryz.prog := sure19.memoA e132

/-- tributary/shown.candidate.ready -/
theorem p126_0 : PureE Tryz.prog 3 126 [.agg [.v (.slice none 0 0), .lst 7 2 [.v (.int .i64 1), .v (.int .i64 1), .v (.string ⟨#[100]⟩), .v (.int .i64 2), .v (.int .i64 0), .v (.slice none 0 0), .v (.slice none 0 0), .v (.int .i64 2), .v (.int .i64 1), .v (.string ⟨#[100, 47, 102]⟩), .v (.int .i64 1), .v (.int .i64 0), .lst 1 1 [.v (.int .u8 7)], .lst 3 1 [.v (.int .i64 1), .v (.int .i64 1), .v (.int .i64 1)]], .v (.string ⟨#[100]⟩), .lst 7 1 [.v (.int .i64 1), .v (.int .i64 1), .v (.string ⟨#[100]⟩), .v (.int .i64 2), .v (.int .i64 0), .v (.slice none 0 0), .v (.slice none 0 0)]]] (.bool true) := sure20.pure 1000000 1000 (by kernel_rfl)
/-- tributary/shown.candidate.ready -/
theorem p126_1 : PureE Tryz.prog 3 126 [.agg [.lst 5 1 [.v (.string ⟨#[100]⟩), .v (.int .i64 2), .v (.int .i64 0), .v (.slice none 0 0), .lst 3 1 [.v (.int .i64 1), .v (.int .i64 1), .v (.int .i64 1)]], .lst 7 2 [.v (.int .i64 1), .v (.int .i64 1), .v (.string ⟨#[100]⟩), .v (.int .i64 2), .v (.int .i64 0), .v (.slice none 0 0), .v (.slice none 0 0), .v (.int .i64 2), .v (.int .i64 1), .v (.string ⟨#[100, 47, 102]⟩), .v (.int .i64 1), .v (.int .i64 0), .lst 1 1 [.v (.int .u8 7)], .lst 3 1 [.v (.int .i64 1), .v (.int .i64 1), .v (.int .i64 1)]], .v (.string ⟨#[100]⟩), .lst 7 1 [.v (.int .i64 1), .v (.int .i64 1), .v (.string ⟨#[100]⟩), .v (.int .i64 2), .v (.int .i64 0), .v (.slice none 0 0), .v (.slice none 0 0)]]] (.bool false) := sure20.pure 1000000 1000 (by kernel_rfl)
/-- tributary/shown.candidate.ready -/
theorem p126_2 : PureE Tryz.prog 3 126 [.agg [.lst 5 1 [.v (.string ⟨#[100]⟩), .v (.int .i64 2), .v (.int .i64 0), .v (.slice none 0 0), .lst 3 1 [.v (.int .i64 1), .v (.int .i64 1), .v (.int .i64 1)]], .lst 7 2 [.v (.int .i64 1), .v (.int .i64 1), .v (.string ⟨#[100]⟩), .v (.int .i64 2), .v (.int .i64 0), .v (.slice none 0 0), .v (.slice none 0 0), .v (.int .i64 2), .v (.int .i64 1), .v (.string ⟨#[100, 47, 102]⟩), .v (.int .i64 1), .v (.int .i64 0), .lst 1 1 [.v (.int .u8 7)], .lst 3 1 [.v (.int .i64 1), .v (.int .i64 1), .v (.int .i64 1)]], .v (.string ⟨#[100, 47, 102]⟩), .lst 7 1 [.v (.int .i64 2), .v (.int .i64 1), .v (.string ⟨#[100, 47, 102]⟩), .v (.int .i64 1), .v (.int .i64 0), .lst 1 1 [.v (.int .u8 7)], .lst 3 1 [.v (.int .i64 1), .v (.int .i64 1), .v (.int .i64 1)]]]] (.bool true) := sure20.pure 1000000 1000 (by kernel_rfl)
noncomputable def t126 : List (List DV × Value) := [([.agg [.v (.slice none 0 0), .lst 7 2 [.v (.int .i64 1), .v (.int .i64 1), .v (.string ⟨#[100]⟩), .v (.int .i64 2), .v (.int .i64 0), .v (.slice none 0 0), .v (.slice none 0 0), .v (.int .i64 2), .v (.int .i64 1), .v (.string ⟨#[100, 47, 102]⟩), .v (.int .i64 1), .v (.int .i64 0), .lst 1 1 [.v (.int .u8 7)], .lst 3 1 [.v (.int .i64 1), .v (.int .i64 1), .v (.int .i64 1)]], .v (.string ⟨#[100]⟩), .lst 7 1 [.v (.int .i64 1), .v (.int .i64 1), .v (.string ⟨#[100]⟩), .v (.int .i64 2), .v (.int .i64 0), .v (.slice none 0 0), .v (.slice none 0 0)]]], .bool true),
  ([.agg [.lst 5 1 [.v (.string ⟨#[100]⟩), .v (.int .i64 2), .v (.int .i64 0), .v (.slice none 0 0), .lst 3 1 [.v (.int .i64 1), .v (.int .i64 1), .v (.int .i64 1)]], .lst 7 2 [.v (.int .i64 1), .v (.int .i64 1), .v (.string ⟨#[100]⟩), .v (.int .i64 2), .v (.int .i64 0), .v (.slice none 0 0), .v (.slice none 0 0), .v (.int .i64 2), .v (.int .i64 1), .v (.string ⟨#[100, 47, 102]⟩), .v (.int .i64 1), .v (.int .i64 0), .lst 1 1 [.v (.int .u8 7)], .lst 3 1 [.v (.int .i64 1), .v (.int .i64 1), .v (.int .i64 1)]], .v (.string ⟨#[100]⟩), .lst 7 1 [.v (.int .i64 1), .v (.int .i64 1), .v (.string ⟨#[100]⟩), .v (.int .i64 2), .v (.int .i64 0), .v (.slice none 0 0), .v (.slice none 0 0)]]], .bool false),
  ([.agg [.lst 5 1 [.v (.string ⟨#[100]⟩), .v (.int .i64 2), .v (.int .i64 0), .v (.slice none 0 0), .lst 3 1 [.v (.int .i64 1), .v (.int .i64 1), .v (.int .i64 1)]], .lst 7 2 [.v (.int .i64 1), .v (.int .i64 1), .v (.string ⟨#[100]⟩), .v (.int .i64 2), .v (.int .i64 0), .v (.slice none 0 0), .v (.slice none 0 0), .v (.int .i64 2), .v (.int .i64 1), .v (.string ⟨#[100, 47, 102]⟩), .v (.int .i64 1), .v (.int .i64 0), .lst 1 1 [.v (.int .u8 7)], .lst 3 1 [.v (.int .i64 1), .v (.int .i64 1), .v (.int .i64 1)]], .v (.string ⟨#[100, 47, 102]⟩), .lst 7 1 [.v (.int .i64 2), .v (.int .i64 1), .v (.string ⟨#[100, 47, 102]⟩), .v (.int .i64 1), .v (.int .i64 0), .lst 1 1 [.v (.int .u8 7)], .lst 3 1 [.v (.int .i64 1), .v (.int .i64 1), .v (.int .i64 1)]]]], .bool true)]
theorem e126 : Ents Tryz.prog 3 126 t126 := .cons p126_0 rfl <| .cons p126_1 rfl <| .cons p126_2 rfl <| .nil
noncomputable def env21 : Env := env20.memo (tab1 126 t126)
theorem sure21 : Sure env21 Tryz.prog := sure20.memo e126

/-- tributary/install.Check -/
theorem p23_0 : PureE Tryz.prog 3 23 [.agg [.v (.string ⟨#[100]⟩), .v (.int .i64 2), .v (.int .i64 0), .v (.slice none 0 0), .lst 3 1 [.v (.int .i64 1), .v (.int .i64 1), .v (.int .i64 1)], .v (.int .i64 0)]] (.int .i64 0) := sure21.pure 1000000 1000 (by kernel_rfl)
/-- tributary/install.Check -/
theorem p23_1 : PureE Tryz.prog 3 23 [.agg [.v (.string ⟨#[100, 47, 102]⟩), .v (.int .i64 1), .v (.int .i64 0), .lst 1 1 [.v (.int .u8 7)], .lst 3 2 [.v (.int .i64 1), .v (.int .i64 1), .v (.int .i64 1), .v (.int .i64 2), .v (.int .i64 1), .v (.int .i64 1)], .v (.int .i64 0)]] (.int .i64 0) := sure21.pure 1000000 1000 (by kernel_rfl)
/-- tributary/install.Check -/
theorem p23_2 : PureE Tryz.prog 3 23 [.agg [.v (.string ⟨#[100]⟩), .v (.int .i64 3), .v (.int .i64 0), .v (.slice none 0 0), .v (.slice none 0 0), .v (.int .i64 5)]] (.int .i64 0) := sure21.pure 1000000 1000 (by kernel_rfl)
noncomputable def t23 : List (List DV × Value) := [([.agg [.v (.string ⟨#[100]⟩), .v (.int .i64 2), .v (.int .i64 0), .v (.slice none 0 0), .lst 3 1 [.v (.int .i64 1), .v (.int .i64 1), .v (.int .i64 1)], .v (.int .i64 0)]], .int .i64 0),
  ([.agg [.v (.string ⟨#[100, 47, 102]⟩), .v (.int .i64 1), .v (.int .i64 0), .lst 1 1 [.v (.int .u8 7)], .lst 3 2 [.v (.int .i64 1), .v (.int .i64 1), .v (.int .i64 1), .v (.int .i64 2), .v (.int .i64 1), .v (.int .i64 1)], .v (.int .i64 0)]], .int .i64 0),
  ([.agg [.v (.string ⟨#[100]⟩), .v (.int .i64 3), .v (.int .i64 0), .v (.slice none 0 0), .v (.slice none 0 0), .v (.int .i64 5)]], .int .i64 0)]
theorem e23 : Ents Tryz.prog 3 23 t23 := .cons p23_0 rfl <| .cons p23_1 rfl <| .cons p23_2 rfl <| .nil
noncomputable def env22 : Env := env21.memo (tab1 23 t23)
theorem sure22 : Sure env22 Tryz.prog := sure21.memo e23

/-- tributary/effect.Same -/
theorem p28_0 : PureE Tryz.prog 3 28 [.agg [.v (.int .i64 2), .v (.int .i64 0), .v (.slice none 0 0)], .agg [.v (.int .i64 2), .v (.int .i64 0), .v (.slice none 0 0)]] (.bool true) := sure22.pure 1000000 1000 (by kernel_rfl)
/-- tributary/effect.Same -/
theorem p28_1 : PureE Tryz.prog 3 28 [.agg [.v (.int .i64 1), .v (.int .i64 0), .lst 1 1 [.v (.int .u8 8)]], .agg [.v (.int .i64 3), .v (.int .i64 0), .v (.slice none 0 0)]] (.bool false) := sure22.pure 1000000 1000 (by kernel_rfl)
/-- tributary/effect.Same -/
theorem p28_2 : PureE Tryz.prog 3 28 [.agg [.v (.int .i64 2), .v (.int .i64 0), .v (.slice none 0 0)], .agg [.v (.int .i64 3), .v (.int .i64 0), .v (.slice none 0 0)]] (.bool false) := sure22.pure 1000000 1000 (by kernel_rfl)
/-- tributary/effect.Same -/
theorem p28_3 : PureE Tryz.prog 3 28 [.agg [.v (.int .i64 1), .v (.int .i64 0), .lst 1 1 [.v (.int .u8 8)]], .agg [.v (.int .i64 1), .v (.int .i64 0), .lst 1 1 [.v (.int .u8 7)]]] (.bool false) := sure22.pure 1000000 1000 (by kernel_rfl)
/-- tributary/effect.Same -/
theorem p28_4 : PureE Tryz.prog 3 28 [.agg [.v (.int .i64 3), .v (.int .i64 0), .v (.slice none 0 0)], .agg [.v (.int .i64 2), .v (.int .i64 0), .v (.slice none 0 0)]] (.bool false) := sure22.pure 1000000 1000 (by kernel_rfl)
noncomputable def t28 : List (List DV × Value) := [([.agg [.v (.int .i64 2), .v (.int .i64 0), .v (.slice none 0 0)], .agg [.v (.int .i64 2), .v (.int .i64 0), .v (.slice none 0 0)]], .bool true),
  ([.agg [.v (.int .i64 1), .v (.int .i64 0), .lst 1 1 [.v (.int .u8 8)]], .agg [.v (.int .i64 3), .v (.int .i64 0), .v (.slice none 0 0)]], .bool false),
  ([.agg [.v (.int .i64 2), .v (.int .i64 0), .v (.slice none 0 0)], .agg [.v (.int .i64 3), .v (.int .i64 0), .v (.slice none 0 0)]], .bool false),
  ([.agg [.v (.int .i64 1), .v (.int .i64 0), .lst 1 1 [.v (.int .u8 8)]], .agg [.v (.int .i64 1), .v (.int .i64 0), .lst 1 1 [.v (.int .u8 7)]]], .bool false),
  ([.agg [.v (.int .i64 3), .v (.int .i64 0), .v (.slice none 0 0)], .agg [.v (.int .i64 2), .v (.int .i64 0), .v (.slice none 0 0)]], .bool false)]
theorem e28 : Ents Tryz.prog 3 28 t28 := .cons p28_0 rfl <| .cons p28_1 rfl <| .cons p28_2 rfl <| .cons p28_3 rfl <| .cons p28_4 rfl <| .nil
noncomputable def env23 : Env := env22.memo (tab1 28 t28)
theorem sure23 : Sure env23 Tryz.prog := sure22.memo e28

theorem ran : isTrue (run env23 1000000 1000 (.call 3 []) (mem0 3)) = true := by kernel_rfl
theorem fn : (env.fn 3).isSome = true := by kernel_rfl
theorem calls (W : World) (hW : 3 ≤ W.heap.size) :
    Calls Tryz.prog 3 #[] W fun e W' => e = .returned (.bool true) ∧ (∀ b, b < W.heap.size → W'.heap[b]? = W.heap[b]?) ∧ W.heap.size ≤ W'.heap.size ∧ W'.os = W.os ∧ W'.tape = W.tape ∧ W'.output = W.output :=
  match Option.isSome_iff_exists.1 fn with
  | ⟨_, hx⟩ => closed_calls' (E := env23) (j := 1000000) (k := 1000) sure23.ok sure23.ext sure23.keep hx (show isTrue (run env23 1000000 1000 (.call 3 []) (mem0 env.ng)) = true from env_ng.symm ▸ ran) (show env.ng ≤ _ from env_ng.symm ▸ hW)
end InstallKnown
end Go.Proofs.YtnhhppflnpfehacGreatDoor
