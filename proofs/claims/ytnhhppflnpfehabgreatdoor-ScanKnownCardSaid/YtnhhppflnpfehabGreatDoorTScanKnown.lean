/- ScanKnown: answers of calls that come again, and the run that uses them, by the kernel. Of closed terms; no condition. -/
import Derived.Test.YtnhhppflnpfehabGreatDoorEnvB
namespace Go.Proofs.YtnhhppflnpfehabGreatDoor
namespace ScanKnown
open Go Go.Am
set_option maxRecDepth 1000000

/-- tributary/table.find -/
theorem p70_0 : PureA Tryz.prog 3 70 [.v (.slice none 0 0), .v (.string ⟨#[97]⟩)] (.tl [.int .i64 (-1), .bool false]) := sureB.ans 1000000 1000 (by kernel_rfl)
/-- tributary/table.find -/
theorem p70_1 : PureA Tryz.prog 3 70 [.lst 4 1 [.v (.string ⟨#[97]⟩), .v (.int .i64 2), .v (.int .i64 0), .v (.slice none 0 0)], .v (.string ⟨#[97, 47, 98]⟩)] (.tl [.int .i64 (-1), .bool false]) := sureB.ans 1000000 1000 (by kernel_rfl)
/-- tributary/table.find -/
theorem p70_2 : PureA Tryz.prog 3 70 [.lst 4 1 [.v (.string ⟨#[97]⟩), .v (.int .i64 2), .v (.int .i64 0), .v (.slice none 0 0)], .v (.string ⟨#[97]⟩)] (.tl [.int .i64 0, .bool true]) := sureB.ans 1000000 1000 (by kernel_rfl)
/-- tributary/table.find -/
theorem p70_3 : PureA Tryz.prog 3 70 [.lst 4 2 [.v (.string ⟨#[97]⟩), .v (.int .i64 2), .v (.int .i64 0), .v (.slice none 0 0), .v (.string ⟨#[97, 47, 98]⟩), .v (.int .i64 1), .v (.int .i64 0), .lst 1 1 [.v (.int .u8 7)]], .v (.string ⟨#[97]⟩)] (.tl [.int .i64 0, .bool true]) := sureB.ans 1000000 1000 (by kernel_rfl)
/-- tributary/table.find -/
theorem p70_4 : PureA Tryz.prog 3 70 [.lst 4 2 [.v (.string ⟨#[97]⟩), .v (.int .i64 2), .v (.int .i64 0), .v (.slice none 0 0), .v (.string ⟨#[97, 47, 98]⟩), .v (.int .i64 1), .v (.int .i64 0), .lst 1 1 [.v (.int .u8 7)]], .v (.string ⟨#[97, 47, 98]⟩)] (.tl [.int .i64 1, .bool true]) := sureB.ans 1000000 1000 (by kernel_rfl)
/-- tributary/table.find -/
theorem p70_5 : PureA Tryz.prog 3 70 [.lst 4 2 [.v (.string ⟨#[97]⟩), .v (.int .i64 2), .v (.int .i64 0), .v (.slice none 0 0), .v (.string ⟨#[97, 47, 98]⟩), .v (.int .i64 1), .v (.int .i64 0), .lst 1 1 [.v (.int .u8 7)]], .v (.string ⟨#[]⟩)] (.tl [.int .i64 (-1), .bool false]) := sureB.ans 1000000 1000 (by kernel_rfl)
/-- tributary/table.find -/
theorem p70_6 : PureA Tryz.prog 3 70 [.lst 4 0 [], .v (.string ⟨#[]⟩)] (.tl [.int .i64 (-1), .bool false]) := sureB.ans 1000000 1000 (by kernel_rfl)
/-- tributary/table.find -/
theorem p70_7 : PureA Tryz.prog 3 70 [.v (.slice none 0 0), .v (.string ⟨#[97, 47, 98]⟩)] (.tl [.int .i64 (-1), .bool false]) := sureB.ans 1000000 1000 (by kernel_rfl)
/-- tributary/table.find -/
theorem p70_8 : PureA Tryz.prog 3 70 [.lst 4 1 [.v (.string ⟨#[97, 47, 98]⟩), .v (.int .i64 1), .v (.int .i64 0), .lst 1 1 [.v (.int .u8 7)]], .v (.string ⟨#[97]⟩)] (.tl [.int .i64 (-1), .bool false]) := sureB.ans 1000000 1000 (by kernel_rfl)
noncomputable def t70 : List (List DV × Ans) := [([.v (.slice none 0 0), .v (.string ⟨#[97]⟩)], .tl [.int .i64 (-1), .bool false]),
  ([.lst 4 1 [.v (.string ⟨#[97]⟩), .v (.int .i64 2), .v (.int .i64 0), .v (.slice none 0 0)], .v (.string ⟨#[97, 47, 98]⟩)], .tl [.int .i64 (-1), .bool false]),
  ([.lst 4 1 [.v (.string ⟨#[97]⟩), .v (.int .i64 2), .v (.int .i64 0), .v (.slice none 0 0)], .v (.string ⟨#[97]⟩)], .tl [.int .i64 0, .bool true]),
  ([.lst 4 2 [.v (.string ⟨#[97]⟩), .v (.int .i64 2), .v (.int .i64 0), .v (.slice none 0 0), .v (.string ⟨#[97, 47, 98]⟩), .v (.int .i64 1), .v (.int .i64 0), .lst 1 1 [.v (.int .u8 7)]], .v (.string ⟨#[97]⟩)], .tl [.int .i64 0, .bool true]),
  ([.lst 4 2 [.v (.string ⟨#[97]⟩), .v (.int .i64 2), .v (.int .i64 0), .v (.slice none 0 0), .v (.string ⟨#[97, 47, 98]⟩), .v (.int .i64 1), .v (.int .i64 0), .lst 1 1 [.v (.int .u8 7)]], .v (.string ⟨#[97, 47, 98]⟩)], .tl [.int .i64 1, .bool true]),
  ([.lst 4 2 [.v (.string ⟨#[97]⟩), .v (.int .i64 2), .v (.int .i64 0), .v (.slice none 0 0), .v (.string ⟨#[97, 47, 98]⟩), .v (.int .i64 1), .v (.int .i64 0), .lst 1 1 [.v (.int .u8 7)]], .v (.string ⟨#[]⟩)], .tl [.int .i64 (-1), .bool false]),
  ([.lst 4 0 [], .v (.string ⟨#[]⟩)], .tl [.int .i64 (-1), .bool false]),
  ([.v (.slice none 0 0), .v (.string ⟨#[97, 47, 98]⟩)], .tl [.int .i64 (-1), .bool false]),
  ([.lst 4 1 [.v (.string ⟨#[97, 47, 98]⟩), .v (.int .i64 1), .v (.int .i64 0), .lst 1 1 [.v (.int .u8 7)]], .v (.string ⟨#[97]⟩)], .tl [.int .i64 (-1), .bool false])]
theorem e70 : EntsA Tryz.prog 3 70 t70 := .cons p70_0 <| .cons p70_1 <| .cons p70_2 <| .cons p70_3 <| .cons p70_4 <| .cons p70_5 <| .cons p70_6 <| .cons p70_7 <| .cons p70_8 <| .nil
noncomputable def env1 : Env := envB.memoA 70 t70
theorem sure1 : Sure env1 Tryz.prog := sureB.memoA e70

/-- tributary/table.Check -/
theorem p45_0 : PureE Tryz.prog 3 45 [.v (.slice none 0 0)] (.int .i64 0) := sure1.pure 1000000 1000 (by kernel_rfl)
/-- tributary/table.Check -/
theorem p45_1 : PureE Tryz.prog 3 45 [.lst 4 1 [.v (.string ⟨#[97]⟩), .v (.int .i64 2), .v (.int .i64 0), .v (.slice none 0 0)]] (.int .i64 0) := sure1.pure 1000000 1000 (by kernel_rfl)
/-- tributary/table.Check -/
theorem p45_2 : PureE Tryz.prog 3 45 [.lst 4 2 [.v (.string ⟨#[97]⟩), .v (.int .i64 2), .v (.int .i64 0), .v (.slice none 0 0), .v (.string ⟨#[97, 47, 98]⟩), .v (.int .i64 1), .v (.int .i64 0), .lst 1 1 [.v (.int .u8 7)]]] (.int .i64 0) := sure1.pure 1000000 1000 (by kernel_rfl)
/-- tributary/table.Check -/
theorem p45_3 : PureE Tryz.prog 3 45 [.lst 4 1 [.v (.string ⟨#[97, 47, 98]⟩), .v (.int .i64 1), .v (.int .i64 0), .lst 1 1 [.v (.int .u8 7)]]] (.int .i64 2) := sure1.pure 1000000 1000 (by kernel_rfl)
noncomputable def t45 : List (List DV × Value) := [([.v (.slice none 0 0)], .int .i64 0),
  ([.lst 4 1 [.v (.string ⟨#[97]⟩), .v (.int .i64 2), .v (.int .i64 0), .v (.slice none 0 0)]], .int .i64 0),
  ([.lst 4 2 [.v (.string ⟨#[97]⟩), .v (.int .i64 2), .v (.int .i64 0), .v (.slice none 0 0), .v (.string ⟨#[97, 47, 98]⟩), .v (.int .i64 1), .v (.int .i64 0), .lst 1 1 [.v (.int .u8 7)]]], .int .i64 0),
  ([.lst 4 1 [.v (.string ⟨#[97, 47, 98]⟩), .v (.int .i64 1), .v (.int .i64 0), .lst 1 1 [.v (.int .u8 7)]]], .int .i64 2)]
theorem e45 : Ents Tryz.prog 3 45 t45 := .cons p45_0 rfl <| .cons p45_1 rfl <| .cons p45_2 rfl <| .cons p45_3 rfl <| .nil
noncomputable def env2 : Env := env1.memo (tab1 45 t45)
theorem sure2 : Sure env2 Tryz.prog := sure1.memo e45

/-- tributary/path.part -/
theorem p93_0 : PureE Tryz.prog 3 93 [.v (.string ⟨#[97]⟩)] (.bool true) := sure2.pure 1000000 1000 (by kernel_rfl)
/-- tributary/path.part -/
theorem p93_1 : PureE Tryz.prog 3 93 [.v (.string ⟨#[98]⟩)] (.bool true) := sure2.pure 1000000 1000 (by kernel_rfl)
noncomputable def t93 : List (List DV × Value) := [([.v (.string ⟨#[97]⟩)], .bool true),
  ([.v (.string ⟨#[98]⟩)], .bool true)]
theorem e93 : Ents Tryz.prog 3 93 t93 := .cons p93_0 rfl <| .cons p93_1 rfl <| .nil
noncomputable def env3 : Env := env2.memo (tab1 93 t93)
theorem sure3 : Sure env3 Tryz.prog := sure2.memo e93

/-- tributary/path.Check -/
theorem p61_0 : PureE Tryz.prog 3 61 [.v (.string ⟨#[97]⟩)] (.int .i64 0) := sure3.pure 1000000 1000 (by kernel_rfl)
/-- tributary/path.Check -/
theorem p61_1 : PureE Tryz.prog 3 61 [.v (.string ⟨#[97, 47, 98]⟩)] (.int .i64 0) := sure3.pure 1000000 1000 (by kernel_rfl)
noncomputable def t61 : List (List DV × Value) := [([.v (.string ⟨#[97]⟩)], .int .i64 0),
  ([.v (.string ⟨#[97, 47, 98]⟩)], .int .i64 0)]
theorem e61 : Ents Tryz.prog 3 61 t61 := .cons p61_0 rfl <| .cons p61_1 rfl <| .nil
noncomputable def env4 : Env := env3.memo (tab1 61 t61)
theorem sure4 : Sure env4 Tryz.prog := sure3.memo e61

/-- tributary/effect.Check -/
theorem p62_0 : PureE Tryz.prog 3 62 [.agg [.v (.int .i64 2), .v (.int .i64 0), .v (.slice none 0 0)]] (.int .i64 0) := sure4.pure 1000000 1000 (by kernel_rfl)
/-- tributary/effect.Check -/
theorem p62_1 : PureE Tryz.prog 3 62 [.agg [.v (.int .i64 1), .v (.int .i64 0), .lst 1 1 [.v (.int .u8 7)]]] (.int .i64 0) := sure4.pure 1000000 1000 (by kernel_rfl)
noncomputable def t62 : List (List DV × Value) := [([.agg [.v (.int .i64 2), .v (.int .i64 0), .v (.slice none 0 0)]], .int .i64 0),
  ([.agg [.v (.int .i64 1), .v (.int .i64 0), .lst 1 1 [.v (.int .u8 7)]]], .int .i64 0)]
theorem e62 : Ents Tryz.prog 3 62 t62 := .cons p62_0 rfl <| .cons p62_1 rfl <| .nil
noncomputable def env5 : Env := env4.memo (tab1 62 t62)
theorem sure5 : Sure env5 Tryz.prog := sure4.memo e62

/-- tributary/path.Parent -/
theorem p111_0 : PureA Tryz.prog 3 111 [.v (.string ⟨#[97]⟩)] (.tl [.string ⟨#[]⟩, .bool false]) := sure5.ans 1000000 1000 (by kernel_rfl)
/-- tributary/path.Parent -/
theorem p111_1 : PureA Tryz.prog 3 111 [.v (.string ⟨#[97, 47, 98]⟩)] (.tl [.string ⟨#[97]⟩, .bool true]) := sure5.ans 1000000 1000 (by kernel_rfl)
noncomputable def t111 : List (List DV × Ans) := [([.v (.string ⟨#[97]⟩)], .tl [.string ⟨#[]⟩, .bool false]),
  ([.v (.string ⟨#[97, 47, 98]⟩)], .tl [.string ⟨#[97]⟩, .bool true])]
theorem e111 : EntsA Tryz.prog 3 111 t111 := .cons p111_0 <| .cons p111_1 <| .nil
noncomputable def env6 : Env := env5.memoA 111 t111
theorem sure6 : Sure env6 Tryz.prog := sure5.memoA e111

/-- slices.Clone[[]byte,byte] -/
theorem p64_0 : PureA Tryz.prog 3 64 [.v (.slice none 0 0)] (.lf (.slice none 0 0)) := sure6.ans 1000000 1000 (by kernel_rfl)
/-- slices.Clone[[]byte,byte] -/
theorem p64_1 : PureA Tryz.prog 3 64 [.lst 1 1 [.v (.int .u8 7)]] (.sl 1 1 [.int .u8 7]) := sure6.ans 1000000 1000 (by kernel_rfl)
noncomputable def t64 : List (List DV × Ans) := [([.v (.slice none 0 0)], .lf (.slice none 0 0)),
  ([.lst 1 1 [.v (.int .u8 7)]], .sl 1 1 [.int .u8 7])]
theorem e64 : EntsA Tryz.prog 3 64 t64 := .cons p64_0 <| .cons p64_1 <| .nil
noncomputable def env7 : Env := env6.memoA 64 t64
theorem sure7 : Sure env7 Tryz.prog := sure6.memoA e64

/-- tributary/path.Less -/
theorem p44_0 : PureE Tryz.prog 3 44 [.v (.string ⟨#[97]⟩), .v (.string ⟨#[97, 47, 98]⟩)] (.bool true) := sure7.pure 1000000 1000 (by kernel_rfl)
noncomputable def t44 : List (List DV × Value) := [([.v (.string ⟨#[97]⟩), .v (.string ⟨#[97, 47, 98]⟩)], .bool true)]
theorem e44 : Ents Tryz.prog 3 44 t44 := .cons p44_0 rfl <| .nil
noncomputable def env8 : Env := env7.memo (tab1 44 t44)
theorem sure8 : Sure env8 Tryz.prog := sure7.memo e44

/-- tributary/table.by -/
theorem p109_0 : PureE Tryz.prog 3 109 [.agg [.v (.string ⟨#[97]⟩), .v (.int .i64 2), .v (.int .i64 0), .v (.slice none 0 0)], .agg [.v (.string ⟨#[97, 47, 98]⟩), .v (.int .i64 1), .v (.int .i64 0), .lst 1 1 [.v (.int .u8 7)]]] (.int .i64 (-1)) := sure8.pure 1000000 1000 (by kernel_rfl)
noncomputable def t109 : List (List DV × Value) := [([.agg [.v (.string ⟨#[97]⟩), .v (.int .i64 2), .v (.int .i64 0), .v (.slice none 0 0)], .agg [.v (.string ⟨#[97, 47, 98]⟩), .v (.int .i64 1), .v (.int .i64 0), .lst 1 1 [.v (.int .u8 7)]]], .int .i64 (-1))]
theorem e109 : Ents Tryz.prog 3 109 t109 := .cons p109_0 rfl <| .nil
noncomputable def env9 : Env := env8.memo (tab1 109 t109)
theorem sure9 : Sure env9 Tryz.prog := sure8.memo e109

/-- tributary/shown.Check -/
theorem p15_0 : PureE Tryz.prog 3 15 [.v (.slice none 0 0)] (.int .i64 0) := sure9.pure 1000000 1000 (by kernel_rfl)
/-- tributary/shown.Check -/
theorem p15_1 : PureE Tryz.prog 3 15 [.lst 5 1 [.v (.string ⟨#[97]⟩), .v (.int .i64 2), .v (.int .i64 0), .v (.slice none 0 0), .lst 3 1 [.v (.int .i64 3), .v (.int .i64 1), .v (.int .i64 1)]]] (.int .i64 0) := sure9.pure 1000000 1000 (by kernel_rfl)
/-- tributary/shown.Check -/
theorem p15_2 : PureE Tryz.prog 3 15 [.lst 5 2 [.v (.string ⟨#[97]⟩), .v (.int .i64 2), .v (.int .i64 0), .v (.slice none 0 0), .lst 3 1 [.v (.int .i64 3), .v (.int .i64 1), .v (.int .i64 1)], .v (.string ⟨#[97, 47, 98]⟩), .v (.int .i64 1), .v (.int .i64 0), .lst 1 1 [.v (.int .u8 7)], .lst 3 1 [.v (.int .i64 3), .v (.int .i64 1), .v (.int .i64 2)]]] (.int .i64 0) := sure9.pure 1000000 1000 (by kernel_rfl)
/-- tributary/shown.Check -/
theorem p15_3 : PureE Tryz.prog 3 15 [.lst 5 1 [.v (.string ⟨#[97, 47, 98]⟩), .v (.int .i64 1), .v (.int .i64 0), .lst 1 1 [.v (.int .u8 7)], .lst 3 1 [.v (.int .i64 3), .v (.int .i64 1), .v (.int .i64 1)]]] (.int .i64 2) := sure9.pure 1000000 1000 (by kernel_rfl)
noncomputable def t15 : List (List DV × Value) := [([.v (.slice none 0 0)], .int .i64 0),
  ([.lst 5 1 [.v (.string ⟨#[97]⟩), .v (.int .i64 2), .v (.int .i64 0), .v (.slice none 0 0), .lst 3 1 [.v (.int .i64 3), .v (.int .i64 1), .v (.int .i64 1)]]], .int .i64 0),
  ([.lst 5 2 [.v (.string ⟨#[97]⟩), .v (.int .i64 2), .v (.int .i64 0), .v (.slice none 0 0), .lst 3 1 [.v (.int .i64 3), .v (.int .i64 1), .v (.int .i64 1)], .v (.string ⟨#[97, 47, 98]⟩), .v (.int .i64 1), .v (.int .i64 0), .lst 1 1 [.v (.int .u8 7)], .lst 3 1 [.v (.int .i64 3), .v (.int .i64 1), .v (.int .i64 2)]]], .int .i64 0),
  ([.lst 5 1 [.v (.string ⟨#[97, 47, 98]⟩), .v (.int .i64 1), .v (.int .i64 0), .lst 1 1 [.v (.int .u8 7)], .lst 3 1 [.v (.int .i64 3), .v (.int .i64 1), .v (.int .i64 1)]]], .int .i64 2)]
theorem e15 : Ents Tryz.prog 3 15 t15 := .cons p15_0 rfl <| .cons p15_1 rfl <| .cons p15_2 rfl <| .cons p15_3 rfl <| .nil
noncomputable def env10 : Env := env9.memo (tab1 15 t15)
theorem sure10 : Sure env10 Tryz.prog := sure9.memo e15

/-- tributary/path.Sort -/
theorem p18_0 : PureA Tryz.prog 3 18 [.lst 1 2 [.v (.string ⟨#[97]⟩), .v (.string ⟨#[97, 47, 98]⟩)]] (.sl 1 2 [.string ⟨#[97]⟩, .string ⟨#[97, 47, 98]⟩]) := sure10.ans 1000000 1000 (by kernel_rfl)
noncomputable def t18 : List (List DV × Ans) := [([.lst 1 2 [.v (.string ⟨#[97]⟩), .v (.string ⟨#[97, 47, 98]⟩)]], .sl 1 2 [.string ⟨#[97]⟩, .string ⟨#[97, 47, 98]⟩])]
theorem e18 : EntsA Tryz.prog 3 18 t18 := .cons p18_0 <| .nil
noncomputable def env11 : Env := env10.memoA 18 t18
theorem sure11 : Sure env11 Tryz.prog := sure10.memoA e18

/-- tributary/effect.Same -/
theorem p24_0 : PureE Tryz.prog 3 24 [.agg [.v (.int .i64 1), .v (.int .i64 0), .lst 1 1 [.v (.int .u8 7)]], .agg [.v (.int .i64 3), .v (.int .i64 0), .v (.slice none 0 0)]] (.bool false) := sure11.pure 1000000 1000 (by kernel_rfl)
/-- tributary/effect.Same -/
theorem p24_1 : PureE Tryz.prog 3 24 [.agg [.v (.int .i64 2), .v (.int .i64 0), .v (.slice none 0 0)], .agg [.v (.int .i64 3), .v (.int .i64 0), .v (.slice none 0 0)]] (.bool false) := sure11.pure 1000000 1000 (by kernel_rfl)
/-- tributary/effect.Same -/
theorem p24_2 : PureE Tryz.prog 3 24 [.agg [.v (.int .i64 3), .v (.int .i64 0), .v (.slice none 0 0)], .agg [.v (.int .i64 1), .v (.int .i64 0), .lst 1 1 [.v (.int .u8 7)]]] (.bool false) := sure11.pure 1000000 1000 (by kernel_rfl)
/-- tributary/effect.Same -/
theorem p24_3 : PureE Tryz.prog 3 24 [.agg [.v (.int .i64 3), .v (.int .i64 0), .v (.slice none 0 0)], .agg [.v (.int .i64 2), .v (.int .i64 0), .v (.slice none 0 0)]] (.bool false) := sure11.pure 1000000 1000 (by kernel_rfl)
noncomputable def t24 : List (List DV × Value) := [([.agg [.v (.int .i64 1), .v (.int .i64 0), .lst 1 1 [.v (.int .u8 7)]], .agg [.v (.int .i64 3), .v (.int .i64 0), .v (.slice none 0 0)]], .bool false),
  ([.agg [.v (.int .i64 2), .v (.int .i64 0), .v (.slice none 0 0)], .agg [.v (.int .i64 3), .v (.int .i64 0), .v (.slice none 0 0)]], .bool false),
  ([.agg [.v (.int .i64 3), .v (.int .i64 0), .v (.slice none 0 0)], .agg [.v (.int .i64 1), .v (.int .i64 0), .lst 1 1 [.v (.int .u8 7)]]], .bool false),
  ([.agg [.v (.int .i64 3), .v (.int .i64 0), .v (.slice none 0 0)], .agg [.v (.int .i64 2), .v (.int .i64 0), .v (.slice none 0 0)]], .bool false)]
theorem e24 : Ents Tryz.prog 3 24 t24 := .cons p24_0 rfl <| .cons p24_1 rfl <| .cons p24_2 rfl <| .cons p24_3 rfl <| .nil
noncomputable def env12 : Env := env11.memo (tab1 24 t24)
theorem sure12 : Sure env12 Tryz.prog := sure11.memo e24

/-- tributary/dot.Check -/
theorem p60_0 : PureE Tryz.prog 3 60 [.agg [.v (.int .i64 3), .v (.int .i64 1)]] (.int .i64 0) := sure12.pure 1000000 1000 (by kernel_rfl)
/-- tributary/dot.Check -/
theorem p60_1 : PureE Tryz.prog 3 60 [.agg [.v (.int .i64 3), .v (.int .i64 2)]] (.int .i64 0) := sure12.pure 1000000 1000 (by kernel_rfl)
noncomputable def t60 : List (List DV × Value) := [([.agg [.v (.int .i64 3), .v (.int .i64 1)]], .int .i64 0),
  ([.agg [.v (.int .i64 3), .v (.int .i64 2)]], .int .i64 0)]
theorem e60 : Ents Tryz.prog 3 60 t60 := .cons p60_0 rfl <| .cons p60_1 rfl <| .nil
noncomputable def env13 : Env := env12.memo (tab1 60 t60)
theorem sure13 : Sure env13 Tryz.prog := sure12.memo e60

/-- tributary/past.Check -/
theorem p80_0 : PureE Tryz.prog 3 80 [.v (.slice none 0 0)] (.int .i64 0) := sure13.pure 1000000 1000 (by kernel_rfl)
/-- tributary/past.Check -/
theorem p80_1 : PureE Tryz.prog 3 80 [.lst 3 1 [.v (.int .i64 3), .v (.int .i64 1), .v (.int .i64 1)]] (.int .i64 0) := sure13.pure 1000000 1000 (by kernel_rfl)
/-- tributary/past.Check -/
theorem p80_2 : PureE Tryz.prog 3 80 [.lst 3 1 [.v (.int .i64 3), .v (.int .i64 2), .v (.int .i64 2)]] (.int .i64 0) := sure13.pure 1000000 1000 (by kernel_rfl)
/-- tributary/past.Check -/
theorem p80_3 : PureE Tryz.prog 3 80 [.lst 3 1 [.v (.int .i64 3), .v (.int .i64 1), .v (.int .i64 2)]] (.int .i64 0) := sure13.pure 1000000 1000 (by kernel_rfl)
noncomputable def t80 : List (List DV × Value) := [([.v (.slice none 0 0)], .int .i64 0),
  ([.lst 3 1 [.v (.int .i64 3), .v (.int .i64 1), .v (.int .i64 1)]], .int .i64 0),
  ([.lst 3 1 [.v (.int .i64 3), .v (.int .i64 2), .v (.int .i64 2)]], .int .i64 0),
  ([.lst 3 1 [.v (.int .i64 3), .v (.int .i64 1), .v (.int .i64 2)]], .int .i64 0)]
theorem e80 : Ents Tryz.prog 3 80 t80 := .cons p80_0 rfl <| .cons p80_1 rfl <| .cons p80_2 rfl <| .cons p80_3 rfl <| .nil
noncomputable def env14 : Env := env13.memo (tab1 80 t80)
theorem sure14 : Sure env14 Tryz.prog := sure13.memo e80

/-- tributary/event.Check -/
theorem p65_0 : PureE Tryz.prog 3 65 [.agg [.v (.int .i64 3), .v (.int .i64 1), .v (.string ⟨#[97]⟩), .v (.int .i64 2), .v (.int .i64 0), .v (.slice none 0 0), .v (.slice none 0 0)]] (.int .i64 0) := sure14.pure 1000000 1000 (by kernel_rfl)
/-- tributary/event.Check -/
theorem p65_1 : PureE Tryz.prog 3 65 [.agg [.v (.int .i64 3), .v (.int .i64 2), .v (.string ⟨#[97, 47, 98]⟩), .v (.int .i64 1), .v (.int .i64 0), .lst 1 1 [.v (.int .u8 7)], .lst 3 1 [.v (.int .i64 3), .v (.int .i64 1), .v (.int .i64 1)]]] (.int .i64 0) := sure14.pure 1000000 1000 (by kernel_rfl)
/-- tributary/event.Check -/
theorem p65_2 : PureE Tryz.prog 3 65 [.agg [.v (.int .i64 3), .v (.int .i64 1), .v (.string ⟨#[97, 47, 98]⟩), .v (.int .i64 1), .v (.int .i64 0), .lst 1 1 [.v (.int .u8 7)], .v (.slice none 0 0)]] (.int .i64 0) := sure14.pure 1000000 1000 (by kernel_rfl)
noncomputable def t65 : List (List DV × Value) := [([.agg [.v (.int .i64 3), .v (.int .i64 1), .v (.string ⟨#[97]⟩), .v (.int .i64 2), .v (.int .i64 0), .v (.slice none 0 0), .v (.slice none 0 0)]], .int .i64 0),
  ([.agg [.v (.int .i64 3), .v (.int .i64 2), .v (.string ⟨#[97, 47, 98]⟩), .v (.int .i64 1), .v (.int .i64 0), .lst 1 1 [.v (.int .u8 7)], .lst 3 1 [.v (.int .i64 3), .v (.int .i64 1), .v (.int .i64 1)]]], .int .i64 0),
  ([.agg [.v (.int .i64 3), .v (.int .i64 1), .v (.string ⟨#[97, 47, 98]⟩), .v (.int .i64 1), .v (.int .i64 0), .lst 1 1 [.v (.int .u8 7)], .v (.slice none 0 0)]], .int .i64 0)]
theorem e65 : Ents Tryz.prog 3 65 t65 := .cons p65_0 rfl <| .cons p65_1 rfl <| .cons p65_2 rfl <| .nil
noncomputable def env15 : Env := env14.memo (tab1 65 t65)
theorem sure15 : Sure env15 Tryz.prog := sure14.memo e65

/-- tributary/past.Join -/
theorem p96_0 : PureA Tryz.prog 3 96 [.v (.slice none 0 0), .lst 3 1 [.v (.int .i64 3), .v (.int .i64 1), .v (.int .i64 1)]] (.ts 3 1 [.int .i64 3, .int .i64 1, .int .i64 1] [.int .i64 0]) := sure15.ans 1000000 1000 (by kernel_rfl)
/-- tributary/past.Join -/
theorem p96_1 : PureA Tryz.prog 3 96 [.lst 3 1 [.v (.int .i64 3), .v (.int .i64 1), .v (.int .i64 1)], .lst 3 1 [.v (.int .i64 3), .v (.int .i64 2), .v (.int .i64 2)]] (.ts 3 1 [.int .i64 3, .int .i64 1, .int .i64 2] [.int .i64 0]) := sure15.ans 1000000 1000 (by kernel_rfl)
noncomputable def t96 : List (List DV × Ans) := [([.v (.slice none 0 0), .lst 3 1 [.v (.int .i64 3), .v (.int .i64 1), .v (.int .i64 1)]], .ts 3 1 [.int .i64 3, .int .i64 1, .int .i64 1] [.int .i64 0]),
  ([.lst 3 1 [.v (.int .i64 3), .v (.int .i64 1), .v (.int .i64 1)], .lst 3 1 [.v (.int .i64 3), .v (.int .i64 2), .v (.int .i64 2)]], .ts 3 1 [.int .i64 3, .int .i64 1, .int .i64 2] [.int .i64 0])]
theorem e96 : EntsA Tryz.prog 3 96 t96 := .cons p96_0 <| .cons p96_1 <| .nil
noncomputable def env16 : Env := env15.memoA 96 t96
theorem sure16 : Sure env16 Tryz.prog := sure15.memoA e96

/-- tributary/past.Add -/
theorem p66_0 : PureA Tryz.prog 3 66 [.v (.slice none 0 0), .agg [.v (.int .i64 3), .v (.int .i64 1)]] (.ts 3 1 [.int .i64 3, .int .i64 1, .int .i64 1] [.int .i64 0]) := sure16.ans 1000000 1000 (by kernel_rfl)
/-- tributary/past.Add -/
theorem p66_1 : PureA Tryz.prog 3 66 [.lst 3 1 [.v (.int .i64 3), .v (.int .i64 1), .v (.int .i64 1)], .agg [.v (.int .i64 3), .v (.int .i64 2)]] (.ts 3 1 [.int .i64 3, .int .i64 1, .int .i64 2] [.int .i64 0]) := sure16.ans 1000000 1000 (by kernel_rfl)
noncomputable def t66 : List (List DV × Ans) := [([.v (.slice none 0 0), .agg [.v (.int .i64 3), .v (.int .i64 1)]], .ts 3 1 [.int .i64 3, .int .i64 1, .int .i64 1] [.int .i64 0]),
  ([.lst 3 1 [.v (.int .i64 3), .v (.int .i64 1), .v (.int .i64 1)], .agg [.v (.int .i64 3), .v (.int .i64 2)]], .ts 3 1 [.int .i64 3, .int .i64 1, .int .i64 2] [.int .i64 0])]
theorem e66 : EntsA Tryz.prog 3 66 t66 := .cons p66_0 <| .cons p66_1 <| .nil
noncomputable def env17 : Env := env16.memoA 66 t66
theorem sure17 : Sure env17 Tryz.prog := sure16.memoA e66

/-- tributary/shown.may -/
theorem p43_0 : PureE Tryz.prog 3 43 [.agg [.v (.string ⟨#[97]⟩), .v (.int .i64 2), .v (.int .i64 0), .v (.slice none 0 0), .lst 3 1 [.v (.int .i64 3), .v (.int .i64 1), .v (.int .i64 1)]]] (.bool true) := sure17.pure 1000000 1000 (by kernel_rfl)
/-- tributary/shown.may -/
theorem p43_1 : PureE Tryz.prog 3 43 [.agg [.v (.string ⟨#[97, 47, 98]⟩), .v (.int .i64 1), .v (.int .i64 0), .lst 1 1 [.v (.int .u8 7)], .lst 3 1 [.v (.int .i64 3), .v (.int .i64 1), .v (.int .i64 2)]]] (.bool true) := sure17.pure 1000000 1000 (by kernel_rfl)
/-- tributary/shown.may -/
theorem p43_2 : PureE Tryz.prog 3 43 [.agg [.v (.string ⟨#[97, 47, 98]⟩), .v (.int .i64 1), .v (.int .i64 0), .lst 1 1 [.v (.int .u8 7)], .lst 3 1 [.v (.int .i64 3), .v (.int .i64 1), .v (.int .i64 1)]]] (.bool true) := sure17.pure 1000000 1000 (by kernel_rfl)
noncomputable def t43 : List (List DV × Value) := [([.agg [.v (.string ⟨#[97]⟩), .v (.int .i64 2), .v (.int .i64 0), .v (.slice none 0 0), .lst 3 1 [.v (.int .i64 3), .v (.int .i64 1), .v (.int .i64 1)]]], .bool true),
  ([.agg [.v (.string ⟨#[97, 47, 98]⟩), .v (.int .i64 1), .v (.int .i64 0), .lst 1 1 [.v (.int .u8 7)], .lst 3 1 [.v (.int .i64 3), .v (.int .i64 1), .v (.int .i64 2)]]], .bool true),
  ([.agg [.v (.string ⟨#[97, 47, 98]⟩), .v (.int .i64 1), .v (.int .i64 0), .lst 1 1 [.v (.int .u8 7)], .lst 3 1 [.v (.int .i64 3), .v (.int .i64 1), .v (.int .i64 1)]]], .bool true)]
theorem e43 : Ents Tryz.prog 3 43 t43 := .cons p43_0 rfl <| .cons p43_1 rfl <| .cons p43_2 rfl <| .nil
noncomputable def env18 : Env := env17.memo (tab1 43 t43)
theorem sure18 : Sure env18 Tryz.prog := sure17.memo e43

theorem ran : isTrue (run env18 1000000 1000 (.call 3 []) (mem0 3)) = true := by kernel_rfl
theorem fn : (env.fn 3).isSome = true := by kernel_rfl
theorem calls (W : World) (hW : 3 ≤ W.heap.size) :
    Calls Tryz.prog 3 #[] W fun e W' => e = .returned (.bool true) ∧ (∀ b, b < W.heap.size → W'.heap[b]? = W.heap[b]?) ∧ W.heap.size ≤ W'.heap.size ∧ W'.os = W.os ∧ W'.tape = W.tape ∧ W'.output = W.output :=
  match Option.isSome_iff_exists.1 fn with
  | ⟨_, hx⟩ => closed_calls' (E := env18) (j := 1000000) (k := 1000) sure18.ok sure18.ext sure18.keep hx (show isTrue (run env18 1000000 1000 (.call 3 []) (mem0 env.ng)) = true from env_ng.symm ▸ ran) (show env.ng ≤ _ from env_ng.symm ▸ hW)
end ScanKnown
end Go.Proofs.YtnhhppflnpfehabGreatDoor
