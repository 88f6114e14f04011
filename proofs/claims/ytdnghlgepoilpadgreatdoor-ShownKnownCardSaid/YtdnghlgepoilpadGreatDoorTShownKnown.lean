/- ShownKnown: answers of calls that come again, and the run that uses them, by the kernel. Of closed terms; no condition. -/
import Derived.Test.YtdnghlgepoilpadGreatDoorEnv
namespace Go.Proofs.YtdnghlgepoilpadGreatDoor
namespace ShownKnown
open Go Go.Am
set_option maxRecDepth 1000000

/-- tributary/shown.Check -/
theorem p15_0 : PureE Tryz.prog 3 15 [.v (.slice none 0 0)] (.int .i64 0) := sure0.pure 1000000 1000 (by kernel_rfl)
/-- tributary/shown.Check -/
theorem p15_1 : PureE Tryz.prog 3 15 [.lst 5 1 [.v (.string ⟨#[100]⟩), .v (.int .i64 2), .v (.int .i64 0), .v (.slice none 0 0), .lst 3 1 [.v (.int .i64 1), .v (.int .i64 1), .v (.int .i64 1)]]] (.int .i64 0) := sure0.pure 1000000 1000 (by kernel_rfl)
/-- tributary/shown.Check -/
theorem p15_2 : PureE Tryz.prog 3 15 [.lst 5 2 [.v (.string ⟨#[100]⟩), .v (.int .i64 2), .v (.int .i64 0), .v (.slice none 0 0), .lst 3 1 [.v (.int .i64 1), .v (.int .i64 1), .v (.int .i64 1)], .v (.string ⟨#[100, 47, 103]⟩), .v (.int .i64 1), .v (.int .i64 0), .v (.slice none 0 0), .lst 3 2 [.v (.int .i64 1), .v (.int .i64 1), .v (.int .i64 1), .v (.int .i64 4), .v (.int .i64 1), .v (.int .i64 1)]]] (.int .i64 0) := sure0.pure 1000000 1000 (by kernel_rfl)
/-- tributary/shown.Check -/
theorem p15_3 : PureE Tryz.prog 3 15 [.lst 5 1 [.v (.string ⟨#[100, 47, 103]⟩), .v (.int .i64 1), .v (.int .i64 0), .v (.slice none 0 0), .lst 3 1 [.v (.int .i64 4), .v (.int .i64 1), .v (.int .i64 1)]]] (.int .i64 2) := sure0.pure 1000000 1000 (by kernel_rfl)
/-- tributary/shown.Check -/
theorem p15_4 : PureE Tryz.prog 3 15 [.lst 5 1 [.v (.string ⟨#[100]⟩), .v (.int .i64 1), .v (.int .i64 0), .v (.slice none 0 0), .lst 3 2 [.v (.int .i64 1), .v (.int .i64 1), .v (.int .i64 1), .v (.int .i64 4), .v (.int .i64 1), .v (.int .i64 1)]]] (.int .i64 0) := sure0.pure 1000000 1000 (by kernel_rfl)
/-- tributary/shown.Check -/
theorem p15_5 : PureE Tryz.prog 3 15 [.lst 5 1 [.v (.string ⟨#[100, 47, 103]⟩), .v (.int .i64 1), .v (.int .i64 0), .v (.slice none 0 0), .lst 3 1 [.v (.int .i64 1), .v (.int .i64 1), .v (.int .i64 1)]]] (.int .i64 2) := sure0.pure 1000000 1000 (by kernel_rfl)
noncomputable def t15 : List (List DV × Value) := [([.v (.slice none 0 0)], .int .i64 0),
  ([.lst 5 1 [.v (.string ⟨#[100]⟩), .v (.int .i64 2), .v (.int .i64 0), .v (.slice none 0 0), .lst 3 1 [.v (.int .i64 1), .v (.int .i64 1), .v (.int .i64 1)]]], .int .i64 0),
  ([.lst 5 2 [.v (.string ⟨#[100]⟩), .v (.int .i64 2), .v (.int .i64 0), .v (.slice none 0 0), .lst 3 1 [.v (.int .i64 1), .v (.int .i64 1), .v (.int .i64 1)], .v (.string ⟨#[100, 47, 103]⟩), .v (.int .i64 1), .v (.int .i64 0), .v (.slice none 0 0), .lst 3 2 [.v (.int .i64 1), .v (.int .i64 1), .v (.int .i64 1), .v (.int .i64 4), .v (.int .i64 1), .v (.int .i64 1)]]], .int .i64 0),
  ([.lst 5 1 [.v (.string ⟨#[100, 47, 103]⟩), .v (.int .i64 1), .v (.int .i64 0), .v (.slice none 0 0), .lst 3 1 [.v (.int .i64 4), .v (.int .i64 1), .v (.int .i64 1)]]], .int .i64 2),
  ([.lst 5 1 [.v (.string ⟨#[100]⟩), .v (.int .i64 1), .v (.int .i64 0), .v (.slice none 0 0), .lst 3 2 [.v (.int .i64 1), .v (.int .i64 1), .v (.int .i64 1), .v (.int .i64 4), .v (.int .i64 1), .v (.int .i64 1)]]], .int .i64 0),
  ([.lst 5 1 [.v (.string ⟨#[100, 47, 103]⟩), .v (.int .i64 1), .v (.int .i64 0), .v (.slice none 0 0), .lst 3 1 [.v (.int .i64 1), .v (.int .i64 1), .v (.int .i64 1)]]], .int .i64 2)]
theorem e15 : Ents Tryz.prog 3 15 t15 := .cons p15_0 rfl <| .cons p15_1 rfl <| .cons p15_2 rfl <| .cons p15_3 rfl <| .cons p15_4 rfl <| .cons p15_5 rfl <| .nil
noncomputable def env1 : Env := env.memo (tab1 15 t15)
theorem sure1 : Sure env1 Tryz.prog := sure0.memo e15

/-- tributary/dot.Check -/
theorem p26_0 : PureE Tryz.prog 3 26 [.agg [.v (.int .i64 2), .v (.int .i64 1)]] (.int .i64 0) := sure1.pure 1000000 1000 (by kernel_rfl)
/-- tributary/dot.Check -/
theorem p26_1 : PureE Tryz.prog 3 26 [.agg [.v (.int .i64 3), .v (.int .i64 1)]] (.int .i64 0) := sure1.pure 1000000 1000 (by kernel_rfl)
/-- tributary/dot.Check -/
theorem p26_2 : PureE Tryz.prog 3 26 [.agg [.v (.int .i64 4), .v (.int .i64 1)]] (.int .i64 0) := sure1.pure 1000000 1000 (by kernel_rfl)
/-- tributary/dot.Check -/
theorem p26_3 : PureE Tryz.prog 3 26 [.agg [.v (.int .i64 1), .v (.int .i64 1)]] (.int .i64 0) := sure1.pure 1000000 1000 (by kernel_rfl)
noncomputable def t26 : List (List DV × Value) := [([.agg [.v (.int .i64 2), .v (.int .i64 1)]], .int .i64 0),
  ([.agg [.v (.int .i64 3), .v (.int .i64 1)]], .int .i64 0),
  ([.agg [.v (.int .i64 4), .v (.int .i64 1)]], .int .i64 0),
  ([.agg [.v (.int .i64 1), .v (.int .i64 1)]], .int .i64 0)]
theorem e26 : Ents Tryz.prog 3 26 t26 := .cons p26_0 rfl <| .cons p26_1 rfl <| .cons p26_2 rfl <| .cons p26_3 rfl <| .nil
noncomputable def env2 : Env := env1.memo (tab1 26 t26)
theorem sure2 : Sure env2 Tryz.prog := sure1.memo e26

/-- tributary/path.part -/
theorem p63_0 : PureE Tryz.prog 3 63 [.v (.string ⟨#[100]⟩)] (.bool true) := sure2.pure 1000000 1000 (by kernel_rfl)
/-- tributary/path.part -/
theorem p63_1 : PureE Tryz.prog 3 63 [.v (.string ⟨#[102]⟩)] (.bool true) := sure2.pure 1000000 1000 (by kernel_rfl)
/-- tributary/path.part -/
theorem p63_2 : PureE Tryz.prog 3 63 [.v (.string ⟨#[103]⟩)] (.bool true) := sure2.pure 1000000 1000 (by kernel_rfl)
/-- tributary/path.part -/
theorem p63_3 : PureE Tryz.prog 3 63 [.v (.string ⟨#[120]⟩)] (.bool true) := sure2.pure 1000000 1000 (by kernel_rfl)
/-- tributary/path.part -/
theorem p63_4 : PureE Tryz.prog 3 63 [.v (.string ⟨#[121]⟩)] (.bool true) := sure2.pure 1000000 1000 (by kernel_rfl)
/-- tributary/path.part -/
theorem p63_5 : PureE Tryz.prog 3 63 [.v (.string ⟨#[101]⟩)] (.bool true) := sure2.pure 1000000 1000 (by kernel_rfl)
noncomputable def t63 : List (List DV × Value) := [([.v (.string ⟨#[100]⟩)], .bool true),
  ([.v (.string ⟨#[102]⟩)], .bool true),
  ([.v (.string ⟨#[103]⟩)], .bool true),
  ([.v (.string ⟨#[120]⟩)], .bool true),
  ([.v (.string ⟨#[121]⟩)], .bool true),
  ([.v (.string ⟨#[101]⟩)], .bool true)]
theorem e63 : Ents Tryz.prog 3 63 t63 := .cons p63_0 rfl <| .cons p63_1 rfl <| .cons p63_2 rfl <| .cons p63_3 rfl <| .cons p63_4 rfl <| .cons p63_5 rfl <| .nil
noncomputable def env3 : Env := env2.memo (tab1 63 t63)
theorem sure3 : Sure env3 Tryz.prog := sure2.memo e63

/-- tributary/path.Check -/
theorem p27_0 : PureE Tryz.prog 3 27 [.v (.string ⟨#[100, 47, 102]⟩)] (.int .i64 0) := sure3.pure 1000000 1000 (by kernel_rfl)
/-- tributary/path.Check -/
theorem p27_1 : PureE Tryz.prog 3 27 [.v (.string ⟨#[100]⟩)] (.int .i64 0) := sure3.pure 1000000 1000 (by kernel_rfl)
/-- tributary/path.Check -/
theorem p27_2 : PureE Tryz.prog 3 27 [.v (.string ⟨#[100, 47, 103]⟩)] (.int .i64 0) := sure3.pure 1000000 1000 (by kernel_rfl)
/-- tributary/path.Check -/
theorem p27_3 : PureE Tryz.prog 3 27 [.v (.string ⟨#[100, 47, 120, 47, 121]⟩)] (.int .i64 0) := sure3.pure 1000000 1000 (by kernel_rfl)
/-- tributary/path.Check -/
theorem p27_4 : PureE Tryz.prog 3 27 [.v (.string ⟨#[101]⟩)] (.int .i64 0) := sure3.pure 1000000 1000 (by kernel_rfl)
noncomputable def t27 : List (List DV × Value) := [([.v (.string ⟨#[100, 47, 102]⟩)], .int .i64 0),
  ([.v (.string ⟨#[100]⟩)], .int .i64 0),
  ([.v (.string ⟨#[100, 47, 103]⟩)], .int .i64 0),
  ([.v (.string ⟨#[100, 47, 120, 47, 121]⟩)], .int .i64 0),
  ([.v (.string ⟨#[101]⟩)], .int .i64 0)]
theorem e27 : Ents Tryz.prog 3 27 t27 := .cons p27_0 rfl <| .cons p27_1 rfl <| .cons p27_2 rfl <| .cons p27_3 rfl <| .cons p27_4 rfl <| .nil
noncomputable def env4 : Env := env3.memo (tab1 27 t27)
theorem sure4 : Sure env4 Tryz.prog := sure3.memo e27

/-- tributary/effect.Check -/
theorem p28_0 : PureE Tryz.prog 3 28 [.agg [.v (.int .i64 1), .v (.int .i64 0), .v (.slice none 0 0)]] (.int .i64 0) := sure4.pure 1000000 1000 (by kernel_rfl)
/-- tributary/effect.Check -/
theorem p28_1 : PureE Tryz.prog 3 28 [.agg [.v (.int .i64 3), .v (.int .i64 0), .v (.slice none 0 0)]] (.int .i64 0) := sure4.pure 1000000 1000 (by kernel_rfl)
/-- tributary/effect.Check -/
theorem p28_2 : PureE Tryz.prog 3 28 [.agg [.v (.int .i64 2), .v (.int .i64 0), .v (.slice none 0 0)]] (.int .i64 0) := sure4.pure 1000000 1000 (by kernel_rfl)
noncomputable def t28 : List (List DV × Value) := [([.agg [.v (.int .i64 1), .v (.int .i64 0), .v (.slice none 0 0)]], .int .i64 0),
  ([.agg [.v (.int .i64 3), .v (.int .i64 0), .v (.slice none 0 0)]], .int .i64 0),
  ([.agg [.v (.int .i64 2), .v (.int .i64 0), .v (.slice none 0 0)]], .int .i64 0)]
theorem e28 : Ents Tryz.prog 3 28 t28 := .cons p28_0 rfl <| .cons p28_1 rfl <| .cons p28_2 rfl <| .nil
noncomputable def env5 : Env := env4.memo (tab1 28 t28)
theorem sure5 : Sure env5 Tryz.prog := sure4.memo e28

/-- tributary/past.Check -/
theorem p65_0 : PureE Tryz.prog 3 65 [.lst 3 1 [.v (.int .i64 1), .v (.int .i64 1), .v (.int .i64 1)]] (.int .i64 0) := sure5.pure 1000000 1000 (by kernel_rfl)
/-- tributary/past.Check -/
theorem p65_1 : PureE Tryz.prog 3 65 [.v (.slice none 0 0)] (.int .i64 0) := sure5.pure 1000000 1000 (by kernel_rfl)
/-- tributary/past.Check -/
theorem p65_2 : PureE Tryz.prog 3 65 [.lst 3 1 [.v (.int .i64 2), .v (.int .i64 1), .v (.int .i64 1)]] (.int .i64 0) := sure5.pure 1000000 1000 (by kernel_rfl)
/-- tributary/past.Check -/
theorem p65_3 : PureE Tryz.prog 3 65 [.lst 3 1 [.v (.int .i64 4), .v (.int .i64 1), .v (.int .i64 1)]] (.int .i64 0) := sure5.pure 1000000 1000 (by kernel_rfl)
/-- tributary/past.Check -/
theorem p65_4 : PureE Tryz.prog 3 65 [.lst 3 2 [.v (.int .i64 1), .v (.int .i64 1), .v (.int .i64 1), .v (.int .i64 4), .v (.int .i64 1), .v (.int .i64 1)]] (.int .i64 0) := sure5.pure 1000000 1000 (by kernel_rfl)
/-- tributary/past.Check -/
theorem p65_5 : PureE Tryz.prog 3 65 [.lst 3 2 [.v (.int .i64 1), .v (.int .i64 1), .v (.int .i64 1), .v (.int .i64 2), .v (.int .i64 1), .v (.int .i64 1)]] (.int .i64 0) := sure5.pure 1000000 1000 (by kernel_rfl)
noncomputable def t65 : List (List DV × Value) := [([.lst 3 1 [.v (.int .i64 1), .v (.int .i64 1), .v (.int .i64 1)]], .int .i64 0),
  ([.v (.slice none 0 0)], .int .i64 0),
  ([.lst 3 1 [.v (.int .i64 2), .v (.int .i64 1), .v (.int .i64 1)]], .int .i64 0),
  ([.lst 3 1 [.v (.int .i64 4), .v (.int .i64 1), .v (.int .i64 1)]], .int .i64 0),
  ([.lst 3 2 [.v (.int .i64 1), .v (.int .i64 1), .v (.int .i64 1), .v (.int .i64 4), .v (.int .i64 1), .v (.int .i64 1)]], .int .i64 0),
  ([.lst 3 2 [.v (.int .i64 1), .v (.int .i64 1), .v (.int .i64 1), .v (.int .i64 2), .v (.int .i64 1), .v (.int .i64 1)]], .int .i64 0)]
theorem e65 : Ents Tryz.prog 3 65 t65 := .cons p65_0 rfl <| .cons p65_1 rfl <| .cons p65_2 rfl <| .cons p65_3 rfl <| .cons p65_4 rfl <| .cons p65_5 rfl <| .nil
noncomputable def env6 : Env := env5.memo (tab1 65 t65)
theorem sure6 : Sure env6 Tryz.prog := sure5.memo e65

/-- tributary/event.Check -/
theorem p18_0 : PureE Tryz.prog 3 18 [.agg [.v (.int .i64 2), .v (.int .i64 1), .v (.string ⟨#[100, 47, 102]⟩), .v (.int .i64 1), .v (.int .i64 0), .v (.slice none 0 0), .lst 3 1 [.v (.int .i64 1), .v (.int .i64 1), .v (.int .i64 1)]]] (.int .i64 0) := sure6.pure 1000000 1000 (by kernel_rfl)
/-- tributary/event.Check -/
theorem p18_1 : PureE Tryz.prog 3 18 [.agg [.v (.int .i64 3), .v (.int .i64 1), .v (.string ⟨#[100]⟩), .v (.int .i64 3), .v (.int .i64 0), .v (.slice none 0 0), .lst 3 1 [.v (.int .i64 1), .v (.int .i64 1), .v (.int .i64 1)]]] (.int .i64 0) := sure6.pure 1000000 1000 (by kernel_rfl)
/-- tributary/event.Check -/
theorem p18_2 : PureE Tryz.prog 3 18 [.agg [.v (.int .i64 4), .v (.int .i64 1), .v (.string ⟨#[100, 47, 103]⟩), .v (.int .i64 1), .v (.int .i64 0), .v (.slice none 0 0), .lst 3 1 [.v (.int .i64 1), .v (.int .i64 1), .v (.int .i64 1)]]] (.int .i64 0) := sure6.pure 1000000 1000 (by kernel_rfl)
/-- tributary/event.Check -/
theorem p18_3 : PureE Tryz.prog 3 18 [.agg [.v (.int .i64 4), .v (.int .i64 1), .v (.string ⟨#[100, 47, 103]⟩), .v (.int .i64 1), .v (.int .i64 0), .v (.slice none 0 0), .v (.slice none 0 0)]] (.int .i64 0) := sure6.pure 1000000 1000 (by kernel_rfl)
/-- tributary/event.Check -/
theorem p18_4 : PureE Tryz.prog 3 18 [.agg [.v (.int .i64 4), .v (.int .i64 1), .v (.string ⟨#[100]⟩), .v (.int .i64 1), .v (.int .i64 0), .v (.slice none 0 0), .lst 3 1 [.v (.int .i64 1), .v (.int .i64 1), .v (.int .i64 1)]]] (.int .i64 0) := sure6.pure 1000000 1000 (by kernel_rfl)
/-- tributary/event.Check -/
theorem p18_5 : PureE Tryz.prog 3 18 [.agg [.v (.int .i64 1), .v (.int .i64 1), .v (.string ⟨#[100]⟩), .v (.int .i64 2), .v (.int .i64 0), .v (.slice none 0 0), .v (.slice none 0 0)]] (.int .i64 0) := sure6.pure 1000000 1000 (by kernel_rfl)
noncomputable def t18 : List (List DV × Value) := [([.agg [.v (.int .i64 2), .v (.int .i64 1), .v (.string ⟨#[100, 47, 102]⟩), .v (.int .i64 1), .v (.int .i64 0), .v (.slice none 0 0), .lst 3 1 [.v (.int .i64 1), .v (.int .i64 1), .v (.int .i64 1)]]], .int .i64 0),
  ([.agg [.v (.int .i64 3), .v (.int .i64 1), .v (.string ⟨#[100]⟩), .v (.int .i64 3), .v (.int .i64 0), .v (.slice none 0 0), .lst 3 1 [.v (.int .i64 1), .v (.int .i64 1), .v (.int .i64 1)]]], .int .i64 0),
  ([.agg [.v (.int .i64 4), .v (.int .i64 1), .v (.string ⟨#[100, 47, 103]⟩), .v (.int .i64 1), .v (.int .i64 0), .v (.slice none 0 0), .lst 3 1 [.v (.int .i64 1), .v (.int .i64 1), .v (.int .i64 1)]]], .int .i64 0),
  ([.agg [.v (.int .i64 4), .v (.int .i64 1), .v (.string ⟨#[100, 47, 103]⟩), .v (.int .i64 1), .v (.int .i64 0), .v (.slice none 0 0), .v (.slice none 0 0)]], .int .i64 0),
  ([.agg [.v (.int .i64 4), .v (.int .i64 1), .v (.string ⟨#[100]⟩), .v (.int .i64 1), .v (.int .i64 0), .v (.slice none 0 0), .lst 3 1 [.v (.int .i64 1), .v (.int .i64 1), .v (.int .i64 1)]]], .int .i64 0),
  ([.agg [.v (.int .i64 1), .v (.int .i64 1), .v (.string ⟨#[100]⟩), .v (.int .i64 2), .v (.int .i64 0), .v (.slice none 0 0), .v (.slice none 0 0)]], .int .i64 0)]
theorem e18 : Ents Tryz.prog 3 18 t18 := .cons p18_0 rfl <| .cons p18_1 rfl <| .cons p18_2 rfl <| .cons p18_3 rfl <| .cons p18_4 rfl <| .cons p18_5 rfl <| .nil
noncomputable def env7 : Env := env6.memo (tab1 18 t18)
theorem sure7 : Sure env7 Tryz.prog := sure6.memo e18

/-- tributary/shown.Next$1 -/
theorem p17_0 : PureE Tryz.prog 3 17 [.agg [.v (.int .i64 2), .v (.int .i64 1), .v (.string ⟨#[100, 47, 102]⟩), .v (.int .i64 1), .v (.int .i64 0), .v (.slice none 0 0), .lst 3 1 [.v (.int .i64 1), .v (.int .i64 1), .v (.int .i64 1)]]] (.bool false) := sure7.pure 1000000 1000 (by kernel_rfl)
/-- tributary/shown.Next$1 -/
theorem p17_1 : PureE Tryz.prog 3 17 [.agg [.v (.int .i64 3), .v (.int .i64 1), .v (.string ⟨#[100]⟩), .v (.int .i64 3), .v (.int .i64 0), .v (.slice none 0 0), .lst 3 1 [.v (.int .i64 1), .v (.int .i64 1), .v (.int .i64 1)]]] (.bool false) := sure7.pure 1000000 1000 (by kernel_rfl)
/-- tributary/shown.Next$1 -/
theorem p17_2 : PureE Tryz.prog 3 17 [.agg [.v (.int .i64 1), .v (.int .i64 1), .v (.string ⟨#[100]⟩), .v (.int .i64 2), .v (.int .i64 0), .v (.slice none 0 0), .v (.slice none 0 0)]] (.bool false) := sure7.pure 1000000 1000 (by kernel_rfl)
noncomputable def t17 : List (List DV × Value) := [([.agg [.v (.int .i64 2), .v (.int .i64 1), .v (.string ⟨#[100, 47, 102]⟩), .v (.int .i64 1), .v (.int .i64 0), .v (.slice none 0 0), .lst 3 1 [.v (.int .i64 1), .v (.int .i64 1), .v (.int .i64 1)]]], .bool false),
  ([.agg [.v (.int .i64 3), .v (.int .i64 1), .v (.string ⟨#[100]⟩), .v (.int .i64 3), .v (.int .i64 0), .v (.slice none 0 0), .lst 3 1 [.v (.int .i64 1), .v (.int .i64 1), .v (.int .i64 1)]]], .bool false),
  ([.agg [.v (.int .i64 1), .v (.int .i64 1), .v (.string ⟨#[100]⟩), .v (.int .i64 2), .v (.int .i64 0), .v (.slice none 0 0), .v (.slice none 0 0)]], .bool false)]
theorem e17 : Ents Tryz.prog 3 17 t17 := .cons p17_0 rfl <| .cons p17_1 rfl <| .cons p17_2 rfl <| .nil
noncomputable def env8 : Env := env7.memo (tab1 17 t17)
theorem sure8 : Sure env8 Tryz.prog := sure7.memo e17

/-- math/bits.Len -/
theorem p104_0 : PureE Tryz.prog 3 104 [.v (.int .u64 1)] (.int .i64 1) := sure8.pure 1000000 1000 (by kernel_rfl)
/-- math/bits.Len -/
theorem p104_1 : PureE Tryz.prog 3 104 [.v (.int .u64 0)] (.int .i64 0) := sure8.pure 1000000 1000 (by kernel_rfl)
/-- math/bits.Len -/
theorem p104_2 : PureE Tryz.prog 3 104 [.v (.int .u64 2)] (.int .i64 2) := sure8.pure 1000000 1000 (by kernel_rfl)
noncomputable def t104 : List (List DV × Value) := [([.v (.int .u64 1)], .int .i64 1),
  ([.v (.int .u64 0)], .int .i64 0),
  ([.v (.int .u64 2)], .int .i64 2)]
theorem e104 : Ents Tryz.prog 3 104 t104 := .cons p104_0 rfl <| .cons p104_1 rfl <| .cons p104_2 rfl <| .nil
noncomputable def env9 : Env := env8.memo (tab1 104 t104)
theorem sure9 : Sure env9 Tryz.prog := sure8.memo e104

/-- tributary/shelf.Check -/
theorem p55_0 : PureE Tryz.prog 3 55 [.lst 7 1 [.v (.int .i64 2), .v (.int .i64 1), .v (.string ⟨#[100, 47, 102]⟩), .v (.int .i64 1), .v (.int .i64 0), .v (.slice none 0 0), .lst 3 1 [.v (.int .i64 1), .v (.int .i64 1), .v (.int .i64 1)]]] (.int .i64 0) := sure9.pure 1000000 1000 (by kernel_rfl)
/-- tributary/shelf.Check -/
theorem p55_1 : PureE Tryz.prog 3 55 [.lst 7 1 [.v (.int .i64 3), .v (.int .i64 1), .v (.string ⟨#[100]⟩), .v (.int .i64 3), .v (.int .i64 0), .v (.slice none 0 0), .lst 3 1 [.v (.int .i64 1), .v (.int .i64 1), .v (.int .i64 1)]]] (.int .i64 0) := sure9.pure 1000000 1000 (by kernel_rfl)
/-- tributary/shelf.Check -/
theorem p55_2 : PureE Tryz.prog 3 55 [.lst 7 1 [.v (.int .i64 1), .v (.int .i64 1), .v (.string ⟨#[100]⟩), .v (.int .i64 2), .v (.int .i64 0), .v (.slice none 0 0), .v (.slice none 0 0)]] (.int .i64 0) := sure9.pure 1000000 1000 (by kernel_rfl)
noncomputable def t55 : List (List DV × Value) := [([.lst 7 1 [.v (.int .i64 2), .v (.int .i64 1), .v (.string ⟨#[100, 47, 102]⟩), .v (.int .i64 1), .v (.int .i64 0), .v (.slice none 0 0), .lst 3 1 [.v (.int .i64 1), .v (.int .i64 1), .v (.int .i64 1)]]], .int .i64 0),
  ([.lst 7 1 [.v (.int .i64 3), .v (.int .i64 1), .v (.string ⟨#[100]⟩), .v (.int .i64 3), .v (.int .i64 0), .v (.slice none 0 0), .lst 3 1 [.v (.int .i64 1), .v (.int .i64 1), .v (.int .i64 1)]]], .int .i64 0),
  ([.lst 7 1 [.v (.int .i64 1), .v (.int .i64 1), .v (.string ⟨#[100]⟩), .v (.int .i64 2), .v (.int .i64 0), .v (.slice none 0 0), .v (.slice none 0 0)]], .int .i64 0)]
theorem e55 : Ents Tryz.prog 3 55 t55 := .cons p55_0 rfl <| .cons p55_1 rfl <| .cons p55_2 rfl <| .nil
noncomputable def env10 : Env := env9.memo (tab1 55 t55)
theorem sure10 : Sure env10 Tryz.prog := sure9.memo e55

/-- tributary/shelf.Alike -/
theorem p77_0 : PureE Tryz.prog 3 77 [.lst 7 1 [.v (.int .i64 2), .v (.int .i64 1), .v (.string ⟨#[100, 47, 102]⟩), .v (.int .i64 1), .v (.int .i64 0), .v (.slice none 0 0), .lst 3 1 [.v (.int .i64 1), .v (.int .i64 1), .v (.int .i64 1)]]] (.bool true) := sure10.pure 1000000 1000 (by kernel_rfl)
/-- tributary/shelf.Alike -/
theorem p77_1 : PureE Tryz.prog 3 77 [.lst 7 1 [.v (.int .i64 3), .v (.int .i64 1), .v (.string ⟨#[100]⟩), .v (.int .i64 3), .v (.int .i64 0), .v (.slice none 0 0), .lst 3 1 [.v (.int .i64 1), .v (.int .i64 1), .v (.int .i64 1)]]] (.bool true) := sure10.pure 1000000 1000 (by kernel_rfl)
/-- tributary/shelf.Alike -/
theorem p77_2 : PureE Tryz.prog 3 77 [.lst 7 1 [.v (.int .i64 1), .v (.int .i64 1), .v (.string ⟨#[100]⟩), .v (.int .i64 2), .v (.int .i64 0), .v (.slice none 0 0), .v (.slice none 0 0)]] (.bool true) := sure10.pure 1000000 1000 (by kernel_rfl)
noncomputable def t77 : List (List DV × Value) := [([.lst 7 1 [.v (.int .i64 2), .v (.int .i64 1), .v (.string ⟨#[100, 47, 102]⟩), .v (.int .i64 1), .v (.int .i64 0), .v (.slice none 0 0), .lst 3 1 [.v (.int .i64 1), .v (.int .i64 1), .v (.int .i64 1)]]], .bool true),
  ([.lst 7 1 [.v (.int .i64 3), .v (.int .i64 1), .v (.string ⟨#[100]⟩), .v (.int .i64 3), .v (.int .i64 0), .v (.slice none 0 0), .lst 3 1 [.v (.int .i64 1), .v (.int .i64 1), .v (.int .i64 1)]]], .bool true),
  ([.lst 7 1 [.v (.int .i64 1), .v (.int .i64 1), .v (.string ⟨#[100]⟩), .v (.int .i64 2), .v (.int .i64 0), .v (.slice none 0 0), .v (.slice none 0 0)]], .bool true)]
theorem e77 : Ents Tryz.prog 3 77 t77 := .cons p77_0 rfl <| .cons p77_1 rfl <| .cons p77_2 rfl <| .nil
noncomputable def env11 : Env := env10.memo (tab1 77 t77)
theorem sure11 : Sure env11 Tryz.prog := sure10.memo e77

/-- tributary/clash.Clash -/
theorem p110_0 : PureE Tryz.prog 3 110 [.agg [.v (.int .i64 2), .v (.int .i64 1), .v (.string ⟨#[100, 47, 102]⟩), .v (.int .i64 1), .v (.int .i64 0), .v (.slice none 0 0), .lst 3 1 [.v (.int .i64 1), .v (.int .i64 1), .v (.int .i64 1)]], .agg [.v (.int .i64 2), .v (.int .i64 1), .v (.string ⟨#[100, 47, 102]⟩), .v (.int .i64 1), .v (.int .i64 0), .v (.slice none 0 0), .lst 3 1 [.v (.int .i64 1), .v (.int .i64 1), .v (.int .i64 1)]]] (.bool false) := sure11.pure 1000000 1000 (by kernel_rfl)
/-- tributary/clash.Clash -/
theorem p110_1 : PureE Tryz.prog 3 110 [.agg [.v (.int .i64 2), .v (.int .i64 1), .v (.string ⟨#[100, 47, 102]⟩), .v (.int .i64 1), .v (.int .i64 0), .v (.slice none 0 0), .lst 3 1 [.v (.int .i64 1), .v (.int .i64 1), .v (.int .i64 1)]], .agg [.v (.int .i64 3), .v (.int .i64 1), .v (.string ⟨#[100]⟩), .v (.int .i64 3), .v (.int .i64 0), .v (.slice none 0 0), .lst 3 1 [.v (.int .i64 1), .v (.int .i64 1), .v (.int .i64 1)]]] (.bool true) := sure11.pure 1000000 1000 (by kernel_rfl)
/-- tributary/clash.Clash -/
theorem p110_2 : PureE Tryz.prog 3 110 [.agg [.v (.int .i64 3), .v (.int .i64 1), .v (.string ⟨#[100]⟩), .v (.int .i64 3), .v (.int .i64 0), .v (.slice none 0 0), .lst 3 1 [.v (.int .i64 1), .v (.int .i64 1), .v (.int .i64 1)]], .agg [.v (.int .i64 3), .v (.int .i64 1), .v (.string ⟨#[100]⟩), .v (.int .i64 3), .v (.int .i64 0), .v (.slice none 0 0), .lst 3 1 [.v (.int .i64 1), .v (.int .i64 1), .v (.int .i64 1)]]] (.bool false) := sure11.pure 1000000 1000 (by kernel_rfl)
/-- tributary/clash.Clash -/
theorem p110_3 : PureE Tryz.prog 3 110 [.agg [.v (.int .i64 3), .v (.int .i64 1), .v (.string ⟨#[100]⟩), .v (.int .i64 3), .v (.int .i64 0), .v (.slice none 0 0), .lst 3 1 [.v (.int .i64 1), .v (.int .i64 1), .v (.int .i64 1)]], .agg [.v (.int .i64 2), .v (.int .i64 1), .v (.string ⟨#[100, 47, 102]⟩), .v (.int .i64 1), .v (.int .i64 0), .v (.slice none 0 0), .lst 3 1 [.v (.int .i64 1), .v (.int .i64 1), .v (.int .i64 1)]]] (.bool true) := sure11.pure 1000000 1000 (by kernel_rfl)
/-- tributary/clash.Clash -/
theorem p110_4 : PureE Tryz.prog 3 110 [.agg [.v (.int .i64 1), .v (.int .i64 1), .v (.string ⟨#[100]⟩), .v (.int .i64 2), .v (.int .i64 0), .v (.slice none 0 0), .v (.slice none 0 0)], .agg [.v (.int .i64 1), .v (.int .i64 1), .v (.string ⟨#[100]⟩), .v (.int .i64 2), .v (.int .i64 0), .v (.slice none 0 0), .v (.slice none 0 0)]] (.bool false) := sure11.pure 1000000 1000 (by kernel_rfl)
/-- tributary/clash.Clash -/
theorem p110_5 : PureE Tryz.prog 3 110 [.agg [.v (.int .i64 2), .v (.int .i64 1), .v (.string ⟨#[100, 47, 102]⟩), .v (.int .i64 1), .v (.int .i64 0), .v (.slice none 0 0), .lst 3 1 [.v (.int .i64 1), .v (.int .i64 1), .v (.int .i64 1)]], .agg [.v (.int .i64 1), .v (.int .i64 1), .v (.string ⟨#[100]⟩), .v (.int .i64 2), .v (.int .i64 0), .v (.slice none 0 0), .v (.slice none 0 0)]] (.bool false) := sure11.pure 1000000 1000 (by kernel_rfl)
/-- tributary/clash.Clash -/
theorem p110_6 : PureE Tryz.prog 3 110 [.agg [.v (.int .i64 1), .v (.int .i64 1), .v (.string ⟨#[100]⟩), .v (.int .i64 2), .v (.int .i64 0), .v (.slice none 0 0), .v (.slice none 0 0)], .agg [.v (.int .i64 2), .v (.int .i64 1), .v (.string ⟨#[100, 47, 102]⟩), .v (.int .i64 1), .v (.int .i64 0), .v (.slice none 0 0), .lst 3 1 [.v (.int .i64 1), .v (.int .i64 1), .v (.int .i64 1)]]] (.bool false) := sure11.pure 1000000 1000 (by kernel_rfl)
noncomputable def t110 : List (List DV × Value) := [([.agg [.v (.int .i64 2), .v (.int .i64 1), .v (.string ⟨#[100, 47, 102]⟩), .v (.int .i64 1), .v (.int .i64 0), .v (.slice none 0 0), .lst 3 1 [.v (.int .i64 1), .v (.int .i64 1), .v (.int .i64 1)]], .agg [.v (.int .i64 2), .v (.int .i64 1), .v (.string ⟨#[100, 47, 102]⟩), .v (.int .i64 1), .v (.int .i64 0), .v (.slice none 0 0), .lst 3 1 [.v (.int .i64 1), .v (.int .i64 1), .v (.int .i64 1)]]], .bool false),
  ([.agg [.v (.int .i64 2), .v (.int .i64 1), .v (.string ⟨#[100, 47, 102]⟩), .v (.int .i64 1), .v (.int .i64 0), .v (.slice none 0 0), .lst 3 1 [.v (.int .i64 1), .v (.int .i64 1), .v (.int .i64 1)]], .agg [.v (.int .i64 3), .v (.int .i64 1), .v (.string ⟨#[100]⟩), .v (.int .i64 3), .v (.int .i64 0), .v (.slice none 0 0), .lst 3 1 [.v (.int .i64 1), .v (.int .i64 1), .v (.int .i64 1)]]], .bool true),
  ([.agg [.v (.int .i64 3), .v (.int .i64 1), .v (.string ⟨#[100]⟩), .v (.int .i64 3), .v (.int .i64 0), .v (.slice none 0 0), .lst 3 1 [.v (.int .i64 1), .v (.int .i64 1), .v (.int .i64 1)]], .agg [.v (.int .i64 3), .v (.int .i64 1), .v (.string ⟨#[100]⟩), .v (.int .i64 3), .v (.int .i64 0), .v (.slice none 0 0), .lst 3 1 [.v (.int .i64 1), .v (.int .i64 1), .v (.int .i64 1)]]], .bool false),
  ([.agg [.v (.int .i64 3), .v (.int .i64 1), .v (.string ⟨#[100]⟩), .v (.int .i64 3), .v (.int .i64 0), .v (.slice none 0 0), .lst 3 1 [.v (.int .i64 1), .v (.int .i64 1), .v (.int .i64 1)]], .agg [.v (.int .i64 2), .v (.int .i64 1), .v (.string ⟨#[100, 47, 102]⟩), .v (.int .i64 1), .v (.int .i64 0), .v (.slice none 0 0), .lst 3 1 [.v (.int .i64 1), .v (.int .i64 1), .v (.int .i64 1)]]], .bool true),
  ([.agg [.v (.int .i64 1), .v (.int .i64 1), .v (.string ⟨#[100]⟩), .v (.int .i64 2), .v (.int .i64 0), .v (.slice none 0 0), .v (.slice none 0 0)], .agg [.v (.int .i64 1), .v (.int .i64 1), .v (.string ⟨#[100]⟩), .v (.int .i64 2), .v (.int .i64 0), .v (.slice none 0 0), .v (.slice none 0 0)]], .bool false),
  ([.agg [.v (.int .i64 2), .v (.int .i64 1), .v (.string ⟨#[100, 47, 102]⟩), .v (.int .i64 1), .v (.int .i64 0), .v (.slice none 0 0), .lst 3 1 [.v (.int .i64 1), .v (.int .i64 1), .v (.int .i64 1)]], .agg [.v (.int .i64 1), .v (.int .i64 1), .v (.string ⟨#[100]⟩), .v (.int .i64 2), .v (.int .i64 0), .v (.slice none 0 0), .v (.slice none 0 0)]], .bool false),
  ([.agg [.v (.int .i64 1), .v (.int .i64 1), .v (.string ⟨#[100]⟩), .v (.int .i64 2), .v (.int .i64 0), .v (.slice none 0 0), .v (.slice none 0 0)], .agg [.v (.int .i64 2), .v (.int .i64 1), .v (.string ⟨#[100, 47, 102]⟩), .v (.int .i64 1), .v (.int .i64 0), .v (.slice none 0 0), .lst 3 1 [.v (.int .i64 1), .v (.int .i64 1), .v (.int .i64 1)]]], .bool false)]
theorem e110 : Ents Tryz.prog 3 110 t110 := .cons p110_0 rfl <| .cons p110_1 rfl <| .cons p110_2 rfl <| .cons p110_3 rfl <| .cons p110_4 rfl <| .cons p110_5 rfl <| .cons p110_6 rfl <| .nil
noncomputable def env12 : Env := env11.memo (tab1 110 t110)
theorem sure12 : Sure env12 Tryz.prog := sure11.memo e110

/-- tributary/path.order -/
theorem p66_0 : PureE Tryz.prog 3 66 [.v (.string ⟨#[100]⟩), .v (.string ⟨#[100, 47, 102]⟩)] (.int .i64 (-1)) := sure12.pure 1000000 1000 (by kernel_rfl)
/-- tributary/path.order -/
theorem p66_1 : PureE Tryz.prog 3 66 [.v (.string ⟨#[100]⟩), .v (.string ⟨#[100, 47, 103]⟩)] (.int .i64 (-1)) := sure12.pure 1000000 1000 (by kernel_rfl)
/-- tributary/path.order -/
theorem p66_2 : PureE Tryz.prog 3 66 [.v (.string ⟨#[100, 47, 102]⟩), .v (.string ⟨#[100]⟩)] (.int .i64 1) := sure12.pure 1000000 1000 (by kernel_rfl)
noncomputable def t66 : List (List DV × Value) := [([.v (.string ⟨#[100]⟩), .v (.string ⟨#[100, 47, 102]⟩)], .int .i64 (-1)),
  ([.v (.string ⟨#[100]⟩), .v (.string ⟨#[100, 47, 103]⟩)], .int .i64 (-1)),
  ([.v (.string ⟨#[100, 47, 102]⟩), .v (.string ⟨#[100]⟩)], .int .i64 1)]
theorem e66 : Ents Tryz.prog 3 66 t66 := .cons p66_0 rfl <| .cons p66_1 rfl <| .cons p66_2 rfl <| .nil
noncomputable def env13 : Env := env12.memo (tab1 66 t66)
theorem sure13 : Sure env13 Tryz.prog := sure12.memo e66

/-- tributary/shown.may -/
theorem p31_0 : PureE Tryz.prog 3 31 [.agg [.v (.string ⟨#[100]⟩), .v (.int .i64 2), .v (.int .i64 0), .v (.slice none 0 0), .lst 3 1 [.v (.int .i64 1), .v (.int .i64 1), .v (.int .i64 1)]]] (.bool true) := sure13.pure 1000000 1000 (by kernel_rfl)
/-- tributary/shown.may -/
theorem p31_1 : PureE Tryz.prog 3 31 [.agg [.v (.string ⟨#[100, 47, 103]⟩), .v (.int .i64 1), .v (.int .i64 0), .v (.slice none 0 0), .lst 3 2 [.v (.int .i64 1), .v (.int .i64 1), .v (.int .i64 1), .v (.int .i64 4), .v (.int .i64 1), .v (.int .i64 1)]]] (.bool true) := sure13.pure 1000000 1000 (by kernel_rfl)
/-- tributary/shown.may -/
theorem p31_2 : PureE Tryz.prog 3 31 [.agg [.v (.string ⟨#[100, 47, 103]⟩), .v (.int .i64 1), .v (.int .i64 0), .v (.slice none 0 0), .lst 3 1 [.v (.int .i64 4), .v (.int .i64 1), .v (.int .i64 1)]]] (.bool true) := sure13.pure 1000000 1000 (by kernel_rfl)
/-- tributary/shown.may -/
theorem p31_3 : PureE Tryz.prog 3 31 [.agg [.v (.string ⟨#[100]⟩), .v (.int .i64 1), .v (.int .i64 0), .v (.slice none 0 0), .lst 3 2 [.v (.int .i64 1), .v (.int .i64 1), .v (.int .i64 1), .v (.int .i64 4), .v (.int .i64 1), .v (.int .i64 1)]]] (.bool true) := sure13.pure 1000000 1000 (by kernel_rfl)
/-- tributary/shown.may -/
theorem p31_4 : PureE Tryz.prog 3 31 [.agg [.v (.string ⟨#[100, 47, 103]⟩), .v (.int .i64 1), .v (.int .i64 0), .v (.slice none 0 0), .lst 3 1 [.v (.int .i64 1), .v (.int .i64 1), .v (.int .i64 1)]]] (.bool true) := sure13.pure 1000000 1000 (by kernel_rfl)
noncomputable def t31 : List (List DV × Value) := [([.agg [.v (.string ⟨#[100]⟩), .v (.int .i64 2), .v (.int .i64 0), .v (.slice none 0 0), .lst 3 1 [.v (.int .i64 1), .v (.int .i64 1), .v (.int .i64 1)]]], .bool true),
  ([.agg [.v (.string ⟨#[100, 47, 103]⟩), .v (.int .i64 1), .v (.int .i64 0), .v (.slice none 0 0), .lst 3 2 [.v (.int .i64 1), .v (.int .i64 1), .v (.int .i64 1), .v (.int .i64 4), .v (.int .i64 1), .v (.int .i64 1)]]], .bool true),
  ([.agg [.v (.string ⟨#[100, 47, 103]⟩), .v (.int .i64 1), .v (.int .i64 0), .v (.slice none 0 0), .lst 3 1 [.v (.int .i64 4), .v (.int .i64 1), .v (.int .i64 1)]]], .bool true),
  ([.agg [.v (.string ⟨#[100]⟩), .v (.int .i64 1), .v (.int .i64 0), .v (.slice none 0 0), .lst 3 2 [.v (.int .i64 1), .v (.int .i64 1), .v (.int .i64 1), .v (.int .i64 4), .v (.int .i64 1), .v (.int .i64 1)]]], .bool true),
  ([.agg [.v (.string ⟨#[100, 47, 103]⟩), .v (.int .i64 1), .v (.int .i64 0), .v (.slice none 0 0), .lst 3 1 [.v (.int .i64 1), .v (.int .i64 1), .v (.int .i64 1)]]], .bool true)]
theorem e31 : Ents Tryz.prog 3 31 t31 := .cons p31_0 rfl <| .cons p31_1 rfl <| .cons p31_2 rfl <| .cons p31_3 rfl <| .cons p31_4 rfl <| .nil
noncomputable def env14 : Env := env13.memo (tab1 31 t31)
theorem sure14 : Sure env14 Tryz.prog := sure13.memo e31

/-- tributary/path.Less -/
theorem p32_0 : PureE Tryz.prog 3 32 [.v (.string ⟨#[100]⟩), .v (.string ⟨#[100, 47, 103]⟩)] (.bool true) := sure14.pure 1000000 1000 (by kernel_rfl)
noncomputable def t32 : List (List DV × Value) := [([.v (.string ⟨#[100]⟩), .v (.string ⟨#[100, 47, 103]⟩)], .bool true)]
theorem e32 : Ents Tryz.prog 3 32 t32 := .cons p32_0 rfl <| .nil
noncomputable def env15 : Env := env14.memo (tab1 32 t32)
theorem sure15 : Sure env15 Tryz.prog := sure14.memo e32

theorem ran : isTrue (run env15 1000000 1000 (.call 3 []) (mem0 3)) = true := by kernel_rfl
theorem fn : (env.fn 3).isSome = true := by kernel_rfl
theorem calls (W : World) (hW : 3 ≤ W.heap.size) :
    Calls Tryz.prog 3 #[] W fun e W' => e = .returned (.bool true) ∧ (∀ b, b < W.heap.size → W'.heap[b]? = W.heap[b]?) ∧ W.heap.size ≤ W'.heap.size ∧ W'.os = W.os ∧ W'.tape = W.tape ∧ W'.output = W.output :=
  match Option.isSome_iff_exists.1 fn with
  | ⟨_, hx⟩ => closed_calls' (E := env15) (j := 1000000) (k := 1000) sure15.ok sure15.ext sure15.keep hx (show isTrue (run env15 1000000 1000 (.call 3 []) (mem0 env.ng)) = true from env_ng.symm ▸ ran) (show env.ng ≤ _ from env_ng.symm ▸ hW)
end ShownKnown
end Go.Proofs.YtdnghlgepoilpadGreatDoor
