/- TableKnown: answers of calls that come again, and the run that uses them, by the kernel. Of closed terms; no condition. -/
import Derived.Test.YtdnghlgepoilpabGreatDoorEnvB
namespace Go.Proofs.YtdnghlgepoilpabGreatDoor
namespace TableKnown
open Go Go.Am
set_option maxRecDepth 1000000

/-- strings.Index -/
theorem p80_0 : PureE Tryz.prog 3 80 [.v (.string ⟨#[97]⟩), .v (.string ⟨#[47]⟩)] (.int .i64 (-1)) := sureB.pure 1000000 1000 (by kernel_rfl)
/-- strings.Index -/
theorem p80_1 : PureE Tryz.prog 3 80 [.v (.string ⟨#[97, 47, 98]⟩), .v (.string ⟨#[47]⟩)] (.int .i64 1) := sureB.pure 1000000 1000 (by kernel_rfl)
/-- strings.Index -/
theorem p80_2 : PureE Tryz.prog 3 80 [.v (.string ⟨#[98]⟩), .v (.string ⟨#[47]⟩)] (.int .i64 (-1)) := sureB.pure 1000000 1000 (by kernel_rfl)
/-- strings.Index -/
theorem p80_3 : PureE Tryz.prog 3 80 [.v (.string ⟨#[99]⟩), .v (.string ⟨#[47]⟩)] (.int .i64 (-1)) := sureB.pure 1000000 1000 (by kernel_rfl)
/-- strings.Index -/
theorem p80_4 : PureE Tryz.prog 3 80 [.v (.string ⟨#[99, 47, 100]⟩), .v (.string ⟨#[47]⟩)] (.int .i64 1) := sureB.pure 1000000 1000 (by kernel_rfl)
/-- strings.Index -/
theorem p80_5 : PureE Tryz.prog 3 80 [.v (.string ⟨#[100]⟩), .v (.string ⟨#[47]⟩)] (.int .i64 (-1)) := sureB.pure 1000000 1000 (by kernel_rfl)
/-- strings.Index -/
theorem p80_6 : PureE Tryz.prog 3 80 [.v (.string ⟨#[120, 47, 121]⟩), .v (.string ⟨#[47]⟩)] (.int .i64 1) := sureB.pure 1000000 1000 (by kernel_rfl)
/-- strings.Index -/
theorem p80_7 : PureE Tryz.prog 3 80 [.v (.string ⟨#[121]⟩), .v (.string ⟨#[47]⟩)] (.int .i64 (-1)) := sureB.pure 1000000 1000 (by kernel_rfl)
/-- strings.Index -/
theorem p80_8 : PureE Tryz.prog 3 80 [.v (.string ⟨#[120]⟩), .v (.string ⟨#[47]⟩)] (.int .i64 (-1)) := sureB.pure 1000000 1000 (by kernel_rfl)
/-- strings.Index -/
theorem p80_9 : PureE Tryz.prog 3 80 [.v (.string ⟨#[97, 47, 100]⟩), .v (.string ⟨#[47]⟩)] (.int .i64 1) := sureB.pure 1000000 1000 (by kernel_rfl)
/-- strings.Index -/
theorem p80_10 : PureE Tryz.prog 3 80 [.v (.string ⟨#[101]⟩), .v (.string ⟨#[47]⟩)] (.int .i64 (-1)) := sureB.pure 1000000 1000 (by kernel_rfl)
/-- strings.Index -/
theorem p80_11 : PureE Tryz.prog 3 80 [.v (.string ⟨#[101, 47, 98]⟩), .v (.string ⟨#[47]⟩)] (.int .i64 1) := sureB.pure 1000000 1000 (by kernel_rfl)
noncomputable def t80 : List (List DV × Value) := [([.v (.string ⟨#[97]⟩), .v (.string ⟨#[47]⟩)], .int .i64 (-1)),
  ([.v (.string ⟨#[97, 47, 98]⟩), .v (.string ⟨#[47]⟩)], .int .i64 1),
  ([.v (.string ⟨#[98]⟩), .v (.string ⟨#[47]⟩)], .int .i64 (-1)),
  ([.v (.string ⟨#[99]⟩), .v (.string ⟨#[47]⟩)], .int .i64 (-1)),
  ([.v (.string ⟨#[99, 47, 100]⟩), .v (.string ⟨#[47]⟩)], .int .i64 1),
  ([.v (.string ⟨#[100]⟩), .v (.string ⟨#[47]⟩)], .int .i64 (-1)),
  ([.v (.string ⟨#[120, 47, 121]⟩), .v (.string ⟨#[47]⟩)], .int .i64 1),
  ([.v (.string ⟨#[121]⟩), .v (.string ⟨#[47]⟩)], .int .i64 (-1)),
  ([.v (.string ⟨#[120]⟩), .v (.string ⟨#[47]⟩)], .int .i64 (-1)),
  ([.v (.string ⟨#[97, 47, 100]⟩), .v (.string ⟨#[47]⟩)], .int .i64 1),
  ([.v (.string ⟨#[101]⟩), .v (.string ⟨#[47]⟩)], .int .i64 (-1)),
  ([.v (.string ⟨#[101, 47, 98]⟩), .v (.string ⟨#[47]⟩)], .int .i64 1)]
theorem e80 : Ents Tryz.prog 3 80 t80 := .cons p80_0 rfl <| .cons p80_1 rfl <| .cons p80_2 rfl <| .cons p80_3 rfl <| .cons p80_4 rfl <| .cons p80_5 rfl <| .cons p80_6 rfl <| .cons p80_7 rfl <| .cons p80_8 rfl <| .cons p80_9 rfl <| .cons p80_10 rfl <| .cons p80_11 rfl <| .nil
noncomputable def env1 : Env := envB.memo (tab1 80 t80)
theorem sure1 : Sure env1 Tryz.prog := sureB.memo e80

/-- tributary/path.part -/
theorem p35_0 : PureE Tryz.prog 3 35 [.v (.string ⟨#[97]⟩)] (.bool true) := sure1.pure 1000000 1000 (by kernel_rfl)
/-- tributary/path.part -/
theorem p35_1 : PureE Tryz.prog 3 35 [.v (.string ⟨#[98]⟩)] (.bool true) := sure1.pure 1000000 1000 (by kernel_rfl)
/-- tributary/path.part -/
theorem p35_2 : PureE Tryz.prog 3 35 [.v (.string ⟨#[99]⟩)] (.bool true) := sure1.pure 1000000 1000 (by kernel_rfl)
/-- tributary/path.part -/
theorem p35_3 : PureE Tryz.prog 3 35 [.v (.string ⟨#[100]⟩)] (.bool true) := sure1.pure 1000000 1000 (by kernel_rfl)
/-- tributary/path.part -/
theorem p35_4 : PureE Tryz.prog 3 35 [.v (.string ⟨#[120]⟩)] (.bool true) := sure1.pure 1000000 1000 (by kernel_rfl)
/-- tributary/path.part -/
theorem p35_5 : PureE Tryz.prog 3 35 [.v (.string ⟨#[121]⟩)] (.bool true) := sure1.pure 1000000 1000 (by kernel_rfl)
/-- tributary/path.part -/
theorem p35_6 : PureE Tryz.prog 3 35 [.v (.string ⟨#[101]⟩)] (.bool true) := sure1.pure 1000000 1000 (by kernel_rfl)
noncomputable def t35 : List (List DV × Value) := [([.v (.string ⟨#[97]⟩)], .bool true),
  ([.v (.string ⟨#[98]⟩)], .bool true),
  ([.v (.string ⟨#[99]⟩)], .bool true),
  ([.v (.string ⟨#[100]⟩)], .bool true),
  ([.v (.string ⟨#[120]⟩)], .bool true),
  ([.v (.string ⟨#[121]⟩)], .bool true),
  ([.v (.string ⟨#[101]⟩)], .bool true)]
theorem e35 : Ents Tryz.prog 3 35 t35 := .cons p35_0 rfl <| .cons p35_1 rfl <| .cons p35_2 rfl <| .cons p35_3 rfl <| .cons p35_4 rfl <| .cons p35_5 rfl <| .cons p35_6 rfl <| .nil
noncomputable def env2 : Env := env1.memo (tab1 35 t35)
theorem sure2 : Sure env2 Tryz.prog := sure1.memo e35

/-- tributary/path.Check -/
theorem p14_0 : PureE Tryz.prog 3 14 [.v (.string ⟨#[97]⟩)] (.int .i64 0) := sure2.pure 1000000 1000 (by kernel_rfl)
/-- tributary/path.Check -/
theorem p14_1 : PureE Tryz.prog 3 14 [.v (.string ⟨#[97, 47, 98]⟩)] (.int .i64 0) := sure2.pure 1000000 1000 (by kernel_rfl)
/-- tributary/path.Check -/
theorem p14_2 : PureE Tryz.prog 3 14 [.v (.string ⟨#[99]⟩)] (.int .i64 0) := sure2.pure 1000000 1000 (by kernel_rfl)
/-- tributary/path.Check -/
theorem p14_3 : PureE Tryz.prog 3 14 [.v (.string ⟨#[99, 47, 100]⟩)] (.int .i64 0) := sure2.pure 1000000 1000 (by kernel_rfl)
/-- tributary/path.Check -/
theorem p14_4 : PureE Tryz.prog 3 14 [.v (.string ⟨#[120, 47, 121]⟩)] (.int .i64 0) := sure2.pure 1000000 1000 (by kernel_rfl)
/-- tributary/path.Check -/
theorem p14_5 : PureE Tryz.prog 3 14 [.v (.string ⟨#[120]⟩)] (.int .i64 0) := sure2.pure 1000000 1000 (by kernel_rfl)
/-- tributary/path.Check -/
theorem p14_6 : PureE Tryz.prog 3 14 [.v (.string ⟨#[97, 47, 100]⟩)] (.int .i64 0) := sure2.pure 1000000 1000 (by kernel_rfl)
/-- tributary/path.Check -/
theorem p14_7 : PureE Tryz.prog 3 14 [.v (.string ⟨#[101]⟩)] (.int .i64 0) := sure2.pure 1000000 1000 (by kernel_rfl)
/-- tributary/path.Check -/
theorem p14_8 : PureE Tryz.prog 3 14 [.v (.string ⟨#[101, 47, 98]⟩)] (.int .i64 0) := sure2.pure 1000000 1000 (by kernel_rfl)
noncomputable def t14 : List (List DV × Value) := [([.v (.string ⟨#[97]⟩)], .int .i64 0),
  ([.v (.string ⟨#[97, 47, 98]⟩)], .int .i64 0),
  ([.v (.string ⟨#[99]⟩)], .int .i64 0),
  ([.v (.string ⟨#[99, 47, 100]⟩)], .int .i64 0),
  ([.v (.string ⟨#[120, 47, 121]⟩)], .int .i64 0),
  ([.v (.string ⟨#[120]⟩)], .int .i64 0),
  ([.v (.string ⟨#[97, 47, 100]⟩)], .int .i64 0),
  ([.v (.string ⟨#[101]⟩)], .int .i64 0),
  ([.v (.string ⟨#[101, 47, 98]⟩)], .int .i64 0)]
theorem e14 : Ents Tryz.prog 3 14 t14 := .cons p14_0 rfl <| .cons p14_1 rfl <| .cons p14_2 rfl <| .cons p14_3 rfl <| .cons p14_4 rfl <| .cons p14_5 rfl <| .cons p14_6 rfl <| .cons p14_7 rfl <| .cons p14_8 rfl <| .nil
noncomputable def env3 : Env := env2.memo (tab1 14 t14)
theorem sure3 : Sure env3 Tryz.prog := sure2.memo e14

/-- tributary/effect.Check -/
theorem p15_0 : PureE Tryz.prog 3 15 [.agg [.v (.int .i64 2), .v (.int .i64 0), .v (.slice none 0 0)]] (.int .i64 0) := sure3.pure 1000000 1000 (by kernel_rfl)
/-- tributary/effect.Check -/
theorem p15_1 : PureE Tryz.prog 3 15 [.agg [.v (.int .i64 1), .v (.int .i64 0), .lst 1 1 [.v (.int .u8 7)]]] (.int .i64 0) := sure3.pure 1000000 1000 (by kernel_rfl)
/-- tributary/effect.Check -/
theorem p15_2 : PureE Tryz.prog 3 15 [.agg [.v (.int .i64 1), .v (.int .i64 0), .lst 1 1 [.v (.int .u8 8)]]] (.int .i64 0) := sure3.pure 1000000 1000 (by kernel_rfl)
/-- tributary/effect.Check -/
theorem p15_3 : PureE Tryz.prog 3 15 [.agg [.v (.int .i64 1), .v (.int .i64 0), .lst 1 1 [.v (.int .u8 1)]]] (.int .i64 0) := sure3.pure 1000000 1000 (by kernel_rfl)
/-- tributary/effect.Check -/
theorem p15_4 : PureE Tryz.prog 3 15 [.agg [.v (.int .i64 3), .v (.int .i64 0), .v (.slice none 0 0)]] (.int .i64 0) := sure3.pure 1000000 1000 (by kernel_rfl)
noncomputable def t15 : List (List DV × Value) := [([.agg [.v (.int .i64 2), .v (.int .i64 0), .v (.slice none 0 0)]], .int .i64 0),
  ([.agg [.v (.int .i64 1), .v (.int .i64 0), .lst 1 1 [.v (.int .u8 7)]]], .int .i64 0),
  ([.agg [.v (.int .i64 1), .v (.int .i64 0), .lst 1 1 [.v (.int .u8 8)]]], .int .i64 0),
  ([.agg [.v (.int .i64 1), .v (.int .i64 0), .lst 1 1 [.v (.int .u8 1)]]], .int .i64 0),
  ([.agg [.v (.int .i64 3), .v (.int .i64 0), .v (.slice none 0 0)]], .int .i64 0)]
theorem e15 : Ents Tryz.prog 3 15 t15 := .cons p15_0 rfl <| .cons p15_1 rfl <| .cons p15_2 rfl <| .cons p15_3 rfl <| .cons p15_4 rfl <| .nil
noncomputable def env4 : Env := env3.memo (tab1 15 t15)
theorem sure4 : Sure env4 Tryz.prog := sure3.memo e15

/-- strings.LastIndexByte -/
theorem p90_0 : PureE Tryz.prog 3 90 [.v (.string ⟨#[97]⟩), .v (.int .u8 47)] (.int .i64 (-1)) := sure4.pure 1000000 1000 (by kernel_rfl)
/-- strings.LastIndexByte -/
theorem p90_1 : PureE Tryz.prog 3 90 [.v (.string ⟨#[97, 47, 98]⟩), .v (.int .u8 47)] (.int .i64 1) := sure4.pure 1000000 1000 (by kernel_rfl)
/-- strings.LastIndexByte -/
theorem p90_2 : PureE Tryz.prog 3 90 [.v (.string ⟨#[99]⟩), .v (.int .u8 47)] (.int .i64 (-1)) := sure4.pure 1000000 1000 (by kernel_rfl)
/-- strings.LastIndexByte -/
theorem p90_3 : PureE Tryz.prog 3 90 [.v (.string ⟨#[99, 47, 100]⟩), .v (.int .u8 47)] (.int .i64 1) := sure4.pure 1000000 1000 (by kernel_rfl)
/-- strings.LastIndexByte -/
theorem p90_4 : PureE Tryz.prog 3 90 [.v (.string ⟨#[120, 47, 121]⟩), .v (.int .u8 47)] (.int .i64 1) := sure4.pure 1000000 1000 (by kernel_rfl)
/-- strings.LastIndexByte -/
theorem p90_5 : PureE Tryz.prog 3 90 [.v (.string ⟨#[97, 47, 100]⟩), .v (.int .u8 47)] (.int .i64 1) := sure4.pure 1000000 1000 (by kernel_rfl)
/-- strings.LastIndexByte -/
theorem p90_6 : PureE Tryz.prog 3 90 [.v (.string ⟨#[101]⟩), .v (.int .u8 47)] (.int .i64 (-1)) := sure4.pure 1000000 1000 (by kernel_rfl)
noncomputable def t90 : List (List DV × Value) := [([.v (.string ⟨#[97]⟩), .v (.int .u8 47)], .int .i64 (-1)),
  ([.v (.string ⟨#[97, 47, 98]⟩), .v (.int .u8 47)], .int .i64 1),
  ([.v (.string ⟨#[99]⟩), .v (.int .u8 47)], .int .i64 (-1)),
  ([.v (.string ⟨#[99, 47, 100]⟩), .v (.int .u8 47)], .int .i64 1),
  ([.v (.string ⟨#[120, 47, 121]⟩), .v (.int .u8 47)], .int .i64 1),
  ([.v (.string ⟨#[97, 47, 100]⟩), .v (.int .u8 47)], .int .i64 1),
  ([.v (.string ⟨#[101]⟩), .v (.int .u8 47)], .int .i64 (-1))]
theorem e90 : Ents Tryz.prog 3 90 t90 := .cons p90_0 rfl <| .cons p90_1 rfl <| .cons p90_2 rfl <| .cons p90_3 rfl <| .cons p90_4 rfl <| .cons p90_5 rfl <| .cons p90_6 rfl <| .nil
noncomputable def env5 : Env := env4.memo (tab1 90 t90)
theorem sure5 : Sure env5 Tryz.prog := sure4.memo e90

/-- tributary/table.parented -/
theorem p16_0 : PureE Tryz.prog 3 16 [.lst 4 3 [.v (.string ⟨#[97]⟩), .v (.int .i64 2), .v (.int .i64 0), .v (.slice none 0 0), .v (.string ⟨#[97, 47, 98]⟩), .v (.int .i64 1), .v (.int .i64 0), .lst 1 1 [.v (.int .u8 7)], .v (.string ⟨#[99]⟩), .v (.int .i64 1), .v (.int .i64 0), .lst 1 1 [.v (.int .u8 8)]], .v (.string ⟨#[97]⟩)] (.int .i64 0) := sure5.pure 1000000 1000 (by kernel_rfl)
/-- tributary/table.parented -/
theorem p16_1 : PureE Tryz.prog 3 16 [.lst 4 3 [.v (.string ⟨#[97]⟩), .v (.int .i64 2), .v (.int .i64 0), .v (.slice none 0 0), .v (.string ⟨#[97, 47, 98]⟩), .v (.int .i64 1), .v (.int .i64 0), .lst 1 1 [.v (.int .u8 7)], .v (.string ⟨#[99]⟩), .v (.int .i64 1), .v (.int .i64 0), .lst 1 1 [.v (.int .u8 8)]], .v (.string ⟨#[97, 47, 98]⟩)] (.int .i64 0) := sure5.pure 1000000 1000 (by kernel_rfl)
/-- tributary/table.parented -/
theorem p16_2 : PureE Tryz.prog 3 16 [.lst 4 3 [.v (.string ⟨#[97]⟩), .v (.int .i64 2), .v (.int .i64 0), .v (.slice none 0 0), .v (.string ⟨#[97, 47, 98]⟩), .v (.int .i64 1), .v (.int .i64 0), .lst 1 1 [.v (.int .u8 7)], .v (.string ⟨#[99]⟩), .v (.int .i64 1), .v (.int .i64 0), .lst 1 1 [.v (.int .u8 8)]], .v (.string ⟨#[99]⟩)] (.int .i64 0) := sure5.pure 1000000 1000 (by kernel_rfl)
/-- tributary/table.parented -/
theorem p16_3 : PureE Tryz.prog 3 16 [.lst 4 3 [.v (.string ⟨#[97]⟩), .v (.int .i64 2), .v (.int .i64 0), .v (.slice none 0 0), .v (.string ⟨#[97, 47, 98]⟩), .v (.int .i64 1), .v (.int .i64 0), .lst 1 1 [.v (.int .u8 7)], .v (.string ⟨#[99]⟩), .v (.int .i64 1), .v (.int .i64 0), .lst 1 1 [.v (.int .u8 8)]], .v (.string ⟨#[99, 47, 100]⟩)] (.int .i64 12) := sure5.pure 1000000 1000 (by kernel_rfl)
/-- tributary/table.parented -/
theorem p16_4 : PureE Tryz.prog 3 16 [.lst 4 3 [.v (.string ⟨#[97]⟩), .v (.int .i64 2), .v (.int .i64 0), .v (.slice none 0 0), .v (.string ⟨#[97, 47, 98]⟩), .v (.int .i64 1), .v (.int .i64 0), .lst 1 1 [.v (.int .u8 7)], .v (.string ⟨#[99]⟩), .v (.int .i64 1), .v (.int .i64 0), .lst 1 1 [.v (.int .u8 8)]], .v (.string ⟨#[120, 47, 121]⟩)] (.int .i64 6) := sure5.pure 1000000 1000 (by kernel_rfl)
/-- tributary/table.parented -/
theorem p16_5 : PureE Tryz.prog 3 16 [.lst 4 1 [.v (.string ⟨#[99]⟩), .v (.int .i64 1), .v (.int .i64 0), .lst 1 1 [.v (.int .u8 8)]], .v (.string ⟨#[99]⟩)] (.int .i64 0) := sure5.pure 1000000 1000 (by kernel_rfl)
/-- tributary/table.parented -/
theorem p16_6 : PureE Tryz.prog 3 16 [.lst 4 3 [.v (.string ⟨#[97]⟩), .v (.int .i64 2), .v (.int .i64 0), .v (.slice none 0 0), .v (.string ⟨#[97, 47, 98]⟩), .v (.int .i64 1), .v (.int .i64 0), .lst 1 1 [.v (.int .u8 7)], .v (.string ⟨#[99]⟩), .v (.int .i64 1), .v (.int .i64 0), .lst 1 1 [.v (.int .u8 8)]], .v (.string ⟨#[97, 47, 100]⟩)] (.int .i64 0) := sure5.pure 1000000 1000 (by kernel_rfl)
/-- tributary/table.parented -/
theorem p16_7 : PureE Tryz.prog 3 16 [.lst 4 3 [.v (.string ⟨#[97]⟩), .v (.int .i64 2), .v (.int .i64 0), .v (.slice none 0 0), .v (.string ⟨#[97, 47, 98]⟩), .v (.int .i64 1), .v (.int .i64 0), .lst 1 1 [.v (.int .u8 7)], .v (.string ⟨#[99]⟩), .v (.int .i64 1), .v (.int .i64 0), .lst 1 1 [.v (.int .u8 8)]], .v (.string ⟨#[101]⟩)] (.int .i64 0) := sure5.pure 1000000 1000 (by kernel_rfl)
/-- tributary/table.parented -/
theorem p16_8 : PureE Tryz.prog 3 16 [.lst 4 4 [.v (.string ⟨#[97]⟩), .v (.int .i64 2), .v (.int .i64 0), .v (.slice none 0 0), .v (.string ⟨#[97, 47, 98]⟩), .v (.int .i64 1), .v (.int .i64 0), .lst 1 1 [.v (.int .u8 7)], .v (.string ⟨#[97, 47, 100]⟩), .v (.int .i64 2), .v (.int .i64 0), .v (.slice none 0 0), .v (.string ⟨#[99]⟩), .v (.int .i64 1), .v (.int .i64 0), .lst 1 1 [.v (.int .u8 8)]], .v (.string ⟨#[97]⟩)] (.int .i64 0) := sure5.pure 1000000 1000 (by kernel_rfl)
/-- tributary/table.parented -/
theorem p16_9 : PureE Tryz.prog 3 16 [.lst 4 4 [.v (.string ⟨#[97]⟩), .v (.int .i64 2), .v (.int .i64 0), .v (.slice none 0 0), .v (.string ⟨#[97, 47, 98]⟩), .v (.int .i64 1), .v (.int .i64 0), .lst 1 1 [.v (.int .u8 7)], .v (.string ⟨#[97, 47, 100]⟩), .v (.int .i64 2), .v (.int .i64 0), .v (.slice none 0 0), .v (.string ⟨#[99]⟩), .v (.int .i64 1), .v (.int .i64 0), .lst 1 1 [.v (.int .u8 8)]], .v (.string ⟨#[97, 47, 98]⟩)] (.int .i64 0) := sure5.pure 1000000 1000 (by kernel_rfl)
/-- tributary/table.parented -/
theorem p16_10 : PureE Tryz.prog 3 16 [.lst 4 4 [.v (.string ⟨#[97]⟩), .v (.int .i64 2), .v (.int .i64 0), .v (.slice none 0 0), .v (.string ⟨#[97, 47, 98]⟩), .v (.int .i64 1), .v (.int .i64 0), .lst 1 1 [.v (.int .u8 7)], .v (.string ⟨#[97, 47, 100]⟩), .v (.int .i64 2), .v (.int .i64 0), .v (.slice none 0 0), .v (.string ⟨#[99]⟩), .v (.int .i64 1), .v (.int .i64 0), .lst 1 1 [.v (.int .u8 8)]], .v (.string ⟨#[97, 47, 100]⟩)] (.int .i64 0) := sure5.pure 1000000 1000 (by kernel_rfl)
/-- tributary/table.parented -/
theorem p16_11 : PureE Tryz.prog 3 16 [.lst 4 4 [.v (.string ⟨#[97]⟩), .v (.int .i64 2), .v (.int .i64 0), .v (.slice none 0 0), .v (.string ⟨#[97, 47, 98]⟩), .v (.int .i64 1), .v (.int .i64 0), .lst 1 1 [.v (.int .u8 7)], .v (.string ⟨#[97, 47, 100]⟩), .v (.int .i64 2), .v (.int .i64 0), .v (.slice none 0 0), .v (.string ⟨#[99]⟩), .v (.int .i64 1), .v (.int .i64 0), .lst 1 1 [.v (.int .u8 8)]], .v (.string ⟨#[99]⟩)] (.int .i64 0) := sure5.pure 1000000 1000 (by kernel_rfl)
/-- tributary/table.parented -/
theorem p16_12 : PureE Tryz.prog 3 16 [.lst 4 1 [.v (.string ⟨#[97, 47, 98]⟩), .v (.int .i64 1), .v (.int .i64 0), .lst 1 1 [.v (.int .u8 7)]], .v (.string ⟨#[97, 47, 98]⟩)] (.int .i64 6) := sure5.pure 1000000 1000 (by kernel_rfl)
noncomputable def t16 : List (List DV × Value) := [([.lst 4 3 [.v (.string ⟨#[97]⟩), .v (.int .i64 2), .v (.int .i64 0), .v (.slice none 0 0), .v (.string ⟨#[97, 47, 98]⟩), .v (.int .i64 1), .v (.int .i64 0), .lst 1 1 [.v (.int .u8 7)], .v (.string ⟨#[99]⟩), .v (.int .i64 1), .v (.int .i64 0), .lst 1 1 [.v (.int .u8 8)]], .v (.string ⟨#[97]⟩)], .int .i64 0),
  ([.lst 4 3 [.v (.string ⟨#[97]⟩), .v (.int .i64 2), .v (.int .i64 0), .v (.slice none 0 0), .v (.string ⟨#[97, 47, 98]⟩), .v (.int .i64 1), .v (.int .i64 0), .lst 1 1 [.v (.int .u8 7)], .v (.string ⟨#[99]⟩), .v (.int .i64 1), .v (.int .i64 0), .lst 1 1 [.v (.int .u8 8)]], .v (.string ⟨#[97, 47, 98]⟩)], .int .i64 0),
  ([.lst 4 3 [.v (.string ⟨#[97]⟩), .v (.int .i64 2), .v (.int .i64 0), .v (.slice none 0 0), .v (.string ⟨#[97, 47, 98]⟩), .v (.int .i64 1), .v (.int .i64 0), .lst 1 1 [.v (.int .u8 7)], .v (.string ⟨#[99]⟩), .v (.int .i64 1), .v (.int .i64 0), .lst 1 1 [.v (.int .u8 8)]], .v (.string ⟨#[99]⟩)], .int .i64 0),
  ([.lst 4 3 [.v (.string ⟨#[97]⟩), .v (.int .i64 2), .v (.int .i64 0), .v (.slice none 0 0), .v (.string ⟨#[97, 47, 98]⟩), .v (.int .i64 1), .v (.int .i64 0), .lst 1 1 [.v (.int .u8 7)], .v (.string ⟨#[99]⟩), .v (.int .i64 1), .v (.int .i64 0), .lst 1 1 [.v (.int .u8 8)]], .v (.string ⟨#[99, 47, 100]⟩)], .int .i64 12),
  ([.lst 4 3 [.v (.string ⟨#[97]⟩), .v (.int .i64 2), .v (.int .i64 0), .v (.slice none 0 0), .v (.string ⟨#[97, 47, 98]⟩), .v (.int .i64 1), .v (.int .i64 0), .lst 1 1 [.v (.int .u8 7)], .v (.string ⟨#[99]⟩), .v (.int .i64 1), .v (.int .i64 0), .lst 1 1 [.v (.int .u8 8)]], .v (.string ⟨#[120, 47, 121]⟩)], .int .i64 6),
  ([.lst 4 1 [.v (.string ⟨#[99]⟩), .v (.int .i64 1), .v (.int .i64 0), .lst 1 1 [.v (.int .u8 8)]], .v (.string ⟨#[99]⟩)], .int .i64 0),
  ([.lst 4 3 [.v (.string ⟨#[97]⟩), .v (.int .i64 2), .v (.int .i64 0), .v (.slice none 0 0), .v (.string ⟨#[97, 47, 98]⟩), .v (.int .i64 1), .v (.int .i64 0), .lst 1 1 [.v (.int .u8 7)], .v (.string ⟨#[99]⟩), .v (.int .i64 1), .v (.int .i64 0), .lst 1 1 [.v (.int .u8 8)]], .v (.string ⟨#[97, 47, 100]⟩)], .int .i64 0),
  ([.lst 4 3 [.v (.string ⟨#[97]⟩), .v (.int .i64 2), .v (.int .i64 0), .v (.slice none 0 0), .v (.string ⟨#[97, 47, 98]⟩), .v (.int .i64 1), .v (.int .i64 0), .lst 1 1 [.v (.int .u8 7)], .v (.string ⟨#[99]⟩), .v (.int .i64 1), .v (.int .i64 0), .lst 1 1 [.v (.int .u8 8)]], .v (.string ⟨#[101]⟩)], .int .i64 0),
  ([.lst 4 4 [.v (.string ⟨#[97]⟩), .v (.int .i64 2), .v (.int .i64 0), .v (.slice none 0 0), .v (.string ⟨#[97, 47, 98]⟩), .v (.int .i64 1), .v (.int .i64 0), .lst 1 1 [.v (.int .u8 7)], .v (.string ⟨#[97, 47, 100]⟩), .v (.int .i64 2), .v (.int .i64 0), .v (.slice none 0 0), .v (.string ⟨#[99]⟩), .v (.int .i64 1), .v (.int .i64 0), .lst 1 1 [.v (.int .u8 8)]], .v (.string ⟨#[97]⟩)], .int .i64 0),
  ([.lst 4 4 [.v (.string ⟨#[97]⟩), .v (.int .i64 2), .v (.int .i64 0), .v (.slice none 0 0), .v (.string ⟨#[97, 47, 98]⟩), .v (.int .i64 1), .v (.int .i64 0), .lst 1 1 [.v (.int .u8 7)], .v (.string ⟨#[97, 47, 100]⟩), .v (.int .i64 2), .v (.int .i64 0), .v (.slice none 0 0), .v (.string ⟨#[99]⟩), .v (.int .i64 1), .v (.int .i64 0), .lst 1 1 [.v (.int .u8 8)]], .v (.string ⟨#[97, 47, 98]⟩)], .int .i64 0),
  ([.lst 4 4 [.v (.string ⟨#[97]⟩), .v (.int .i64 2), .v (.int .i64 0), .v (.slice none 0 0), .v (.string ⟨#[97, 47, 98]⟩), .v (.int .i64 1), .v (.int .i64 0), .lst 1 1 [.v (.int .u8 7)], .v (.string ⟨#[97, 47, 100]⟩), .v (.int .i64 2), .v (.int .i64 0), .v (.slice none 0 0), .v (.string ⟨#[99]⟩), .v (.int .i64 1), .v (.int .i64 0), .lst 1 1 [.v (.int .u8 8)]], .v (.string ⟨#[97, 47, 100]⟩)], .int .i64 0),
  ([.lst 4 4 [.v (.string ⟨#[97]⟩), .v (.int .i64 2), .v (.int .i64 0), .v (.slice none 0 0), .v (.string ⟨#[97, 47, 98]⟩), .v (.int .i64 1), .v (.int .i64 0), .lst 1 1 [.v (.int .u8 7)], .v (.string ⟨#[97, 47, 100]⟩), .v (.int .i64 2), .v (.int .i64 0), .v (.slice none 0 0), .v (.string ⟨#[99]⟩), .v (.int .i64 1), .v (.int .i64 0), .lst 1 1 [.v (.int .u8 8)]], .v (.string ⟨#[99]⟩)], .int .i64 0),
  ([.lst 4 1 [.v (.string ⟨#[97, 47, 98]⟩), .v (.int .i64 1), .v (.int .i64 0), .lst 1 1 [.v (.int .u8 7)]], .v (.string ⟨#[97, 47, 98]⟩)], .int .i64 6)]
theorem e16 : Ents Tryz.prog 3 16 t16 := .cons p16_0 rfl <| .cons p16_1 rfl <| .cons p16_2 rfl <| .cons p16_3 rfl <| .cons p16_4 rfl <| .cons p16_5 rfl <| .cons p16_6 rfl <| .cons p16_7 rfl <| .cons p16_8 rfl <| .cons p16_9 rfl <| .cons p16_10 rfl <| .cons p16_11 rfl <| .cons p16_12 rfl <| .nil
noncomputable def env6 : Env := env5.memo (tab1 16 t16)
theorem sure6 : Sure env6 Tryz.prog := sure5.memo e16

/-- strings.Count -/
theorem p113_0 : PureE Tryz.prog 3 113 [.v (.string ⟨#[97]⟩), .v (.string ⟨#[47]⟩)] (.int .i64 0) := sure6.pure 1000000 1000 (by kernel_rfl)
/-- strings.Count -/
theorem p113_1 : PureE Tryz.prog 3 113 [.v (.string ⟨#[97, 47, 98]⟩), .v (.string ⟨#[47]⟩)] (.int .i64 1) := sure6.pure 1000000 1000 (by kernel_rfl)
/-- strings.Count -/
theorem p113_2 : PureE Tryz.prog 3 113 [.v (.string ⟨#[99]⟩), .v (.string ⟨#[47]⟩)] (.int .i64 0) := sure6.pure 1000000 1000 (by kernel_rfl)
/-- strings.Count -/
theorem p113_3 : PureE Tryz.prog 3 113 [.v (.string ⟨#[97, 47, 100]⟩), .v (.string ⟨#[47]⟩)] (.int .i64 1) := sure6.pure 1000000 1000 (by kernel_rfl)
/-- strings.Count -/
theorem p113_4 : PureE Tryz.prog 3 113 [.v (.string ⟨#[101, 47, 98]⟩), .v (.string ⟨#[47]⟩)] (.int .i64 1) := sure6.pure 1000000 1000 (by kernel_rfl)
/-- strings.Count -/
theorem p113_5 : PureE Tryz.prog 3 113 [.v (.string ⟨#[101]⟩), .v (.string ⟨#[47]⟩)] (.int .i64 0) := sure6.pure 1000000 1000 (by kernel_rfl)
noncomputable def t113 : List (List DV × Value) := [([.v (.string ⟨#[97]⟩), .v (.string ⟨#[47]⟩)], .int .i64 0),
  ([.v (.string ⟨#[97, 47, 98]⟩), .v (.string ⟨#[47]⟩)], .int .i64 1),
  ([.v (.string ⟨#[99]⟩), .v (.string ⟨#[47]⟩)], .int .i64 0),
  ([.v (.string ⟨#[97, 47, 100]⟩), .v (.string ⟨#[47]⟩)], .int .i64 1),
  ([.v (.string ⟨#[101, 47, 98]⟩), .v (.string ⟨#[47]⟩)], .int .i64 1),
  ([.v (.string ⟨#[101]⟩), .v (.string ⟨#[47]⟩)], .int .i64 0)]
theorem e113 : Ents Tryz.prog 3 113 t113 := .cons p113_0 rfl <| .cons p113_1 rfl <| .cons p113_2 rfl <| .cons p113_3 rfl <| .cons p113_4 rfl <| .cons p113_5 rfl <| .nil
noncomputable def env7 : Env := env6.memo (tab1 113 t113)
theorem sure7 : Sure env7 Tryz.prog := sure6.memo e113

/-- tributary/path.Less -/
theorem p33_0 : PureE Tryz.prog 3 33 [.v (.string ⟨#[97]⟩), .v (.string ⟨#[97, 47, 98]⟩)] (.bool true) := sure7.pure 1000000 1000 (by kernel_rfl)
/-- tributary/path.Less -/
theorem p33_1 : PureE Tryz.prog 3 33 [.v (.string ⟨#[97, 47, 98]⟩), .v (.string ⟨#[99]⟩)] (.bool true) := sure7.pure 1000000 1000 (by kernel_rfl)
/-- tributary/path.Less -/
theorem p33_2 : PureE Tryz.prog 3 33 [.v (.string ⟨#[97]⟩), .v (.string ⟨#[99]⟩)] (.bool true) := sure7.pure 1000000 1000 (by kernel_rfl)
/-- tributary/path.Less -/
theorem p33_3 : PureE Tryz.prog 3 33 [.v (.string ⟨#[99]⟩), .v (.string ⟨#[99]⟩)] (.bool false) := sure7.pure 1000000 1000 (by kernel_rfl)
/-- tributary/path.Less -/
theorem p33_4 : PureE Tryz.prog 3 33 [.v (.string ⟨#[97, 47, 98]⟩), .v (.string ⟨#[97, 47, 100]⟩)] (.bool true) := sure7.pure 1000000 1000 (by kernel_rfl)
/-- tributary/path.Less -/
theorem p33_5 : PureE Tryz.prog 3 33 [.v (.string ⟨#[99]⟩), .v (.string ⟨#[97, 47, 100]⟩)] (.bool false) := sure7.pure 1000000 1000 (by kernel_rfl)
/-- tributary/path.Less -/
theorem p33_6 : PureE Tryz.prog 3 33 [.v (.string ⟨#[97, 47, 100]⟩), .v (.string ⟨#[99]⟩)] (.bool true) := sure7.pure 1000000 1000 (by kernel_rfl)
/-- tributary/path.Less -/
theorem p33_7 : PureE Tryz.prog 3 33 [.v (.string ⟨#[101, 47, 98]⟩), .v (.string ⟨#[101]⟩)] (.bool false) := sure7.pure 1000000 1000 (by kernel_rfl)
/-- tributary/path.Less -/
theorem p33_8 : PureE Tryz.prog 3 33 [.v (.string ⟨#[101]⟩), .v (.string ⟨#[101, 47, 98]⟩)] (.bool true) := sure7.pure 1000000 1000 (by kernel_rfl)
/-- tributary/path.Less -/
theorem p33_9 : PureE Tryz.prog 3 33 [.v (.string ⟨#[99]⟩), .v (.string ⟨#[101, 47, 98]⟩)] (.bool true) := sure7.pure 1000000 1000 (by kernel_rfl)
/-- tributary/path.Less -/
theorem p33_10 : PureE Tryz.prog 3 33 [.v (.string ⟨#[99]⟩), .v (.string ⟨#[101]⟩)] (.bool true) := sure7.pure 1000000 1000 (by kernel_rfl)
noncomputable def t33 : List (List DV × Value) := [([.v (.string ⟨#[97]⟩), .v (.string ⟨#[97, 47, 98]⟩)], .bool true),
  ([.v (.string ⟨#[97, 47, 98]⟩), .v (.string ⟨#[99]⟩)], .bool true),
  ([.v (.string ⟨#[97]⟩), .v (.string ⟨#[99]⟩)], .bool true),
  ([.v (.string ⟨#[99]⟩), .v (.string ⟨#[99]⟩)], .bool false),
  ([.v (.string ⟨#[97, 47, 98]⟩), .v (.string ⟨#[97, 47, 100]⟩)], .bool true),
  ([.v (.string ⟨#[99]⟩), .v (.string ⟨#[97, 47, 100]⟩)], .bool false),
  ([.v (.string ⟨#[97, 47, 100]⟩), .v (.string ⟨#[99]⟩)], .bool true),
  ([.v (.string ⟨#[101, 47, 98]⟩), .v (.string ⟨#[101]⟩)], .bool false),
  ([.v (.string ⟨#[101]⟩), .v (.string ⟨#[101, 47, 98]⟩)], .bool true),
  ([.v (.string ⟨#[99]⟩), .v (.string ⟨#[101, 47, 98]⟩)], .bool true),
  ([.v (.string ⟨#[99]⟩), .v (.string ⟨#[101]⟩)], .bool true)]
theorem e33 : Ents Tryz.prog 3 33 t33 := .cons p33_0 rfl <| .cons p33_1 rfl <| .cons p33_2 rfl <| .cons p33_3 rfl <| .cons p33_4 rfl <| .cons p33_5 rfl <| .cons p33_6 rfl <| .cons p33_7 rfl <| .cons p33_8 rfl <| .cons p33_9 rfl <| .cons p33_10 rfl <| .nil
noncomputable def env8 : Env := env7.memo (tab1 33 t33)
theorem sure8 : Sure env8 Tryz.prog := sure7.memo e33

/-- tributary/table.Check -/
theorem p13_0 : PureE Tryz.prog 3 13 [.lst 4 3 [.v (.string ⟨#[97]⟩), .v (.int .i64 2), .v (.int .i64 0), .v (.slice none 0 0), .v (.string ⟨#[97, 47, 98]⟩), .v (.int .i64 1), .v (.int .i64 0), .lst 1 1 [.v (.int .u8 7)], .v (.string ⟨#[99]⟩), .v (.int .i64 1), .v (.int .i64 0), .lst 1 1 [.v (.int .u8 8)]]] (.int .i64 0) := sure8.pure 1000000 1000 (by kernel_rfl)
/-- tributary/table.Check -/
theorem p13_1 : PureE Tryz.prog 3 13 [.lst 4 1 [.v (.string ⟨#[99]⟩), .v (.int .i64 1), .v (.int .i64 0), .lst 1 1 [.v (.int .u8 8)]]] (.int .i64 0) := sure8.pure 1000000 1000 (by kernel_rfl)
/-- tributary/table.Check -/
theorem p13_2 : PureE Tryz.prog 3 13 [.lst 4 4 [.v (.string ⟨#[97]⟩), .v (.int .i64 2), .v (.int .i64 0), .v (.slice none 0 0), .v (.string ⟨#[97, 47, 98]⟩), .v (.int .i64 1), .v (.int .i64 0), .lst 1 1 [.v (.int .u8 7)], .v (.string ⟨#[97, 47, 100]⟩), .v (.int .i64 2), .v (.int .i64 0), .v (.slice none 0 0), .v (.string ⟨#[99]⟩), .v (.int .i64 1), .v (.int .i64 0), .lst 1 1 [.v (.int .u8 8)]]] (.int .i64 0) := sure8.pure 1000000 1000 (by kernel_rfl)
/-- tributary/table.Check -/
theorem p13_3 : PureE Tryz.prog 3 13 [.lst 4 1 [.v (.string ⟨#[97, 47, 98]⟩), .v (.int .i64 1), .v (.int .i64 0), .lst 1 1 [.v (.int .u8 7)]]] (.int .i64 2) := sure8.pure 1000000 1000 (by kernel_rfl)
noncomputable def t13 : List (List DV × Value) := [([.lst 4 3 [.v (.string ⟨#[97]⟩), .v (.int .i64 2), .v (.int .i64 0), .v (.slice none 0 0), .v (.string ⟨#[97, 47, 98]⟩), .v (.int .i64 1), .v (.int .i64 0), .lst 1 1 [.v (.int .u8 7)], .v (.string ⟨#[99]⟩), .v (.int .i64 1), .v (.int .i64 0), .lst 1 1 [.v (.int .u8 8)]]], .int .i64 0),
  ([.lst 4 1 [.v (.string ⟨#[99]⟩), .v (.int .i64 1), .v (.int .i64 0), .lst 1 1 [.v (.int .u8 8)]]], .int .i64 0),
  ([.lst 4 4 [.v (.string ⟨#[97]⟩), .v (.int .i64 2), .v (.int .i64 0), .v (.slice none 0 0), .v (.string ⟨#[97, 47, 98]⟩), .v (.int .i64 1), .v (.int .i64 0), .lst 1 1 [.v (.int .u8 7)], .v (.string ⟨#[97, 47, 100]⟩), .v (.int .i64 2), .v (.int .i64 0), .v (.slice none 0 0), .v (.string ⟨#[99]⟩), .v (.int .i64 1), .v (.int .i64 0), .lst 1 1 [.v (.int .u8 8)]]], .int .i64 0),
  ([.lst 4 1 [.v (.string ⟨#[97, 47, 98]⟩), .v (.int .i64 1), .v (.int .i64 0), .lst 1 1 [.v (.int .u8 7)]]], .int .i64 2)]
theorem e13 : Ents Tryz.prog 3 13 t13 := .cons p13_0 rfl <| .cons p13_1 rfl <| .cons p13_2 rfl <| .cons p13_3 rfl <| .nil
noncomputable def env9 : Env := env8.memo (tab1 13 t13)
theorem sure9 : Sure env9 Tryz.prog := sure8.memo e13

/-- tributary/path.Under -/
theorem p25_0 : PureE Tryz.prog 3 25 [.v (.string ⟨#[97]⟩), .v (.string ⟨#[97]⟩)] (.bool false) := sure9.pure 1000000 1000 (by kernel_rfl)
/-- tributary/path.Under -/
theorem p25_1 : PureE Tryz.prog 3 25 [.v (.string ⟨#[97]⟩), .v (.string ⟨#[97, 47, 98]⟩)] (.bool true) := sure9.pure 1000000 1000 (by kernel_rfl)
/-- tributary/path.Under -/
theorem p25_2 : PureE Tryz.prog 3 25 [.v (.string ⟨#[97]⟩), .v (.string ⟨#[99]⟩)] (.bool false) := sure9.pure 1000000 1000 (by kernel_rfl)
/-- tributary/path.Under -/
theorem p25_3 : PureE Tryz.prog 3 25 [.v (.string ⟨#[99]⟩), .v (.string ⟨#[97]⟩)] (.bool false) := sure9.pure 1000000 1000 (by kernel_rfl)
/-- tributary/path.Under -/
theorem p25_4 : PureE Tryz.prog 3 25 [.v (.string ⟨#[99]⟩), .v (.string ⟨#[120, 47, 121]⟩)] (.bool false) := sure9.pure 1000000 1000 (by kernel_rfl)
/-- tributary/path.Under -/
theorem p25_5 : PureE Tryz.prog 3 25 [.v (.string ⟨#[97]⟩), .v (.string ⟨#[101]⟩)] (.bool false) := sure9.pure 1000000 1000 (by kernel_rfl)
noncomputable def t25 : List (List DV × Value) := [([.v (.string ⟨#[97]⟩), .v (.string ⟨#[97]⟩)], .bool false),
  ([.v (.string ⟨#[97]⟩), .v (.string ⟨#[97, 47, 98]⟩)], .bool true),
  ([.v (.string ⟨#[97]⟩), .v (.string ⟨#[99]⟩)], .bool false),
  ([.v (.string ⟨#[99]⟩), .v (.string ⟨#[97]⟩)], .bool false),
  ([.v (.string ⟨#[99]⟩), .v (.string ⟨#[120, 47, 121]⟩)], .bool false),
  ([.v (.string ⟨#[97]⟩), .v (.string ⟨#[101]⟩)], .bool false)]
theorem e25 : Ents Tryz.prog 3 25 t25 := .cons p25_0 rfl <| .cons p25_1 rfl <| .cons p25_2 rfl <| .cons p25_3 rfl <| .cons p25_4 rfl <| .cons p25_5 rfl <| .nil
noncomputable def env10 : Env := env9.memo (tab1 25 t25)
theorem sure10 : Sure env10 Tryz.prog := sure9.memo e25

/-- tributary/table.by -/
theorem p21_0 : PureE Tryz.prog 3 21 [.agg [.v (.string ⟨#[97]⟩), .v (.int .i64 2), .v (.int .i64 0), .v (.slice none 0 0)], .agg [.v (.string ⟨#[99]⟩), .v (.int .i64 1), .v (.int .i64 0), .lst 1 1 [.v (.int .u8 8)]]] (.int .i64 (-1)) := sure10.pure 1000000 1000 (by kernel_rfl)
/-- tributary/table.by -/
theorem p21_1 : PureE Tryz.prog 3 21 [.agg [.v (.string ⟨#[97, 47, 98]⟩), .v (.int .i64 1), .v (.int .i64 0), .lst 1 1 [.v (.int .u8 7)]], .agg [.v (.string ⟨#[99]⟩), .v (.int .i64 1), .v (.int .i64 0), .lst 1 1 [.v (.int .u8 8)]]] (.int .i64 (-1)) := sure10.pure 1000000 1000 (by kernel_rfl)
/-- tributary/table.by -/
theorem p21_2 : PureE Tryz.prog 3 21 [.agg [.v (.string ⟨#[99]⟩), .v (.int .i64 1), .v (.int .i64 0), .lst 1 1 [.v (.int .u8 8)]], .agg [.v (.string ⟨#[99]⟩), .v (.int .i64 1), .v (.int .i64 0), .lst 1 1 [.v (.int .u8 8)]]] (.int .i64 0) := sure10.pure 1000000 1000 (by kernel_rfl)
/-- tributary/table.by -/
theorem p21_3 : PureE Tryz.prog 3 21 [.agg [.v (.string ⟨#[97, 47, 98]⟩), .v (.int .i64 1), .v (.int .i64 0), .lst 1 1 [.v (.int .u8 7)]], .agg [.v (.string ⟨#[97, 47, 100]⟩), .v (.int .i64 2), .v (.int .i64 0), .v (.slice none 0 0)]] (.int .i64 (-1)) := sure10.pure 1000000 1000 (by kernel_rfl)
/-- tributary/table.by -/
theorem p21_4 : PureE Tryz.prog 3 21 [.agg [.v (.string ⟨#[99]⟩), .v (.int .i64 1), .v (.int .i64 0), .lst 1 1 [.v (.int .u8 8)]], .agg [.v (.string ⟨#[97, 47, 100]⟩), .v (.int .i64 2), .v (.int .i64 0), .v (.slice none 0 0)]] (.int .i64 1) := sure10.pure 1000000 1000 (by kernel_rfl)
/-- tributary/table.by -/
theorem p21_5 : PureE Tryz.prog 3 21 [.agg [.v (.string ⟨#[101, 47, 98]⟩), .v (.int .i64 1), .v (.int .i64 0), .lst 1 1 [.v (.int .u8 7)]], .agg [.v (.string ⟨#[101]⟩), .v (.int .i64 2), .v (.int .i64 0), .v (.slice none 0 0)]] (.int .i64 1) := sure10.pure 1000000 1000 (by kernel_rfl)
/-- tributary/table.by -/
theorem p21_6 : PureE Tryz.prog 3 21 [.agg [.v (.string ⟨#[99]⟩), .v (.int .i64 1), .v (.int .i64 0), .lst 1 1 [.v (.int .u8 8)]], .agg [.v (.string ⟨#[101, 47, 98]⟩), .v (.int .i64 1), .v (.int .i64 0), .lst 1 1 [.v (.int .u8 7)]]] (.int .i64 (-1)) := sure10.pure 1000000 1000 (by kernel_rfl)
/-- tributary/table.by -/
theorem p21_7 : PureE Tryz.prog 3 21 [.agg [.v (.string ⟨#[99]⟩), .v (.int .i64 1), .v (.int .i64 0), .lst 1 1 [.v (.int .u8 8)]], .agg [.v (.string ⟨#[101]⟩), .v (.int .i64 2), .v (.int .i64 0), .v (.slice none 0 0)]] (.int .i64 (-1)) := sure10.pure 1000000 1000 (by kernel_rfl)
noncomputable def t21 : List (List DV × Value) := [([.agg [.v (.string ⟨#[97]⟩), .v (.int .i64 2), .v (.int .i64 0), .v (.slice none 0 0)], .agg [.v (.string ⟨#[99]⟩), .v (.int .i64 1), .v (.int .i64 0), .lst 1 1 [.v (.int .u8 8)]]], .int .i64 (-1)),
  ([.agg [.v (.string ⟨#[97, 47, 98]⟩), .v (.int .i64 1), .v (.int .i64 0), .lst 1 1 [.v (.int .u8 7)]], .agg [.v (.string ⟨#[99]⟩), .v (.int .i64 1), .v (.int .i64 0), .lst 1 1 [.v (.int .u8 8)]]], .int .i64 (-1)),
  ([.agg [.v (.string ⟨#[99]⟩), .v (.int .i64 1), .v (.int .i64 0), .lst 1 1 [.v (.int .u8 8)]], .agg [.v (.string ⟨#[99]⟩), .v (.int .i64 1), .v (.int .i64 0), .lst 1 1 [.v (.int .u8 8)]]], .int .i64 0),
  ([.agg [.v (.string ⟨#[97, 47, 98]⟩), .v (.int .i64 1), .v (.int .i64 0), .lst 1 1 [.v (.int .u8 7)]], .agg [.v (.string ⟨#[97, 47, 100]⟩), .v (.int .i64 2), .v (.int .i64 0), .v (.slice none 0 0)]], .int .i64 (-1)),
  ([.agg [.v (.string ⟨#[99]⟩), .v (.int .i64 1), .v (.int .i64 0), .lst 1 1 [.v (.int .u8 8)]], .agg [.v (.string ⟨#[97, 47, 100]⟩), .v (.int .i64 2), .v (.int .i64 0), .v (.slice none 0 0)]], .int .i64 1),
  ([.agg [.v (.string ⟨#[101, 47, 98]⟩), .v (.int .i64 1), .v (.int .i64 0), .lst 1 1 [.v (.int .u8 7)]], .agg [.v (.string ⟨#[101]⟩), .v (.int .i64 2), .v (.int .i64 0), .v (.slice none 0 0)]], .int .i64 1),
  ([.agg [.v (.string ⟨#[99]⟩), .v (.int .i64 1), .v (.int .i64 0), .lst 1 1 [.v (.int .u8 8)]], .agg [.v (.string ⟨#[101, 47, 98]⟩), .v (.int .i64 1), .v (.int .i64 0), .lst 1 1 [.v (.int .u8 7)]]], .int .i64 (-1)),
  ([.agg [.v (.string ⟨#[99]⟩), .v (.int .i64 1), .v (.int .i64 0), .lst 1 1 [.v (.int .u8 8)]], .agg [.v (.string ⟨#[101]⟩), .v (.int .i64 2), .v (.int .i64 0), .v (.slice none 0 0)]], .int .i64 (-1))]
theorem e21 : Ents Tryz.prog 3 21 t21 := .cons p21_0 rfl <| .cons p21_1 rfl <| .cons p21_2 rfl <| .cons p21_3 rfl <| .cons p21_4 rfl <| .cons p21_5 rfl <| .cons p21_6 rfl <| .cons p21_7 rfl <| .nil
noncomputable def env11 : Env := env10.memo (tab1 21 t21)
theorem sure11 : Sure env11 Tryz.prog := sure10.memo e21

theorem ran : isTrue (run env11 1000000 1000 (.call 3 []) (mem0 3)) = true := by kernel_rfl
theorem fn : (env.fn 3).isSome = true := by kernel_rfl
theorem calls (W : World) (hW : 3 ≤ W.heap.size) :
    Calls Tryz.prog 3 #[] W fun e W' => e = .returned (.bool true) ∧ (∀ b, b < W.heap.size → W'.heap[b]? = W.heap[b]?) ∧ W.heap.size ≤ W'.heap.size ∧ W'.os = W.os ∧ W'.tape = W.tape ∧ W'.output = W.output :=
  match Option.isSome_iff_exists.1 fn with
  | ⟨_, hx⟩ => closed_calls' (E := env11) (j := 1000000) (k := 1000) sure11.ok sure11.ext sure11.keep hx (show isTrue (run env11 1000000 1000 (.call 3 []) (mem0 env.ng)) = true from env_ng.symm ▸ ran) (show env.ng ≤ _ from env_ng.symm ▸ hW)
end TableKnown
end Go.Proofs.YtdnghlgepoilpabGreatDoor
