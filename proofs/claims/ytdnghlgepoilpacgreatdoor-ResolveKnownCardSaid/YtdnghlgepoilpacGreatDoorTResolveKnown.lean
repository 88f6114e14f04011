/- ResolveKnown: answers of calls that come again, and the run that uses them, by the kernel. Of closed terms; no condition. -/
import Derived.Test.YtdnghlgepoilpacGreatDoorEnv
namespace Go.Proofs.YtdnghlgepoilpacGreatDoor
namespace ResolveKnown
open Go Go.Am
set_option maxRecDepth 1000000

/-- tributary/dot.Check -/
theorem p13_0 : PureE Tryz.prog 3 13 [.agg [.v (.int .i64 1), .v (.int .i64 1)]] (.int .i64 0) := sure0.pure 1000000 1000 (by kernel_rfl)
/-- tributary/dot.Check -/
theorem p13_1 : PureE Tryz.prog 3 13 [.agg [.v (.int .i64 3), .v (.int .i64 1)]] (.int .i64 0) := sure0.pure 1000000 1000 (by kernel_rfl)
/-- tributary/dot.Check -/
theorem p13_2 : PureE Tryz.prog 3 13 [.agg [.v (.int .i64 4), .v (.int .i64 1)]] (.int .i64 0) := sure0.pure 1000000 1000 (by kernel_rfl)
/-- tributary/dot.Check -/
theorem p13_3 : PureE Tryz.prog 3 13 [.agg [.v (.int .i64 9), .v (.int .i64 0)]] (.int .i64 2) := sure0.pure 1000000 1000 (by kernel_rfl)
/-- tributary/dot.Check -/
theorem p13_4 : PureE Tryz.prog 3 13 [.agg [.v (.int .i64 9), .v (.int .i64 1)]] (.int .i64 0) := sure0.pure 1000000 1000 (by kernel_rfl)
/-- tributary/dot.Check -/
theorem p13_5 : PureE Tryz.prog 3 13 [.agg [.v (.int .i64 9), .v (.int .i64 2)]] (.int .i64 0) := sure0.pure 1000000 1000 (by kernel_rfl)
noncomputable def t13 : List (List DV × Value) := [([.agg [.v (.int .i64 1), .v (.int .i64 1)]], .int .i64 0),
  ([.agg [.v (.int .i64 3), .v (.int .i64 1)]], .int .i64 0),
  ([.agg [.v (.int .i64 4), .v (.int .i64 1)]], .int .i64 0),
  ([.agg [.v (.int .i64 9), .v (.int .i64 0)]], .int .i64 2),
  ([.agg [.v (.int .i64 9), .v (.int .i64 1)]], .int .i64 0),
  ([.agg [.v (.int .i64 9), .v (.int .i64 2)]], .int .i64 0)]
theorem e13 : Ents Tryz.prog 3 13 t13 := .cons p13_0 rfl <| .cons p13_1 rfl <| .cons p13_2 rfl <| .cons p13_3 rfl <| .cons p13_4 rfl <| .cons p13_5 rfl <| .nil
noncomputable def env1 : Env := env.memo (tab1 13 t13)
theorem sure1 : Sure env1 Tryz.prog := sure0.memo e13

/-- tributary/path.part -/
theorem p34_0 : PureE Tryz.prog 3 34 [.v (.string ⟨#[102]⟩)] (.bool true) := sure1.pure 1000000 1000 (by kernel_rfl)
/-- tributary/path.part -/
theorem p34_1 : PureE Tryz.prog 3 34 [.v (.string ⟨#[103]⟩)] (.bool true) := sure1.pure 1000000 1000 (by kernel_rfl)
/-- tributary/path.part -/
theorem p34_2 : PureE Tryz.prog 3 34 [.v (.string ⟨#[104]⟩)] (.bool true) := sure1.pure 1000000 1000 (by kernel_rfl)
/-- tributary/path.part -/
theorem p34_3 : PureE Tryz.prog 3 34 [.v (.string ⟨#[120]⟩)] (.bool true) := sure1.pure 1000000 1000 (by kernel_rfl)
/-- tributary/path.part -/
theorem p34_4 : PureE Tryz.prog 3 34 [.v (.string ⟨#[121]⟩)] (.bool true) := sure1.pure 1000000 1000 (by kernel_rfl)
noncomputable def t34 : List (List DV × Value) := [([.v (.string ⟨#[102]⟩)], .bool true),
  ([.v (.string ⟨#[103]⟩)], .bool true),
  ([.v (.string ⟨#[104]⟩)], .bool true),
  ([.v (.string ⟨#[120]⟩)], .bool true),
  ([.v (.string ⟨#[121]⟩)], .bool true)]
theorem e34 : Ents Tryz.prog 3 34 t34 := .cons p34_0 rfl <| .cons p34_1 rfl <| .cons p34_2 rfl <| .cons p34_3 rfl <| .cons p34_4 rfl <| .nil
noncomputable def env2 : Env := env1.memo (tab1 34 t34)
theorem sure2 : Sure env2 Tryz.prog := sure1.memo e34

/-- tributary/path.Check -/
theorem p14_0 : PureE Tryz.prog 3 14 [.v (.string ⟨#[102]⟩)] (.int .i64 0) := sure2.pure 1000000 1000 (by kernel_rfl)
/-- tributary/path.Check -/
theorem p14_1 : PureE Tryz.prog 3 14 [.v (.string ⟨#[102, 47, 103]⟩)] (.int .i64 0) := sure2.pure 1000000 1000 (by kernel_rfl)
/-- tributary/path.Check -/
theorem p14_2 : PureE Tryz.prog 3 14 [.v (.string ⟨#[104]⟩)] (.int .i64 0) := sure2.pure 1000000 1000 (by kernel_rfl)
/-- tributary/path.Check -/
theorem p14_3 : PureE Tryz.prog 3 14 [.v (.string ⟨#[102, 47, 104]⟩)] (.int .i64 0) := sure2.pure 1000000 1000 (by kernel_rfl)
/-- tributary/path.Check -/
theorem p14_4 : PureE Tryz.prog 3 14 [.v (.string ⟨#[120, 47, 121]⟩)] (.int .i64 0) := sure2.pure 1000000 1000 (by kernel_rfl)
noncomputable def t14 : List (List DV × Value) := [([.v (.string ⟨#[102]⟩)], .int .i64 0),
  ([.v (.string ⟨#[102, 47, 103]⟩)], .int .i64 0),
  ([.v (.string ⟨#[104]⟩)], .int .i64 0),
  ([.v (.string ⟨#[102, 47, 104]⟩)], .int .i64 0),
  ([.v (.string ⟨#[120, 47, 121]⟩)], .int .i64 0)]
theorem e14 : Ents Tryz.prog 3 14 t14 := .cons p14_0 rfl <| .cons p14_1 rfl <| .cons p14_2 rfl <| .cons p14_3 rfl <| .cons p14_4 rfl <| .nil
noncomputable def env3 : Env := env2.memo (tab1 14 t14)
theorem sure3 : Sure env3 Tryz.prog := sure2.memo e14

/-- tributary/effect.Check -/
theorem p15_0 : PureE Tryz.prog 3 15 [.agg [.v (.int .i64 1), .v (.int .i64 0), .lst 1 1 [.v (.int .u8 7)]]] (.int .i64 0) := sure3.pure 1000000 1000 (by kernel_rfl)
/-- tributary/effect.Check -/
theorem p15_1 : PureE Tryz.prog 3 15 [.agg [.v (.int .i64 2), .v (.int .i64 0), .v (.slice none 0 0)]] (.int .i64 0) := sure3.pure 1000000 1000 (by kernel_rfl)
/-- tributary/effect.Check -/
theorem p15_2 : PureE Tryz.prog 3 15 [.agg [.v (.int .i64 1), .v (.int .i64 0), .v (.slice none 0 0)]] (.int .i64 0) := sure3.pure 1000000 1000 (by kernel_rfl)
/-- tributary/effect.Check -/
theorem p15_3 : PureE Tryz.prog 3 15 [.agg [.v (.int .i64 3), .v (.int .i64 0), .v (.slice none 0 0)]] (.int .i64 0) := sure3.pure 1000000 1000 (by kernel_rfl)
/-- tributary/effect.Check -/
theorem p15_4 : PureE Tryz.prog 3 15 [.agg [.v (.int .i64 2), .v (.int .i64 493), .v (.slice none 0 0)]] (.int .i64 0) := sure3.pure 1000000 1000 (by kernel_rfl)
noncomputable def t15 : List (List DV × Value) := [([.agg [.v (.int .i64 1), .v (.int .i64 0), .lst 1 1 [.v (.int .u8 7)]]], .int .i64 0),
  ([.agg [.v (.int .i64 2), .v (.int .i64 0), .v (.slice none 0 0)]], .int .i64 0),
  ([.agg [.v (.int .i64 1), .v (.int .i64 0), .v (.slice none 0 0)]], .int .i64 0),
  ([.agg [.v (.int .i64 3), .v (.int .i64 0), .v (.slice none 0 0)]], .int .i64 0),
  ([.agg [.v (.int .i64 2), .v (.int .i64 493), .v (.slice none 0 0)]], .int .i64 0)]
theorem e15 : Ents Tryz.prog 3 15 t15 := .cons p15_0 rfl <| .cons p15_1 rfl <| .cons p15_2 rfl <| .cons p15_3 rfl <| .cons p15_4 rfl <| .nil
noncomputable def env4 : Env := env3.memo (tab1 15 t15)
theorem sure4 : Sure env4 Tryz.prog := sure3.memo e15

/-- tributary/past.Check -/
theorem p67_0 : PureE Tryz.prog 3 67 [.v (.slice none 0 0)] (.int .i64 0) := sure4.pure 1000000 1000 (by kernel_rfl)
/-- tributary/past.Check -/
theorem p67_1 : PureE Tryz.prog 3 67 [.lst 3 1 [.v (.int .i64 1), .v (.int .i64 1), .v (.int .i64 1)]] (.int .i64 0) := sure4.pure 1000000 1000 (by kernel_rfl)
/-- tributary/past.Check -/
theorem p67_2 : PureE Tryz.prog 3 67 [.lst 3 1 [.v (.int .i64 3), .v (.int .i64 1), .v (.int .i64 1)]] (.int .i64 0) := sure4.pure 1000000 1000 (by kernel_rfl)
/-- tributary/past.Check -/
theorem p67_3 : PureE Tryz.prog 3 67 [.lst 3 2 [.v (.int .i64 1), .v (.int .i64 1), .v (.int .i64 1), .v (.int .i64 3), .v (.int .i64 1), .v (.int .i64 1)]] (.int .i64 0) := sure4.pure 1000000 1000 (by kernel_rfl)
/-- tributary/past.Check -/
theorem p67_4 : PureE Tryz.prog 3 67 [.lst 3 1 [.v (.int .i64 4), .v (.int .i64 1), .v (.int .i64 1)]] (.int .i64 0) := sure4.pure 1000000 1000 (by kernel_rfl)
/-- tributary/past.Check -/
theorem p67_5 : PureE Tryz.prog 3 67 [.lst 3 3 [.v (.int .i64 1), .v (.int .i64 1), .v (.int .i64 1), .v (.int .i64 3), .v (.int .i64 1), .v (.int .i64 1), .v (.int .i64 4), .v (.int .i64 1), .v (.int .i64 1)]] (.int .i64 0) := sure4.pure 1000000 1000 (by kernel_rfl)
noncomputable def t67 : List (List DV × Value) := [([.v (.slice none 0 0)], .int .i64 0),
  ([.lst 3 1 [.v (.int .i64 1), .v (.int .i64 1), .v (.int .i64 1)]], .int .i64 0),
  ([.lst 3 1 [.v (.int .i64 3), .v (.int .i64 1), .v (.int .i64 1)]], .int .i64 0),
  ([.lst 3 2 [.v (.int .i64 1), .v (.int .i64 1), .v (.int .i64 1), .v (.int .i64 3), .v (.int .i64 1), .v (.int .i64 1)]], .int .i64 0),
  ([.lst 3 1 [.v (.int .i64 4), .v (.int .i64 1), .v (.int .i64 1)]], .int .i64 0),
  ([.lst 3 3 [.v (.int .i64 1), .v (.int .i64 1), .v (.int .i64 1), .v (.int .i64 3), .v (.int .i64 1), .v (.int .i64 1), .v (.int .i64 4), .v (.int .i64 1), .v (.int .i64 1)]], .int .i64 0)]
theorem e67 : Ents Tryz.prog 3 67 t67 := .cons p67_0 rfl <| .cons p67_1 rfl <| .cons p67_2 rfl <| .cons p67_3 rfl <| .cons p67_4 rfl <| .cons p67_5 rfl <| .nil
noncomputable def env5 : Env := env4.memo (tab1 67 t67)
theorem sure5 : Sure env5 Tryz.prog := sure4.memo e67

/-- tributary/event.Check -/
theorem p19_0 : PureE Tryz.prog 3 19 [.agg [.v (.int .i64 1), .v (.int .i64 1), .v (.string ⟨#[102]⟩), .v (.int .i64 1), .v (.int .i64 0), .lst 1 1 [.v (.int .u8 7)], .v (.slice none 0 0)]] (.int .i64 0) := sure5.pure 1000000 1000 (by kernel_rfl)
/-- tributary/event.Check -/
theorem p19_1 : PureE Tryz.prog 3 19 [.agg [.v (.int .i64 3), .v (.int .i64 1), .v (.string ⟨#[102]⟩), .v (.int .i64 2), .v (.int .i64 0), .v (.slice none 0 0), .v (.slice none 0 0)]] (.int .i64 0) := sure5.pure 1000000 1000 (by kernel_rfl)
/-- tributary/event.Check -/
theorem p19_2 : PureE Tryz.prog 3 19 [.agg [.v (.int .i64 4), .v (.int .i64 1), .v (.string ⟨#[102, 47, 103]⟩), .v (.int .i64 1), .v (.int .i64 0), .v (.slice none 0 0), .v (.slice none 0 0)]] (.int .i64 0) := sure5.pure 1000000 1000 (by kernel_rfl)
/-- tributary/event.Check -/
theorem p19_3 : PureE Tryz.prog 3 19 [.agg [.v (.int .i64 9), .v (.int .i64 1), .v (.string ⟨#[102]⟩), .v (.int .i64 1), .v (.int .i64 0), .lst 1 1 [.v (.int .u8 7)], .lst 3 3 [.v (.int .i64 1), .v (.int .i64 1), .v (.int .i64 1), .v (.int .i64 3), .v (.int .i64 1), .v (.int .i64 1), .v (.int .i64 4), .v (.int .i64 1), .v (.int .i64 1)]]] (.int .i64 0) := sure5.pure 1000000 1000 (by kernel_rfl)
/-- tributary/event.Check -/
theorem p19_4 : PureE Tryz.prog 3 19 [.agg [.v (.int .i64 9), .v (.int .i64 2), .v (.string ⟨#[104]⟩), .v (.int .i64 2), .v (.int .i64 0), .v (.slice none 0 0), .v (.slice none 0 0)]] (.int .i64 0) := sure5.pure 1000000 1000 (by kernel_rfl)
/-- tributary/event.Check -/
theorem p19_5 : PureE Tryz.prog 3 19 [.agg [.v (.int .i64 9), .v (.int .i64 1), .v (.string ⟨#[102]⟩), .v (.int .i64 3), .v (.int .i64 0), .v (.slice none 0 0), .lst 3 3 [.v (.int .i64 1), .v (.int .i64 1), .v (.int .i64 1), .v (.int .i64 3), .v (.int .i64 1), .v (.int .i64 1), .v (.int .i64 4), .v (.int .i64 1), .v (.int .i64 1)]]] (.int .i64 0) := sure5.pure 1000000 1000 (by kernel_rfl)
/-- tributary/event.Check -/
theorem p19_6 : PureE Tryz.prog 3 19 [.agg [.v (.int .i64 9), .v (.int .i64 1), .v (.string ⟨#[102]⟩), .v (.int .i64 2), .v (.int .i64 0), .v (.slice none 0 0), .lst 3 3 [.v (.int .i64 1), .v (.int .i64 1), .v (.int .i64 1), .v (.int .i64 3), .v (.int .i64 1), .v (.int .i64 1), .v (.int .i64 4), .v (.int .i64 1), .v (.int .i64 1)]]] (.int .i64 0) := sure5.pure 1000000 1000 (by kernel_rfl)
/-- tributary/event.Check -/
theorem p19_7 : PureE Tryz.prog 3 19 [.agg [.v (.int .i64 9), .v (.int .i64 1), .v (.string ⟨#[102]⟩), .v (.int .i64 2), .v (.int .i64 493), .v (.slice none 0 0), .lst 3 3 [.v (.int .i64 1), .v (.int .i64 1), .v (.int .i64 1), .v (.int .i64 3), .v (.int .i64 1), .v (.int .i64 1), .v (.int .i64 4), .v (.int .i64 1), .v (.int .i64 1)]]] (.int .i64 0) := sure5.pure 1000000 1000 (by kernel_rfl)
/-- tributary/event.Check -/
theorem p19_8 : PureE Tryz.prog 3 19 [.agg [.v (.int .i64 9), .v (.int .i64 1), .v (.string ⟨#[102, 47, 103]⟩), .v (.int .i64 3), .v (.int .i64 0), .v (.slice none 0 0), .lst 3 3 [.v (.int .i64 1), .v (.int .i64 1), .v (.int .i64 1), .v (.int .i64 3), .v (.int .i64 1), .v (.int .i64 1), .v (.int .i64 4), .v (.int .i64 1), .v (.int .i64 1)]]] (.int .i64 0) := sure5.pure 1000000 1000 (by kernel_rfl)
noncomputable def t19 : List (List DV × Value) := [([.agg [.v (.int .i64 1), .v (.int .i64 1), .v (.string ⟨#[102]⟩), .v (.int .i64 1), .v (.int .i64 0), .lst 1 1 [.v (.int .u8 7)], .v (.slice none 0 0)]], .int .i64 0),
  ([.agg [.v (.int .i64 3), .v (.int .i64 1), .v (.string ⟨#[102]⟩), .v (.int .i64 2), .v (.int .i64 0), .v (.slice none 0 0), .v (.slice none 0 0)]], .int .i64 0),
  ([.agg [.v (.int .i64 4), .v (.int .i64 1), .v (.string ⟨#[102, 47, 103]⟩), .v (.int .i64 1), .v (.int .i64 0), .v (.slice none 0 0), .v (.slice none 0 0)]], .int .i64 0),
  ([.agg [.v (.int .i64 9), .v (.int .i64 1), .v (.string ⟨#[102]⟩), .v (.int .i64 1), .v (.int .i64 0), .lst 1 1 [.v (.int .u8 7)], .lst 3 3 [.v (.int .i64 1), .v (.int .i64 1), .v (.int .i64 1), .v (.int .i64 3), .v (.int .i64 1), .v (.int .i64 1), .v (.int .i64 4), .v (.int .i64 1), .v (.int .i64 1)]]], .int .i64 0),
  ([.agg [.v (.int .i64 9), .v (.int .i64 2), .v (.string ⟨#[104]⟩), .v (.int .i64 2), .v (.int .i64 0), .v (.slice none 0 0), .v (.slice none 0 0)]], .int .i64 0),
  ([.agg [.v (.int .i64 9), .v (.int .i64 1), .v (.string ⟨#[102]⟩), .v (.int .i64 3), .v (.int .i64 0), .v (.slice none 0 0), .lst 3 3 [.v (.int .i64 1), .v (.int .i64 1), .v (.int .i64 1), .v (.int .i64 3), .v (.int .i64 1), .v (.int .i64 1), .v (.int .i64 4), .v (.int .i64 1), .v (.int .i64 1)]]], .int .i64 0),
  ([.agg [.v (.int .i64 9), .v (.int .i64 1), .v (.string ⟨#[102]⟩), .v (.int .i64 2), .v (.int .i64 0), .v (.slice none 0 0), .lst 3 3 [.v (.int .i64 1), .v (.int .i64 1), .v (.int .i64 1), .v (.int .i64 3), .v (.int .i64 1), .v (.int .i64 1), .v (.int .i64 4), .v (.int .i64 1), .v (.int .i64 1)]]], .int .i64 0),
  ([.agg [.v (.int .i64 9), .v (.int .i64 1), .v (.string ⟨#[102]⟩), .v (.int .i64 2), .v (.int .i64 493), .v (.slice none 0 0), .lst 3 3 [.v (.int .i64 1), .v (.int .i64 1), .v (.int .i64 1), .v (.int .i64 3), .v (.int .i64 1), .v (.int .i64 1), .v (.int .i64 4), .v (.int .i64 1), .v (.int .i64 1)]]], .int .i64 0),
  ([.agg [.v (.int .i64 9), .v (.int .i64 1), .v (.string ⟨#[102, 47, 103]⟩), .v (.int .i64 3), .v (.int .i64 0), .v (.slice none 0 0), .lst 3 3 [.v (.int .i64 1), .v (.int .i64 1), .v (.int .i64 1), .v (.int .i64 3), .v (.int .i64 1), .v (.int .i64 1), .v (.int .i64 4), .v (.int .i64 1), .v (.int .i64 1)]]], .int .i64 0)]
theorem e19 : Ents Tryz.prog 3 19 t19 := .cons p19_0 rfl <| .cons p19_1 rfl <| .cons p19_2 rfl <| .cons p19_3 rfl <| .cons p19_4 rfl <| .cons p19_5 rfl <| .cons p19_6 rfl <| .cons p19_7 rfl <| .cons p19_8 rfl <| .nil
noncomputable def env6 : Env := env5.memo (tab1 19 t19)
theorem sure6 : Sure env6 Tryz.prog := sure5.memo e19

/-- tributary/shelf.Check -/
theorem p31_0 : PureE Tryz.prog 3 31 [.lst 7 2 [.v (.int .i64 1), .v (.int .i64 1), .v (.string ⟨#[102]⟩), .v (.int .i64 1), .v (.int .i64 0), .lst 1 1 [.v (.int .u8 7)], .v (.slice none 0 0), .v (.int .i64 3), .v (.int .i64 1), .v (.string ⟨#[102]⟩), .v (.int .i64 2), .v (.int .i64 0), .v (.slice none 0 0), .v (.slice none 0 0)]] (.int .i64 0) := sure6.pure 1000000 1000 (by kernel_rfl)
/-- tributary/shelf.Check -/
theorem p31_1 : PureE Tryz.prog 3 31 [.lst 7 1 [.v (.int .i64 4), .v (.int .i64 1), .v (.string ⟨#[102, 47, 103]⟩), .v (.int .i64 1), .v (.int .i64 0), .v (.slice none 0 0), .v (.slice none 0 0)]] (.int .i64 0) := sure6.pure 1000000 1000 (by kernel_rfl)
/-- tributary/shelf.Check -/
theorem p31_2 : PureE Tryz.prog 3 31 [.lst 7 0 []] (.int .i64 0) := sure6.pure 1000000 1000 (by kernel_rfl)
noncomputable def t31 : List (List DV × Value) := [([.lst 7 2 [.v (.int .i64 1), .v (.int .i64 1), .v (.string ⟨#[102]⟩), .v (.int .i64 1), .v (.int .i64 0), .lst 1 1 [.v (.int .u8 7)], .v (.slice none 0 0), .v (.int .i64 3), .v (.int .i64 1), .v (.string ⟨#[102]⟩), .v (.int .i64 2), .v (.int .i64 0), .v (.slice none 0 0), .v (.slice none 0 0)]], .int .i64 0),
  ([.lst 7 1 [.v (.int .i64 4), .v (.int .i64 1), .v (.string ⟨#[102, 47, 103]⟩), .v (.int .i64 1), .v (.int .i64 0), .v (.slice none 0 0), .v (.slice none 0 0)]], .int .i64 0),
  ([.lst 7 0 []], .int .i64 0)]
theorem e31 : Ents Tryz.prog 3 31 t31 := .cons p31_0 rfl <| .cons p31_1 rfl <| .cons p31_2 rfl <| .nil
noncomputable def env7 : Env := env6.memo (tab1 31 t31)
theorem sure7 : Sure env7 Tryz.prog := sure6.memo e31

/-- tributary/store.Check -/
theorem p12_0 : PureE Tryz.prog 3 12 [.lst 7 3 [.v (.int .i64 1), .v (.int .i64 1), .v (.string ⟨#[102]⟩), .v (.int .i64 1), .v (.int .i64 0), .lst 1 1 [.v (.int .u8 7)], .v (.slice none 0 0), .v (.int .i64 3), .v (.int .i64 1), .v (.string ⟨#[102]⟩), .v (.int .i64 2), .v (.int .i64 0), .v (.slice none 0 0), .v (.slice none 0 0), .v (.int .i64 4), .v (.int .i64 1), .v (.string ⟨#[102, 47, 103]⟩), .v (.int .i64 1), .v (.int .i64 0), .v (.slice none 0 0), .v (.slice none 0 0)]] (.int .i64 0) := sure7.pure 1000000 1000 (by kernel_rfl)
noncomputable def t12 : List (List DV × Value) := [([.lst 7 3 [.v (.int .i64 1), .v (.int .i64 1), .v (.string ⟨#[102]⟩), .v (.int .i64 1), .v (.int .i64 0), .lst 1 1 [.v (.int .u8 7)], .v (.slice none 0 0), .v (.int .i64 3), .v (.int .i64 1), .v (.string ⟨#[102]⟩), .v (.int .i64 2), .v (.int .i64 0), .v (.slice none 0 0), .v (.slice none 0 0), .v (.int .i64 4), .v (.int .i64 1), .v (.string ⟨#[102, 47, 103]⟩), .v (.int .i64 1), .v (.int .i64 0), .v (.slice none 0 0), .v (.slice none 0 0)]], .int .i64 0)]
theorem e12 : Ents Tryz.prog 3 12 t12 := .cons p12_0 rfl <| .nil
noncomputable def env8 : Env := env7.memo (tab1 12 t12)
theorem sure8 : Sure env8 Tryz.prog := sure7.memo e12

/-- tributary/path.Under -/
theorem p22_0 : PureE Tryz.prog 3 22 [.v (.string ⟨#[102]⟩), .v (.string ⟨#[102, 47, 103]⟩)] (.bool true) := sure8.pure 1000000 1000 (by kernel_rfl)
/-- tributary/path.Under -/
theorem p22_1 : PureE Tryz.prog 3 22 [.v (.string ⟨#[102, 47, 103]⟩), .v (.string ⟨#[102]⟩)] (.bool false) := sure8.pure 1000000 1000 (by kernel_rfl)
/-- tributary/path.Under -/
theorem p22_2 : PureE Tryz.prog 3 22 [.v (.string ⟨#[104]⟩), .v (.string ⟨#[102]⟩)] (.bool false) := sure8.pure 1000000 1000 (by kernel_rfl)
/-- tributary/path.Under -/
theorem p22_3 : PureE Tryz.prog 3 22 [.v (.string ⟨#[102]⟩), .v (.string ⟨#[104]⟩)] (.bool false) := sure8.pure 1000000 1000 (by kernel_rfl)
/-- tributary/path.Under -/
theorem p22_4 : PureE Tryz.prog 3 22 [.v (.string ⟨#[102, 47, 103]⟩), .v (.string ⟨#[104]⟩)] (.bool false) := sure8.pure 1000000 1000 (by kernel_rfl)
/-- tributary/path.Under -/
theorem p22_5 : PureE Tryz.prog 3 22 [.v (.string ⟨#[104]⟩), .v (.string ⟨#[102, 47, 103]⟩)] (.bool false) := sure8.pure 1000000 1000 (by kernel_rfl)
/-- tributary/path.Under -/
theorem p22_6 : PureE Tryz.prog 3 22 [.v (.string ⟨#[102, 47, 104]⟩), .v (.string ⟨#[102]⟩)] (.bool false) := sure8.pure 1000000 1000 (by kernel_rfl)
/-- tributary/path.Under -/
theorem p22_7 : PureE Tryz.prog 3 22 [.v (.string ⟨#[102]⟩), .v (.string ⟨#[102, 47, 104]⟩)] (.bool true) := sure8.pure 1000000 1000 (by kernel_rfl)
/-- tributary/path.Under -/
theorem p22_8 : PureE Tryz.prog 3 22 [.v (.string ⟨#[120, 47, 121]⟩), .v (.string ⟨#[102]⟩)] (.bool false) := sure8.pure 1000000 1000 (by kernel_rfl)
/-- tributary/path.Under -/
theorem p22_9 : PureE Tryz.prog 3 22 [.v (.string ⟨#[102]⟩), .v (.string ⟨#[120, 47, 121]⟩)] (.bool false) := sure8.pure 1000000 1000 (by kernel_rfl)
noncomputable def t22 : List (List DV × Value) := [([.v (.string ⟨#[102]⟩), .v (.string ⟨#[102, 47, 103]⟩)], .bool true),
  ([.v (.string ⟨#[102, 47, 103]⟩), .v (.string ⟨#[102]⟩)], .bool false),
  ([.v (.string ⟨#[104]⟩), .v (.string ⟨#[102]⟩)], .bool false),
  ([.v (.string ⟨#[102]⟩), .v (.string ⟨#[104]⟩)], .bool false),
  ([.v (.string ⟨#[102, 47, 103]⟩), .v (.string ⟨#[104]⟩)], .bool false),
  ([.v (.string ⟨#[104]⟩), .v (.string ⟨#[102, 47, 103]⟩)], .bool false),
  ([.v (.string ⟨#[102, 47, 104]⟩), .v (.string ⟨#[102]⟩)], .bool false),
  ([.v (.string ⟨#[102]⟩), .v (.string ⟨#[102, 47, 104]⟩)], .bool true),
  ([.v (.string ⟨#[120, 47, 121]⟩), .v (.string ⟨#[102]⟩)], .bool false),
  ([.v (.string ⟨#[102]⟩), .v (.string ⟨#[120, 47, 121]⟩)], .bool false)]
theorem e22 : Ents Tryz.prog 3 22 t22 := .cons p22_0 rfl <| .cons p22_1 rfl <| .cons p22_2 rfl <| .cons p22_3 rfl <| .cons p22_4 rfl <| .cons p22_5 rfl <| .cons p22_6 rfl <| .cons p22_7 rfl <| .cons p22_8 rfl <| .cons p22_9 rfl <| .nil
noncomputable def env9 : Env := env8.memo (tab1 22 t22)
theorem sure9 : Sure env9 Tryz.prog := sure8.memo e22

/-- tributary/clash.Clash -/
theorem p45_0 : PureE Tryz.prog 3 45 [.agg [.v (.int .i64 3), .v (.int .i64 1), .v (.string ⟨#[102]⟩), .v (.int .i64 2), .v (.int .i64 0), .v (.slice none 0 0), .v (.slice none 0 0)], .agg [.v (.int .i64 4), .v (.int .i64 1), .v (.string ⟨#[102, 47, 103]⟩), .v (.int .i64 1), .v (.int .i64 0), .v (.slice none 0 0), .v (.slice none 0 0)]] (.bool false) := sure9.pure 1000000 1000 (by kernel_rfl)
/-- tributary/clash.Clash -/
theorem p45_1 : PureE Tryz.prog 3 45 [.agg [.v (.int .i64 1), .v (.int .i64 1), .v (.string ⟨#[102]⟩), .v (.int .i64 1), .v (.int .i64 0), .lst 1 1 [.v (.int .u8 7)], .v (.slice none 0 0)], .agg [.v (.int .i64 3), .v (.int .i64 1), .v (.string ⟨#[102]⟩), .v (.int .i64 2), .v (.int .i64 0), .v (.slice none 0 0), .v (.slice none 0 0)]] (.bool true) := sure9.pure 1000000 1000 (by kernel_rfl)
/-- tributary/clash.Clash -/
theorem p45_2 : PureE Tryz.prog 3 45 [.agg [.v (.int .i64 1), .v (.int .i64 1), .v (.string ⟨#[102]⟩), .v (.int .i64 1), .v (.int .i64 0), .lst 1 1 [.v (.int .u8 7)], .v (.slice none 0 0)], .agg [.v (.int .i64 4), .v (.int .i64 1), .v (.string ⟨#[102, 47, 103]⟩), .v (.int .i64 1), .v (.int .i64 0), .v (.slice none 0 0), .v (.slice none 0 0)]] (.bool true) := sure9.pure 1000000 1000 (by kernel_rfl)
noncomputable def t45 : List (List DV × Value) := [([.agg [.v (.int .i64 3), .v (.int .i64 1), .v (.string ⟨#[102]⟩), .v (.int .i64 2), .v (.int .i64 0), .v (.slice none 0 0), .v (.slice none 0 0)], .agg [.v (.int .i64 4), .v (.int .i64 1), .v (.string ⟨#[102, 47, 103]⟩), .v (.int .i64 1), .v (.int .i64 0), .v (.slice none 0 0), .v (.slice none 0 0)]], .bool false),
  ([.agg [.v (.int .i64 1), .v (.int .i64 1), .v (.string ⟨#[102]⟩), .v (.int .i64 1), .v (.int .i64 0), .lst 1 1 [.v (.int .u8 7)], .v (.slice none 0 0)], .agg [.v (.int .i64 3), .v (.int .i64 1), .v (.string ⟨#[102]⟩), .v (.int .i64 2), .v (.int .i64 0), .v (.slice none 0 0), .v (.slice none 0 0)]], .bool true),
  ([.agg [.v (.int .i64 1), .v (.int .i64 1), .v (.string ⟨#[102]⟩), .v (.int .i64 1), .v (.int .i64 0), .lst 1 1 [.v (.int .u8 7)], .v (.slice none 0 0)], .agg [.v (.int .i64 4), .v (.int .i64 1), .v (.string ⟨#[102, 47, 103]⟩), .v (.int .i64 1), .v (.int .i64 0), .v (.slice none 0 0), .v (.slice none 0 0)]], .bool true)]
theorem e45 : Ents Tryz.prog 3 45 t45 := .cons p45_0 rfl <| .cons p45_1 rfl <| .cons p45_2 rfl <| .nil
noncomputable def env10 : Env := env9.memo (tab1 45 t45)
theorem sure10 : Sure env10 Tryz.prog := sure9.memo e45

/-- tributary/path.Near -/
theorem p23_0 : PureE Tryz.prog 3 23 [.v (.string ⟨#[104]⟩), .v (.string ⟨#[102]⟩)] (.bool false) := sure10.pure 1000000 1000 (by kernel_rfl)
/-- tributary/path.Near -/
theorem p23_1 : PureE Tryz.prog 3 23 [.v (.string ⟨#[102]⟩), .v (.string ⟨#[102]⟩)] (.bool true) := sure10.pure 1000000 1000 (by kernel_rfl)
/-- tributary/path.Near -/
theorem p23_2 : PureE Tryz.prog 3 23 [.v (.string ⟨#[102, 47, 103]⟩), .v (.string ⟨#[102]⟩)] (.bool true) := sure10.pure 1000000 1000 (by kernel_rfl)
/-- tributary/path.Near -/
theorem p23_3 : PureE Tryz.prog 3 23 [.v (.string ⟨#[102]⟩), .v (.string ⟨#[104]⟩)] (.bool false) := sure10.pure 1000000 1000 (by kernel_rfl)
/-- tributary/path.Near -/
theorem p23_4 : PureE Tryz.prog 3 23 [.v (.string ⟨#[102, 47, 103]⟩), .v (.string ⟨#[104]⟩)] (.bool false) := sure10.pure 1000000 1000 (by kernel_rfl)
/-- tributary/path.Near -/
theorem p23_5 : PureE Tryz.prog 3 23 [.v (.string ⟨#[102, 47, 104]⟩), .v (.string ⟨#[102]⟩)] (.bool true) := sure10.pure 1000000 1000 (by kernel_rfl)
/-- tributary/path.Near -/
theorem p23_6 : PureE Tryz.prog 3 23 [.v (.string ⟨#[120, 47, 121]⟩), .v (.string ⟨#[102]⟩)] (.bool false) := sure10.pure 1000000 1000 (by kernel_rfl)
/-- tributary/path.Near -/
theorem p23_7 : PureE Tryz.prog 3 23 [.v (.string ⟨#[102]⟩), .v (.string ⟨#[102, 47, 103]⟩)] (.bool true) := sure10.pure 1000000 1000 (by kernel_rfl)
/-- tributary/path.Near -/
theorem p23_8 : PureE Tryz.prog 3 23 [.v (.string ⟨#[102, 47, 103]⟩), .v (.string ⟨#[102, 47, 103]⟩)] (.bool true) := sure10.pure 1000000 1000 (by kernel_rfl)
noncomputable def t23 : List (List DV × Value) := [([.v (.string ⟨#[104]⟩), .v (.string ⟨#[102]⟩)], .bool false),
  ([.v (.string ⟨#[102]⟩), .v (.string ⟨#[102]⟩)], .bool true),
  ([.v (.string ⟨#[102, 47, 103]⟩), .v (.string ⟨#[102]⟩)], .bool true),
  ([.v (.string ⟨#[102]⟩), .v (.string ⟨#[104]⟩)], .bool false),
  ([.v (.string ⟨#[102, 47, 103]⟩), .v (.string ⟨#[104]⟩)], .bool false),
  ([.v (.string ⟨#[102, 47, 104]⟩), .v (.string ⟨#[102]⟩)], .bool true),
  ([.v (.string ⟨#[120, 47, 121]⟩), .v (.string ⟨#[102]⟩)], .bool false),
  ([.v (.string ⟨#[102]⟩), .v (.string ⟨#[102, 47, 103]⟩)], .bool true),
  ([.v (.string ⟨#[102, 47, 103]⟩), .v (.string ⟨#[102, 47, 103]⟩)], .bool true)]
theorem e23 : Ents Tryz.prog 3 23 t23 := .cons p23_0 rfl <| .cons p23_1 rfl <| .cons p23_2 rfl <| .cons p23_3 rfl <| .cons p23_4 rfl <| .cons p23_5 rfl <| .cons p23_6 rfl <| .cons p23_7 rfl <| .cons p23_8 rfl <| .nil
noncomputable def env11 : Env := env10.memo (tab1 23 t23)
theorem sure11 : Sure env11 Tryz.prog := sure10.memo e23

/-- tributary/past.Join$1 -/
theorem p100_0 : PureE Tryz.prog 3 100 [.v (.bool false), .v (.bool true)] (.bool true) := sure11.pure 1000000 1000 (by kernel_rfl)
/-- tributary/past.Join$1 -/
theorem p100_1 : PureE Tryz.prog 3 100 [.v (.bool true), .v (.bool false)] (.bool true) := sure11.pure 1000000 1000 (by kernel_rfl)
noncomputable def t100 : List (List DV × Value) := [([.v (.bool false), .v (.bool true)], .bool true),
  ([.v (.bool true), .v (.bool false)], .bool true)]
theorem e100 : Ents Tryz.prog 3 100 t100 := .cons p100_0 rfl <| .cons p100_1 rfl <| .nil
noncomputable def env12 : Env := env11.memo (tab1 100 t100)
theorem sure12 : Sure env12 Tryz.prog := sure11.memo e100

theorem ran : isTrue (run env12 1000000 1000 (.call 3 []) (mem0 3)) = true := by kernel_rfl
theorem fn : (env.fn 3).isSome = true := by kernel_rfl
theorem calls (W : World) (hW : 3 ≤ W.heap.size) :
    Calls Tryz.prog 3 #[] W fun e W' => e = .returned (.bool true) ∧ (∀ b, b < W.heap.size → W'.heap[b]? = W.heap[b]?) ∧ W.heap.size ≤ W'.heap.size ∧ W'.os = W.os ∧ W'.tape = W.tape ∧ W'.output = W.output :=
  match Option.isSome_iff_exists.1 fn with
  | ⟨_, hx⟩ => closed_calls' (E := env12) (j := 1000000) (k := 1000) sure12.ok sure12.ext sure12.keep hx (show isTrue (run env12 1000000 1000 (.call 3 []) (mem0 env.ng)) = true from env_ng.symm ▸ ran) (show env.ng ≤ _ from env_ng.symm ▸ hW)
end ResolveKnown
end Go.Proofs.YtdnghlgepoilpacGreatDoor
