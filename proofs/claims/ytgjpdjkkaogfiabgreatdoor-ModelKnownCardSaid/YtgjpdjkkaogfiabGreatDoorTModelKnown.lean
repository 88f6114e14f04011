/- ModelKnown: answers of calls that come again, and the run that uses them, by the kernel. Of closed terms; no condition. -/
import Derived.Test.YtgjpdjkkaogfiabGreatDoorEnvB
namespace Go.Proofs.YtgjpdjkkaogfiabGreatDoor
namespace ModelKnown
open Go Go.Am
set_option maxRecDepth 1000000

/-- slices.Clone[[]tributary/api.Report,tributary/api.Report] -/
theorem p20_0 : PureA Tryz.prog 3 20 [.v (.slice none 0 0)] (.lf (.slice none 0 0)) := sureB.ans 1000000 1000 (by kernel_rfl)
/-- slices.Clone[[]tributary/api.Report,tributary/api.Report] -/
theorem p20_1 : PureA Tryz.prog 3 20 [.lst 5 1 [.v (.int .i64 1), .v (.int .i64 2), .v (.int .i64 1), .v (.int .i64 3), .v (.int .i64 1)]] (.sl 5 1 [.int .i64 1, .int .i64 2, .int .i64 1, .int .i64 3, .int .i64 1]) := sureB.ans 1000000 1000 (by kernel_rfl)
noncomputable def t20 : List (List DV × Ans) := [([.v (.slice none 0 0)], .lf (.slice none 0 0)),
  ([.lst 5 1 [.v (.int .i64 1), .v (.int .i64 2), .v (.int .i64 1), .v (.int .i64 3), .v (.int .i64 1)]], .sl 5 1 [.int .i64 1, .int .i64 2, .int .i64 1, .int .i64 3, .int .i64 1])]
theorem e20 : EntsA Tryz.prog 3 20 t20 := .cons p20_0 <| .cons p20_1 <| .nil
noncomputable def env1 : Env := envB.memoA 20 t20
theorem sure1 : Sure env1 Tryz.prog := sureB.memoA e20

/-- slices.Clone[[]tributary/api.Span,tributary/api.Span] -/
theorem p22_0 : PureA Tryz.prog 3 22 [.v (.slice none 0 0)] (.lf (.slice none 0 0)) := sure1.ans 1000000 1000 (by kernel_rfl)
/-- slices.Clone[[]tributary/api.Span,tributary/api.Span] -/
theorem p22_1 : PureA Tryz.prog 3 22 [.lst 3 1 [.v (.int .i64 2), .v (.int .i64 1), .v (.int .i64 1)]] (.sl 3 1 [.int .i64 2, .int .i64 1, .int .i64 1]) := sure1.ans 1000000 1000 (by kernel_rfl)
/-- slices.Clone[[]tributary/api.Span,tributary/api.Span] -/
theorem p22_2 : PureA Tryz.prog 3 22 [.lst 3 1 [.v (.int .i64 3), .v (.int .i64 1), .v (.int .i64 1)]] (.sl 3 1 [.int .i64 3, .int .i64 1, .int .i64 1]) := sure1.ans 1000000 1000 (by kernel_rfl)
/-- slices.Clone[[]tributary/api.Span,tributary/api.Span] -/
theorem p22_3 : PureA Tryz.prog 3 22 [.lst 3 2 [.v (.int .i64 2), .v (.int .i64 1), .v (.int .i64 1), .v (.int .i64 3), .v (.int .i64 1), .v (.int .i64 1)]] (.sl 3 2 [.int .i64 2, .int .i64 1, .int .i64 1, .int .i64 3, .int .i64 1, .int .i64 1]) := sure1.ans 1000000 1000 (by kernel_rfl)
/-- slices.Clone[[]tributary/api.Span,tributary/api.Span] -/
theorem p22_4 : PureA Tryz.prog 3 22 [.lst 3 1 [.v (.int .i64 2), .v (.int .i64 2), .v (.int .i64 2)]] (.sl 3 1 [.int .i64 2, .int .i64 2, .int .i64 2]) := sure1.ans 1000000 1000 (by kernel_rfl)
/-- slices.Clone[[]tributary/api.Span,tributary/api.Span] -/
theorem p22_5 : PureA Tryz.prog 3 22 [.lst 3 1 [.v (.int .i64 2), .v (.int .i64 1), .v (.int .i64 2)]] (.sl 3 1 [.int .i64 2, .int .i64 1, .int .i64 2]) := sure1.ans 1000000 1000 (by kernel_rfl)
/-- slices.Clone[[]tributary/api.Span,tributary/api.Span] -/
theorem p22_6 : PureA Tryz.prog 3 22 [.lst 3 2 [.v (.int .i64 2), .v (.int .i64 1), .v (.int .i64 2), .v (.int .i64 3), .v (.int .i64 1), .v (.int .i64 1)]] (.sl 3 2 [.int .i64 2, .int .i64 1, .int .i64 2, .int .i64 3, .int .i64 1, .int .i64 1]) := sure1.ans 1000000 1000 (by kernel_rfl)
/-- slices.Clone[[]tributary/api.Span,tributary/api.Span] -/
theorem p22_7 : PureA Tryz.prog 3 22 [.lst 3 1 [.v (.int .i64 1), .v (.int .i64 1), .v (.int .i64 1)]] (.sl 3 1 [.int .i64 1, .int .i64 1, .int .i64 1]) := sure1.ans 1000000 1000 (by kernel_rfl)
/-- slices.Clone[[]tributary/api.Span,tributary/api.Span] -/
theorem p22_8 : PureA Tryz.prog 3 22 [.lst 3 3 [.v (.int .i64 1), .v (.int .i64 1), .v (.int .i64 1), .v (.int .i64 2), .v (.int .i64 1), .v (.int .i64 1), .v (.int .i64 3), .v (.int .i64 1), .v (.int .i64 1)]] (.sl 3 3 [.int .i64 1, .int .i64 1, .int .i64 1, .int .i64 2, .int .i64 1, .int .i64 1, .int .i64 3, .int .i64 1, .int .i64 1]) := sure1.ans 1000000 1000 (by kernel_rfl)
noncomputable def t22 : List (List DV × Ans) := [([.v (.slice none 0 0)], .lf (.slice none 0 0)),
  ([.lst 3 1 [.v (.int .i64 2), .v (.int .i64 1), .v (.int .i64 1)]], .sl 3 1 [.int .i64 2, .int .i64 1, .int .i64 1]),
  ([.lst 3 1 [.v (.int .i64 3), .v (.int .i64 1), .v (.int .i64 1)]], .sl 3 1 [.int .i64 3, .int .i64 1, .int .i64 1]),
  ([.lst 3 2 [.v (.int .i64 2), .v (.int .i64 1), .v (.int .i64 1), .v (.int .i64 3), .v (.int .i64 1), .v (.int .i64 1)]], .sl 3 2 [.int .i64 2, .int .i64 1, .int .i64 1, .int .i64 3, .int .i64 1, .int .i64 1]),
  ([.lst 3 1 [.v (.int .i64 2), .v (.int .i64 2), .v (.int .i64 2)]], .sl 3 1 [.int .i64 2, .int .i64 2, .int .i64 2]),
  ([.lst 3 1 [.v (.int .i64 2), .v (.int .i64 1), .v (.int .i64 2)]], .sl 3 1 [.int .i64 2, .int .i64 1, .int .i64 2]),
  ([.lst 3 2 [.v (.int .i64 2), .v (.int .i64 1), .v (.int .i64 2), .v (.int .i64 3), .v (.int .i64 1), .v (.int .i64 1)]], .sl 3 2 [.int .i64 2, .int .i64 1, .int .i64 2, .int .i64 3, .int .i64 1, .int .i64 1]),
  ([.lst 3 1 [.v (.int .i64 1), .v (.int .i64 1), .v (.int .i64 1)]], .sl 3 1 [.int .i64 1, .int .i64 1, .int .i64 1]),
  ([.lst 3 3 [.v (.int .i64 1), .v (.int .i64 1), .v (.int .i64 1), .v (.int .i64 2), .v (.int .i64 1), .v (.int .i64 1), .v (.int .i64 3), .v (.int .i64 1), .v (.int .i64 1)]], .sl 3 3 [.int .i64 1, .int .i64 1, .int .i64 1, .int .i64 2, .int .i64 1, .int .i64 1, .int .i64 3, .int .i64 1, .int .i64 1])]
theorem e22 : EntsA Tryz.prog 3 22 t22 := .cons p22_0 <| .cons p22_1 <| .cons p22_2 <| .cons p22_3 <| .cons p22_4 <| .cons p22_5 <| .cons p22_6 <| .cons p22_7 <| .cons p22_8 <| .nil
noncomputable def env2 : Env := env1.memoA 22 t22
theorem sure2 : Sure env2 Tryz.prog := sure1.memoA e22

/-- tributary/model.all -/
theorem p29_0 : PureE Tryz.prog 3 29 [.lst 1 2 [.v (.bool true), .v (.bool true)]] (.bool true) := sure2.pure 1000000 1000 (by kernel_rfl)
/-- tributary/model.all -/
theorem p29_1 : PureE Tryz.prog 3 29 [.lst 1 4 [.v (.bool true), .v (.bool true), .v (.bool true), .v (.bool true)]] (.bool true) := sure2.pure 1000000 1000 (by kernel_rfl)
noncomputable def t29 : List (List DV × Value) := [([.lst 1 2 [.v (.bool true), .v (.bool true)]], .bool true),
  ([.lst 1 4 [.v (.bool true), .v (.bool true), .v (.bool true), .v (.bool true)]], .bool true)]
theorem e29 : Ents Tryz.prog 3 29 t29 := .cons p29_0 rfl <| .cons p29_1 rfl <| .nil
noncomputable def env3 : Env := env2.memo (tab1 29 t29)
theorem sure3 : Sure env3 Tryz.prog := sure2.memo e29

/-- tributary/event.Closed -/
theorem p48_0 : PureE Tryz.prog 3 48 [.v (.slice none 0 0)] (.bool true) := sure3.pure 1000000 1000 (by kernel_rfl)
/-- tributary/event.Closed -/
theorem p48_1 : PureE Tryz.prog 3 48 [.lst 7 1 [.v (.int .i64 2), .v (.int .i64 1), .v (.string ⟨#[100]⟩), .v (.int .i64 2), .v (.int .i64 0), .v (.slice none 0 0), .v (.slice none 0 0)]] (.bool true) := sure3.pure 1000000 1000 (by kernel_rfl)
/-- tributary/event.Closed -/
theorem p48_2 : PureE Tryz.prog 3 48 [.lst 7 2 [.v (.int .i64 2), .v (.int .i64 1), .v (.string ⟨#[100]⟩), .v (.int .i64 2), .v (.int .i64 0), .v (.slice none 0 0), .v (.slice none 0 0), .v (.int .i64 3), .v (.int .i64 1), .v (.string ⟨#[100]⟩), .v (.int .i64 2), .v (.int .i64 0), .v (.slice none 0 0), .v (.slice none 0 0)]] (.bool true) := sure3.pure 1000000 1000 (by kernel_rfl)
/-- tributary/event.Closed -/
theorem p48_3 : PureE Tryz.prog 3 48 [.lst 7 3 [.v (.int .i64 2), .v (.int .i64 1), .v (.string ⟨#[100]⟩), .v (.int .i64 2), .v (.int .i64 0), .v (.slice none 0 0), .v (.slice none 0 0), .v (.int .i64 2), .v (.int .i64 2), .v (.string ⟨#[100, 47, 102]⟩), .v (.int .i64 1), .v (.int .i64 0), .lst 1 1 [.v (.int .u8 7)], .lst 3 1 [.v (.int .i64 2), .v (.int .i64 1), .v (.int .i64 1)], .v (.int .i64 3), .v (.int .i64 1), .v (.string ⟨#[100]⟩), .v (.int .i64 2), .v (.int .i64 0), .v (.slice none 0 0), .v (.slice none 0 0)]] (.bool true) := sure3.pure 1000000 1000 (by kernel_rfl)
/-- tributary/event.Closed -/
theorem p48_4 : PureE Tryz.prog 3 48 [.lst 7 1 [.v (.int .i64 2), .v (.int .i64 1), .v (.string ⟨#[102]⟩), .v (.int .i64 1), .v (.int .i64 0), .lst 1 1 [.v (.int .u8 7)], .v (.slice none 0 0)]] (.bool true) := sure3.pure 1000000 1000 (by kernel_rfl)
/-- tributary/event.Closed -/
theorem p48_5 : PureE Tryz.prog 3 48 [.lst 7 2 [.v (.int .i64 2), .v (.int .i64 1), .v (.string ⟨#[102]⟩), .v (.int .i64 1), .v (.int .i64 0), .lst 1 1 [.v (.int .u8 7)], .v (.slice none 0 0), .v (.int .i64 3), .v (.int .i64 1), .v (.string ⟨#[102]⟩), .v (.int .i64 1), .v (.int .i64 0), .lst 1 1 [.v (.int .u8 8)], .v (.slice none 0 0)]] (.bool true) := sure3.pure 1000000 1000 (by kernel_rfl)
/-- tributary/event.Closed -/
theorem p48_6 : PureE Tryz.prog 3 48 [.lst 7 3 [.v (.int .i64 1), .v (.int .i64 1), .v (.string ⟨#[102]⟩), .v (.int .i64 1), .v (.int .i64 0), .lst 1 1 [.v (.int .u8 9)], .lst 3 2 [.v (.int .i64 2), .v (.int .i64 1), .v (.int .i64 1), .v (.int .i64 3), .v (.int .i64 1), .v (.int .i64 1)], .v (.int .i64 2), .v (.int .i64 1), .v (.string ⟨#[102]⟩), .v (.int .i64 1), .v (.int .i64 0), .lst 1 1 [.v (.int .u8 7)], .v (.slice none 0 0), .v (.int .i64 3), .v (.int .i64 1), .v (.string ⟨#[102]⟩), .v (.int .i64 1), .v (.int .i64 0), .lst 1 1 [.v (.int .u8 8)], .v (.slice none 0 0)]] (.bool true) := sure3.pure 1000000 1000 (by kernel_rfl)
noncomputable def t48 : List (List DV × Value) := [([.v (.slice none 0 0)], .bool true),
  ([.lst 7 1 [.v (.int .i64 2), .v (.int .i64 1), .v (.string ⟨#[100]⟩), .v (.int .i64 2), .v (.int .i64 0), .v (.slice none 0 0), .v (.slice none 0 0)]], .bool true),
  ([.lst 7 2 [.v (.int .i64 2), .v (.int .i64 1), .v (.string ⟨#[100]⟩), .v (.int .i64 2), .v (.int .i64 0), .v (.slice none 0 0), .v (.slice none 0 0), .v (.int .i64 3), .v (.int .i64 1), .v (.string ⟨#[100]⟩), .v (.int .i64 2), .v (.int .i64 0), .v (.slice none 0 0), .v (.slice none 0 0)]], .bool true),
  ([.lst 7 3 [.v (.int .i64 2), .v (.int .i64 1), .v (.string ⟨#[100]⟩), .v (.int .i64 2), .v (.int .i64 0), .v (.slice none 0 0), .v (.slice none 0 0), .v (.int .i64 2), .v (.int .i64 2), .v (.string ⟨#[100, 47, 102]⟩), .v (.int .i64 1), .v (.int .i64 0), .lst 1 1 [.v (.int .u8 7)], .lst 3 1 [.v (.int .i64 2), .v (.int .i64 1), .v (.int .i64 1)], .v (.int .i64 3), .v (.int .i64 1), .v (.string ⟨#[100]⟩), .v (.int .i64 2), .v (.int .i64 0), .v (.slice none 0 0), .v (.slice none 0 0)]], .bool true),
  ([.lst 7 1 [.v (.int .i64 2), .v (.int .i64 1), .v (.string ⟨#[102]⟩), .v (.int .i64 1), .v (.int .i64 0), .lst 1 1 [.v (.int .u8 7)], .v (.slice none 0 0)]], .bool true),
  ([.lst 7 2 [.v (.int .i64 2), .v (.int .i64 1), .v (.string ⟨#[102]⟩), .v (.int .i64 1), .v (.int .i64 0), .lst 1 1 [.v (.int .u8 7)], .v (.slice none 0 0), .v (.int .i64 3), .v (.int .i64 1), .v (.string ⟨#[102]⟩), .v (.int .i64 1), .v (.int .i64 0), .lst 1 1 [.v (.int .u8 8)], .v (.slice none 0 0)]], .bool true),
  ([.lst 7 3 [.v (.int .i64 1), .v (.int .i64 1), .v (.string ⟨#[102]⟩), .v (.int .i64 1), .v (.int .i64 0), .lst 1 1 [.v (.int .u8 9)], .lst 3 2 [.v (.int .i64 2), .v (.int .i64 1), .v (.int .i64 1), .v (.int .i64 3), .v (.int .i64 1), .v (.int .i64 1)], .v (.int .i64 2), .v (.int .i64 1), .v (.string ⟨#[102]⟩), .v (.int .i64 1), .v (.int .i64 0), .lst 1 1 [.v (.int .u8 7)], .v (.slice none 0 0), .v (.int .i64 3), .v (.int .i64 1), .v (.string ⟨#[102]⟩), .v (.int .i64 1), .v (.int .i64 0), .lst 1 1 [.v (.int .u8 8)], .v (.slice none 0 0)]], .bool true)]
theorem e48 : Ents Tryz.prog 3 48 t48 := .cons p48_0 rfl <| .cons p48_1 rfl <| .cons p48_2 rfl <| .cons p48_3 rfl <| .cons p48_4 rfl <| .cons p48_5 rfl <| .cons p48_6 rfl <| .nil
noncomputable def env4 : Env := env3.memo (tab1 48 t48)
theorem sure4 : Sure env4 Tryz.prog := sure3.memo e48

/-- tributary/dot.Sort -/
theorem p102_0 : PureA Tryz.prog 3 102 [.v (.slice none 0 0)] (.lf (.slice none 0 0)) := sure4.ans 1000000 1000 (by kernel_rfl)
/-- tributary/dot.Sort -/
theorem p102_1 : PureA Tryz.prog 3 102 [.lst 2 1 [.v (.int .i64 2), .v (.int .i64 1)]] (.sl 2 1 [.int .i64 2, .int .i64 1]) := sure4.ans 1000000 1000 (by kernel_rfl)
/-- tributary/dot.Sort -/
theorem p102_2 : PureA Tryz.prog 3 102 [.lst 2 2 [.v (.int .i64 2), .v (.int .i64 1), .v (.int .i64 3), .v (.int .i64 1)]] (.sl 2 2 [.int .i64 2, .int .i64 1, .int .i64 3, .int .i64 1]) := sure4.ans 1000000 1000 (by kernel_rfl)
/-- tributary/dot.Sort -/
theorem p102_3 : PureA Tryz.prog 3 102 [.lst 2 3 [.v (.int .i64 2), .v (.int .i64 1), .v (.int .i64 2), .v (.int .i64 2), .v (.int .i64 3), .v (.int .i64 1)]] (.sl 2 3 [.int .i64 2, .int .i64 1, .int .i64 2, .int .i64 2, .int .i64 3, .int .i64 1]) := sure4.ans 1000000 1000 (by kernel_rfl)
/-- tributary/dot.Sort -/
theorem p102_4 : PureA Tryz.prog 3 102 [.lst 2 3 [.v (.int .i64 1), .v (.int .i64 1), .v (.int .i64 2), .v (.int .i64 1), .v (.int .i64 3), .v (.int .i64 1)]] (.sl 2 3 [.int .i64 1, .int .i64 1, .int .i64 2, .int .i64 1, .int .i64 3, .int .i64 1]) := sure4.ans 1000000 1000 (by kernel_rfl)
noncomputable def t102 : List (List DV × Ans) := [([.v (.slice none 0 0)], .lf (.slice none 0 0)),
  ([.lst 2 1 [.v (.int .i64 2), .v (.int .i64 1)]], .sl 2 1 [.int .i64 2, .int .i64 1]),
  ([.lst 2 2 [.v (.int .i64 2), .v (.int .i64 1), .v (.int .i64 3), .v (.int .i64 1)]], .sl 2 2 [.int .i64 2, .int .i64 1, .int .i64 3, .int .i64 1]),
  ([.lst 2 3 [.v (.int .i64 2), .v (.int .i64 1), .v (.int .i64 2), .v (.int .i64 2), .v (.int .i64 3), .v (.int .i64 1)]], .sl 2 3 [.int .i64 2, .int .i64 1, .int .i64 2, .int .i64 2, .int .i64 3, .int .i64 1]),
  ([.lst 2 3 [.v (.int .i64 1), .v (.int .i64 1), .v (.int .i64 2), .v (.int .i64 1), .v (.int .i64 3), .v (.int .i64 1)]], .sl 2 3 [.int .i64 1, .int .i64 1, .int .i64 2, .int .i64 1, .int .i64 3, .int .i64 1])]
theorem e102 : EntsA Tryz.prog 3 102 t102 := .cons p102_0 <| .cons p102_1 <| .cons p102_2 <| .cons p102_3 <| .cons p102_4 <| .nil
noncomputable def env5 : Env := env4.memoA 102 t102
theorem sure5 : Sure env5 Tryz.prog := sure4.memoA e102

/-- tributary/past.Of -/
theorem p64_0 : PureA Tryz.prog 3 64 [.v (.slice none 0 0)] (.tl [.slice none 0 0, .int .i64 0]) := sure5.ans 1000000 1000 (by kernel_rfl)
/-- tributary/past.Of -/
theorem p64_1 : PureA Tryz.prog 3 64 [.lst 2 1 [.v (.int .i64 2), .v (.int .i64 1)]] (.ts 3 1 [.int .i64 2, .int .i64 1, .int .i64 1] [.int .i64 0]) := sure5.ans 1000000 1000 (by kernel_rfl)
/-- tributary/past.Of -/
theorem p64_2 : PureA Tryz.prog 3 64 [.lst 2 2 [.v (.int .i64 2), .v (.int .i64 1), .v (.int .i64 3), .v (.int .i64 1)]] (.ts 3 2 [.int .i64 2, .int .i64 1, .int .i64 1, .int .i64 3, .int .i64 1, .int .i64 1] [.int .i64 0]) := sure5.ans 1000000 1000 (by kernel_rfl)
/-- tributary/past.Of -/
theorem p64_3 : PureA Tryz.prog 3 64 [.lst 2 3 [.v (.int .i64 2), .v (.int .i64 1), .v (.int .i64 2), .v (.int .i64 2), .v (.int .i64 3), .v (.int .i64 1)]] (.ts 3 2 [.int .i64 2, .int .i64 1, .int .i64 2, .int .i64 3, .int .i64 1, .int .i64 1] [.int .i64 0]) := sure5.ans 1000000 1000 (by kernel_rfl)
/-- tributary/past.Of -/
theorem p64_4 : PureA Tryz.prog 3 64 [.lst 2 3 [.v (.int .i64 1), .v (.int .i64 1), .v (.int .i64 2), .v (.int .i64 1), .v (.int .i64 3), .v (.int .i64 1)]] (.ts 3 3 [.int .i64 1, .int .i64 1, .int .i64 1, .int .i64 2, .int .i64 1, .int .i64 1, .int .i64 3, .int .i64 1, .int .i64 1] [.int .i64 0]) := sure5.ans 1000000 1000 (by kernel_rfl)
noncomputable def t64 : List (List DV × Ans) := [([.v (.slice none 0 0)], .tl [.slice none 0 0, .int .i64 0]),
  ([.lst 2 1 [.v (.int .i64 2), .v (.int .i64 1)]], .ts 3 1 [.int .i64 2, .int .i64 1, .int .i64 1] [.int .i64 0]),
  ([.lst 2 2 [.v (.int .i64 2), .v (.int .i64 1), .v (.int .i64 3), .v (.int .i64 1)]], .ts 3 2 [.int .i64 2, .int .i64 1, .int .i64 1, .int .i64 3, .int .i64 1, .int .i64 1] [.int .i64 0]),
  ([.lst 2 3 [.v (.int .i64 2), .v (.int .i64 1), .v (.int .i64 2), .v (.int .i64 2), .v (.int .i64 3), .v (.int .i64 1)]], .ts 3 2 [.int .i64 2, .int .i64 1, .int .i64 2, .int .i64 3, .int .i64 1, .int .i64 1] [.int .i64 0]),
  ([.lst 2 3 [.v (.int .i64 1), .v (.int .i64 1), .v (.int .i64 2), .v (.int .i64 1), .v (.int .i64 3), .v (.int .i64 1)]], .ts 3 3 [.int .i64 1, .int .i64 1, .int .i64 1, .int .i64 2, .int .i64 1, .int .i64 1, .int .i64 3, .int .i64 1, .int .i64 1] [.int .i64 0])]
theorem e64 : EntsA Tryz.prog 3 64 t64 := .cons p64_0 <| .cons p64_1 <| .cons p64_2 <| .cons p64_3 <| .cons p64_4 <| .nil
noncomputable def env6 : Env := env5.memoA 64 t64
theorem sure6 : Sure env6 Tryz.prog := sure5.memoA e64

/-- tributary/past.Check -/
theorem p65_0 : PureE Tryz.prog 3 65 [.v (.slice none 0 0)] (.int .i64 0) := sure6.pure 1000000 1000 (by kernel_rfl)
/-- tributary/past.Check -/
theorem p65_1 : PureE Tryz.prog 3 65 [.lst 3 1 [.v (.int .i64 2), .v (.int .i64 1), .v (.int .i64 1)]] (.int .i64 0) := sure6.pure 1000000 1000 (by kernel_rfl)
/-- tributary/past.Check -/
theorem p65_2 : PureE Tryz.prog 3 65 [.lst 3 1 [.v (.int .i64 3), .v (.int .i64 1), .v (.int .i64 1)]] (.int .i64 0) := sure6.pure 1000000 1000 (by kernel_rfl)
/-- tributary/past.Check -/
theorem p65_3 : PureE Tryz.prog 3 65 [.lst 3 2 [.v (.int .i64 2), .v (.int .i64 1), .v (.int .i64 1), .v (.int .i64 3), .v (.int .i64 1), .v (.int .i64 1)]] (.int .i64 0) := sure6.pure 1000000 1000 (by kernel_rfl)
/-- tributary/past.Check -/
theorem p65_4 : PureE Tryz.prog 3 65 [.lst 3 1 [.v (.int .i64 2), .v (.int .i64 2), .v (.int .i64 2)]] (.int .i64 0) := sure6.pure 1000000 1000 (by kernel_rfl)
/-- tributary/past.Check -/
theorem p65_5 : PureE Tryz.prog 3 65 [.lst 3 1 [.v (.int .i64 2), .v (.int .i64 1), .v (.int .i64 2)]] (.int .i64 0) := sure6.pure 1000000 1000 (by kernel_rfl)
/-- tributary/past.Check -/
theorem p65_6 : PureE Tryz.prog 3 65 [.lst 3 2 [.v (.int .i64 2), .v (.int .i64 1), .v (.int .i64 2), .v (.int .i64 3), .v (.int .i64 1), .v (.int .i64 1)]] (.int .i64 0) := sure6.pure 1000000 1000 (by kernel_rfl)
/-- tributary/past.Check -/
theorem p65_7 : PureE Tryz.prog 3 65 [.lst 3 1 [.v (.int .i64 1), .v (.int .i64 1), .v (.int .i64 1)]] (.int .i64 0) := sure6.pure 1000000 1000 (by kernel_rfl)
/-- tributary/past.Check -/
theorem p65_8 : PureE Tryz.prog 3 65 [.lst 3 3 [.v (.int .i64 1), .v (.int .i64 1), .v (.int .i64 1), .v (.int .i64 2), .v (.int .i64 1), .v (.int .i64 1), .v (.int .i64 3), .v (.int .i64 1), .v (.int .i64 1)]] (.int .i64 0) := sure6.pure 1000000 1000 (by kernel_rfl)
noncomputable def t65 : List (List DV × Value) := [([.v (.slice none 0 0)], .int .i64 0),
  ([.lst 3 1 [.v (.int .i64 2), .v (.int .i64 1), .v (.int .i64 1)]], .int .i64 0),
  ([.lst 3 1 [.v (.int .i64 3), .v (.int .i64 1), .v (.int .i64 1)]], .int .i64 0),
  ([.lst 3 2 [.v (.int .i64 2), .v (.int .i64 1), .v (.int .i64 1), .v (.int .i64 3), .v (.int .i64 1), .v (.int .i64 1)]], .int .i64 0),
  ([.lst 3 1 [.v (.int .i64 2), .v (.int .i64 2), .v (.int .i64 2)]], .int .i64 0),
  ([.lst 3 1 [.v (.int .i64 2), .v (.int .i64 1), .v (.int .i64 2)]], .int .i64 0),
  ([.lst 3 2 [.v (.int .i64 2), .v (.int .i64 1), .v (.int .i64 2), .v (.int .i64 3), .v (.int .i64 1), .v (.int .i64 1)]], .int .i64 0),
  ([.lst 3 1 [.v (.int .i64 1), .v (.int .i64 1), .v (.int .i64 1)]], .int .i64 0),
  ([.lst 3 3 [.v (.int .i64 1), .v (.int .i64 1), .v (.int .i64 1), .v (.int .i64 2), .v (.int .i64 1), .v (.int .i64 1), .v (.int .i64 3), .v (.int .i64 1), .v (.int .i64 1)]], .int .i64 0)]
theorem e65 : Ents Tryz.prog 3 65 t65 := .cons p65_0 rfl <| .cons p65_1 rfl <| .cons p65_2 rfl <| .cons p65_3 rfl <| .cons p65_4 rfl <| .cons p65_5 rfl <| .cons p65_6 rfl <| .cons p65_7 rfl <| .cons p65_8 rfl <| .nil
noncomputable def env7 : Env := env6.memo (tab1 65 t65)
theorem sure7 : Sure env7 Tryz.prog := sure6.memo e65

/-- tributary/past.Within -/
theorem p49_0 : PureE Tryz.prog 3 49 [.v (.slice none 0 0), .v (.slice none 0 0)] (.bool true) := sure7.pure 1000000 1000 (by kernel_rfl)
/-- tributary/past.Within -/
theorem p49_1 : PureE Tryz.prog 3 49 [.v (.slice none 0 0), .lst 3 1 [.v (.int .i64 2), .v (.int .i64 1), .v (.int .i64 1)]] (.bool true) := sure7.pure 1000000 1000 (by kernel_rfl)
/-- tributary/past.Within -/
theorem p49_2 : PureE Tryz.prog 3 49 [.lst 3 1 [.v (.int .i64 2), .v (.int .i64 1), .v (.int .i64 1)], .lst 3 1 [.v (.int .i64 2), .v (.int .i64 1), .v (.int .i64 1)]] (.bool true) := sure7.pure 1000000 1000 (by kernel_rfl)
/-- tributary/past.Within -/
theorem p49_3 : PureE Tryz.prog 3 49 [.v (.slice none 0 0), .lst 3 2 [.v (.int .i64 2), .v (.int .i64 1), .v (.int .i64 1), .v (.int .i64 3), .v (.int .i64 1), .v (.int .i64 1)]] (.bool true) := sure7.pure 1000000 1000 (by kernel_rfl)
/-- tributary/past.Within -/
theorem p49_4 : PureE Tryz.prog 3 49 [.lst 3 1 [.v (.int .i64 2), .v (.int .i64 1), .v (.int .i64 1)], .lst 3 2 [.v (.int .i64 2), .v (.int .i64 1), .v (.int .i64 1), .v (.int .i64 3), .v (.int .i64 1), .v (.int .i64 1)]] (.bool true) := sure7.pure 1000000 1000 (by kernel_rfl)
/-- tributary/past.Within -/
theorem p49_5 : PureE Tryz.prog 3 49 [.lst 3 1 [.v (.int .i64 3), .v (.int .i64 1), .v (.int .i64 1)], .lst 3 2 [.v (.int .i64 2), .v (.int .i64 1), .v (.int .i64 1), .v (.int .i64 3), .v (.int .i64 1), .v (.int .i64 1)]] (.bool true) := sure7.pure 1000000 1000 (by kernel_rfl)
/-- tributary/past.Within -/
theorem p49_6 : PureE Tryz.prog 3 49 [.lst 3 2 [.v (.int .i64 2), .v (.int .i64 1), .v (.int .i64 1), .v (.int .i64 3), .v (.int .i64 1), .v (.int .i64 1)], .lst 3 2 [.v (.int .i64 2), .v (.int .i64 1), .v (.int .i64 1), .v (.int .i64 3), .v (.int .i64 1), .v (.int .i64 1)]] (.bool true) := sure7.pure 1000000 1000 (by kernel_rfl)
/-- tributary/past.Within -/
theorem p49_7 : PureE Tryz.prog 3 49 [.lst 3 2 [.v (.int .i64 2), .v (.int .i64 1), .v (.int .i64 1), .v (.int .i64 3), .v (.int .i64 1), .v (.int .i64 1)], .lst 3 2 [.v (.int .i64 2), .v (.int .i64 1), .v (.int .i64 2), .v (.int .i64 3), .v (.int .i64 1), .v (.int .i64 1)]] (.bool true) := sure7.pure 1000000 1000 (by kernel_rfl)
/-- tributary/past.Within -/
theorem p49_8 : PureE Tryz.prog 3 49 [.lst 3 1 [.v (.int .i64 2), .v (.int .i64 1), .v (.int .i64 2)], .lst 3 2 [.v (.int .i64 2), .v (.int .i64 1), .v (.int .i64 2), .v (.int .i64 3), .v (.int .i64 1), .v (.int .i64 1)]] (.bool true) := sure7.pure 1000000 1000 (by kernel_rfl)
/-- tributary/past.Within -/
theorem p49_9 : PureE Tryz.prog 3 49 [.lst 3 1 [.v (.int .i64 3), .v (.int .i64 1), .v (.int .i64 1)], .lst 3 2 [.v (.int .i64 2), .v (.int .i64 1), .v (.int .i64 2), .v (.int .i64 3), .v (.int .i64 1), .v (.int .i64 1)]] (.bool true) := sure7.pure 1000000 1000 (by kernel_rfl)
/-- tributary/past.Within -/
theorem p49_10 : PureE Tryz.prog 3 49 [.lst 3 2 [.v (.int .i64 2), .v (.int .i64 1), .v (.int .i64 2), .v (.int .i64 3), .v (.int .i64 1), .v (.int .i64 1)], .lst 3 2 [.v (.int .i64 2), .v (.int .i64 1), .v (.int .i64 2), .v (.int .i64 3), .v (.int .i64 1), .v (.int .i64 1)]] (.bool true) := sure7.pure 1000000 1000 (by kernel_rfl)
/-- tributary/past.Within -/
theorem p49_11 : PureE Tryz.prog 3 49 [.lst 3 2 [.v (.int .i64 2), .v (.int .i64 1), .v (.int .i64 1), .v (.int .i64 3), .v (.int .i64 1), .v (.int .i64 1)], .lst 3 1 [.v (.int .i64 3), .v (.int .i64 1), .v (.int .i64 1)]] (.bool false) := sure7.pure 1000000 1000 (by kernel_rfl)
/-- tributary/past.Within -/
theorem p49_12 : PureE Tryz.prog 3 49 [.lst 3 1 [.v (.int .i64 2), .v (.int .i64 1), .v (.int .i64 2)], .lst 3 1 [.v (.int .i64 2), .v (.int .i64 1), .v (.int .i64 2)]] (.bool true) := sure7.pure 1000000 1000 (by kernel_rfl)
/-- tributary/past.Within -/
theorem p49_13 : PureE Tryz.prog 3 49 [.lst 3 3 [.v (.int .i64 1), .v (.int .i64 1), .v (.int .i64 1), .v (.int .i64 2), .v (.int .i64 1), .v (.int .i64 1), .v (.int .i64 3), .v (.int .i64 1), .v (.int .i64 1)], .lst 3 3 [.v (.int .i64 1), .v (.int .i64 1), .v (.int .i64 1), .v (.int .i64 2), .v (.int .i64 1), .v (.int .i64 1), .v (.int .i64 3), .v (.int .i64 1), .v (.int .i64 1)]] (.bool true) := sure7.pure 1000000 1000 (by kernel_rfl)
/-- tributary/past.Within -/
theorem p49_14 : PureE Tryz.prog 3 49 [.lst 3 1 [.v (.int .i64 2), .v (.int .i64 1), .v (.int .i64 1)], .lst 3 3 [.v (.int .i64 1), .v (.int .i64 1), .v (.int .i64 1), .v (.int .i64 2), .v (.int .i64 1), .v (.int .i64 1), .v (.int .i64 3), .v (.int .i64 1), .v (.int .i64 1)]] (.bool true) := sure7.pure 1000000 1000 (by kernel_rfl)
/-- tributary/past.Within -/
theorem p49_15 : PureE Tryz.prog 3 49 [.lst 3 1 [.v (.int .i64 3), .v (.int .i64 1), .v (.int .i64 1)], .lst 3 3 [.v (.int .i64 1), .v (.int .i64 1), .v (.int .i64 1), .v (.int .i64 2), .v (.int .i64 1), .v (.int .i64 1), .v (.int .i64 3), .v (.int .i64 1), .v (.int .i64 1)]] (.bool true) := sure7.pure 1000000 1000 (by kernel_rfl)
noncomputable def t49 : List (List DV × Value) := [([.v (.slice none 0 0), .v (.slice none 0 0)], .bool true),
  ([.v (.slice none 0 0), .lst 3 1 [.v (.int .i64 2), .v (.int .i64 1), .v (.int .i64 1)]], .bool true),
  ([.lst 3 1 [.v (.int .i64 2), .v (.int .i64 1), .v (.int .i64 1)], .lst 3 1 [.v (.int .i64 2), .v (.int .i64 1), .v (.int .i64 1)]], .bool true),
  ([.v (.slice none 0 0), .lst 3 2 [.v (.int .i64 2), .v (.int .i64 1), .v (.int .i64 1), .v (.int .i64 3), .v (.int .i64 1), .v (.int .i64 1)]], .bool true),
  ([.lst 3 1 [.v (.int .i64 2), .v (.int .i64 1), .v (.int .i64 1)], .lst 3 2 [.v (.int .i64 2), .v (.int .i64 1), .v (.int .i64 1), .v (.int .i64 3), .v (.int .i64 1), .v (.int .i64 1)]], .bool true),
  ([.lst 3 1 [.v (.int .i64 3), .v (.int .i64 1), .v (.int .i64 1)], .lst 3 2 [.v (.int .i64 2), .v (.int .i64 1), .v (.int .i64 1), .v (.int .i64 3), .v (.int .i64 1), .v (.int .i64 1)]], .bool true),
  ([.lst 3 2 [.v (.int .i64 2), .v (.int .i64 1), .v (.int .i64 1), .v (.int .i64 3), .v (.int .i64 1), .v (.int .i64 1)], .lst 3 2 [.v (.int .i64 2), .v (.int .i64 1), .v (.int .i64 1), .v (.int .i64 3), .v (.int .i64 1), .v (.int .i64 1)]], .bool true),
  ([.lst 3 2 [.v (.int .i64 2), .v (.int .i64 1), .v (.int .i64 1), .v (.int .i64 3), .v (.int .i64 1), .v (.int .i64 1)], .lst 3 2 [.v (.int .i64 2), .v (.int .i64 1), .v (.int .i64 2), .v (.int .i64 3), .v (.int .i64 1), .v (.int .i64 1)]], .bool true),
  ([.lst 3 1 [.v (.int .i64 2), .v (.int .i64 1), .v (.int .i64 2)], .lst 3 2 [.v (.int .i64 2), .v (.int .i64 1), .v (.int .i64 2), .v (.int .i64 3), .v (.int .i64 1), .v (.int .i64 1)]], .bool true),
  ([.lst 3 1 [.v (.int .i64 3), .v (.int .i64 1), .v (.int .i64 1)], .lst 3 2 [.v (.int .i64 2), .v (.int .i64 1), .v (.int .i64 2), .v (.int .i64 3), .v (.int .i64 1), .v (.int .i64 1)]], .bool true),
  ([.lst 3 2 [.v (.int .i64 2), .v (.int .i64 1), .v (.int .i64 2), .v (.int .i64 3), .v (.int .i64 1), .v (.int .i64 1)], .lst 3 2 [.v (.int .i64 2), .v (.int .i64 1), .v (.int .i64 2), .v (.int .i64 3), .v (.int .i64 1), .v (.int .i64 1)]], .bool true),
  ([.lst 3 2 [.v (.int .i64 2), .v (.int .i64 1), .v (.int .i64 1), .v (.int .i64 3), .v (.int .i64 1), .v (.int .i64 1)], .lst 3 1 [.v (.int .i64 3), .v (.int .i64 1), .v (.int .i64 1)]], .bool false),
  ([.lst 3 1 [.v (.int .i64 2), .v (.int .i64 1), .v (.int .i64 2)], .lst 3 1 [.v (.int .i64 2), .v (.int .i64 1), .v (.int .i64 2)]], .bool true),
  ([.lst 3 3 [.v (.int .i64 1), .v (.int .i64 1), .v (.int .i64 1), .v (.int .i64 2), .v (.int .i64 1), .v (.int .i64 1), .v (.int .i64 3), .v (.int .i64 1), .v (.int .i64 1)], .lst 3 3 [.v (.int .i64 1), .v (.int .i64 1), .v (.int .i64 1), .v (.int .i64 2), .v (.int .i64 1), .v (.int .i64 1), .v (.int .i64 3), .v (.int .i64 1), .v (.int .i64 1)]], .bool true),
  ([.lst 3 1 [.v (.int .i64 2), .v (.int .i64 1), .v (.int .i64 1)], .lst 3 3 [.v (.int .i64 1), .v (.int .i64 1), .v (.int .i64 1), .v (.int .i64 2), .v (.int .i64 1), .v (.int .i64 1), .v (.int .i64 3), .v (.int .i64 1), .v (.int .i64 1)]], .bool true),
  ([.lst 3 1 [.v (.int .i64 3), .v (.int .i64 1), .v (.int .i64 1)], .lst 3 3 [.v (.int .i64 1), .v (.int .i64 1), .v (.int .i64 1), .v (.int .i64 2), .v (.int .i64 1), .v (.int .i64 1), .v (.int .i64 3), .v (.int .i64 1), .v (.int .i64 1)]], .bool true)]
theorem e49 : Ents Tryz.prog 3 49 t49 := .cons p49_0 rfl <| .cons p49_1 rfl <| .cons p49_2 rfl <| .cons p49_3 rfl <| .cons p49_4 rfl <| .cons p49_5 rfl <| .cons p49_6 rfl <| .cons p49_7 rfl <| .cons p49_8 rfl <| .cons p49_9 rfl <| .cons p49_10 rfl <| .cons p49_11 rfl <| .cons p49_12 rfl <| .cons p49_13 rfl <| .cons p49_14 rfl <| .cons p49_15 rfl <| .nil
noncomputable def env8 : Env := env7.memo (tab1 49 t49)
theorem sure8 : Sure env8 Tryz.prog := sure7.memo e49

/-- tributary/table.Check -/
theorem p55_0 : PureE Tryz.prog 3 55 [.v (.slice none 0 0)] (.int .i64 0) := sure8.pure 1000000 1000 (by kernel_rfl)
/-- tributary/table.Check -/
theorem p55_1 : PureE Tryz.prog 3 55 [.lst 4 1 [.v (.string ⟨#[100]⟩), .v (.int .i64 2), .v (.int .i64 0), .v (.slice none 0 0)]] (.int .i64 0) := sure8.pure 1000000 1000 (by kernel_rfl)
/-- tributary/table.Check -/
theorem p55_2 : PureE Tryz.prog 3 55 [.lst 4 2 [.v (.string ⟨#[100]⟩), .v (.int .i64 2), .v (.int .i64 0), .v (.slice none 0 0), .v (.string ⟨#[100, 47, 102]⟩), .v (.int .i64 1), .v (.int .i64 0), .lst 1 1 [.v (.int .u8 7)]]] (.int .i64 0) := sure8.pure 1000000 1000 (by kernel_rfl)
/-- tributary/table.Check -/
theorem p55_3 : PureE Tryz.prog 3 55 [.lst 4 1 [.v (.string ⟨#[102]⟩), .v (.int .i64 1), .v (.int .i64 0), .lst 1 1 [.v (.int .u8 7)]]] (.int .i64 0) := sure8.pure 1000000 1000 (by kernel_rfl)
/-- tributary/table.Check -/
theorem p55_4 : PureE Tryz.prog 3 55 [.lst 4 1 [.v (.string ⟨#[102]⟩), .v (.int .i64 1), .v (.int .i64 0), .lst 1 1 [.v (.int .u8 8)]]] (.int .i64 0) := sure8.pure 1000000 1000 (by kernel_rfl)
noncomputable def t55 : List (List DV × Value) := [([.v (.slice none 0 0)], .int .i64 0),
  ([.lst 4 1 [.v (.string ⟨#[100]⟩), .v (.int .i64 2), .v (.int .i64 0), .v (.slice none 0 0)]], .int .i64 0),
  ([.lst 4 2 [.v (.string ⟨#[100]⟩), .v (.int .i64 2), .v (.int .i64 0), .v (.slice none 0 0), .v (.string ⟨#[100, 47, 102]⟩), .v (.int .i64 1), .v (.int .i64 0), .lst 1 1 [.v (.int .u8 7)]]], .int .i64 0),
  ([.lst 4 1 [.v (.string ⟨#[102]⟩), .v (.int .i64 1), .v (.int .i64 0), .lst 1 1 [.v (.int .u8 7)]]], .int .i64 0),
  ([.lst 4 1 [.v (.string ⟨#[102]⟩), .v (.int .i64 1), .v (.int .i64 0), .lst 1 1 [.v (.int .u8 8)]]], .int .i64 0)]
theorem e55 : Ents Tryz.prog 3 55 t55 := .cons p55_0 rfl <| .cons p55_1 rfl <| .cons p55_2 rfl <| .cons p55_3 rfl <| .cons p55_4 rfl <| .nil
noncomputable def env9 : Env := env8.memo (tab1 55 t55)
theorem sure9 : Sure env9 Tryz.prog := sure8.memo e55

/-- tributary/shown.Check -/
theorem p33_0 : PureE Tryz.prog 3 33 [.v (.slice none 0 0)] (.int .i64 0) := sure9.pure 1000000 1000 (by kernel_rfl)
/-- tributary/shown.Check -/
theorem p33_1 : PureE Tryz.prog 3 33 [.lst 5 1 [.v (.string ⟨#[100]⟩), .v (.int .i64 2), .v (.int .i64 0), .v (.slice none 0 0), .lst 3 1 [.v (.int .i64 2), .v (.int .i64 1), .v (.int .i64 1)]]] (.int .i64 0) := sure9.pure 1000000 1000 (by kernel_rfl)
/-- tributary/shown.Check -/
theorem p33_2 : PureE Tryz.prog 3 33 [.lst 5 1 [.v (.string ⟨#[100]⟩), .v (.int .i64 2), .v (.int .i64 0), .v (.slice none 0 0), .lst 3 1 [.v (.int .i64 3), .v (.int .i64 1), .v (.int .i64 1)]]] (.int .i64 0) := sure9.pure 1000000 1000 (by kernel_rfl)
/-- tributary/shown.Check -/
theorem p33_3 : PureE Tryz.prog 3 33 [.lst 5 2 [.v (.string ⟨#[100]⟩), .v (.int .i64 2), .v (.int .i64 0), .v (.slice none 0 0), .lst 3 1 [.v (.int .i64 2), .v (.int .i64 1), .v (.int .i64 1)], .v (.string ⟨#[100, 47, 102]⟩), .v (.int .i64 1), .v (.int .i64 0), .lst 1 1 [.v (.int .u8 7)], .lst 3 1 [.v (.int .i64 2), .v (.int .i64 1), .v (.int .i64 2)]]] (.int .i64 0) := sure9.pure 1000000 1000 (by kernel_rfl)
/-- tributary/shown.Check -/
theorem p33_4 : PureE Tryz.prog 3 33 [.lst 5 1 [.v (.string ⟨#[100]⟩), .v (.int .i64 2), .v (.int .i64 0), .v (.slice none 0 0), .lst 3 2 [.v (.int .i64 2), .v (.int .i64 1), .v (.int .i64 1), .v (.int .i64 3), .v (.int .i64 1), .v (.int .i64 1)]]] (.int .i64 0) := sure9.pure 1000000 1000 (by kernel_rfl)
/-- tributary/shown.Check -/
theorem p33_5 : PureE Tryz.prog 3 33 [.lst 5 2 [.v (.string ⟨#[100]⟩), .v (.int .i64 2), .v (.int .i64 0), .v (.slice none 0 0), .lst 3 2 [.v (.int .i64 2), .v (.int .i64 1), .v (.int .i64 1), .v (.int .i64 3), .v (.int .i64 1), .v (.int .i64 1)], .v (.string ⟨#[100, 47, 102]⟩), .v (.int .i64 1), .v (.int .i64 0), .lst 1 1 [.v (.int .u8 7)], .lst 3 1 [.v (.int .i64 2), .v (.int .i64 1), .v (.int .i64 2)]]] (.int .i64 0) := sure9.pure 1000000 1000 (by kernel_rfl)
/-- tributary/shown.Check -/
theorem p33_6 : PureE Tryz.prog 3 33 [.lst 5 1 [.v (.string ⟨#[102]⟩), .v (.int .i64 1), .v (.int .i64 0), .lst 1 1 [.v (.int .u8 7)], .lst 3 1 [.v (.int .i64 2), .v (.int .i64 1), .v (.int .i64 1)]]] (.int .i64 0) := sure9.pure 1000000 1000 (by kernel_rfl)
/-- tributary/shown.Check -/
theorem p33_7 : PureE Tryz.prog 3 33 [.lst 5 1 [.v (.string ⟨#[102]⟩), .v (.int .i64 1), .v (.int .i64 0), .lst 1 1 [.v (.int .u8 8)], .lst 3 1 [.v (.int .i64 3), .v (.int .i64 1), .v (.int .i64 1)]]] (.int .i64 0) := sure9.pure 1000000 1000 (by kernel_rfl)
noncomputable def t33 : List (List DV × Value) := [([.v (.slice none 0 0)], .int .i64 0),
  ([.lst 5 1 [.v (.string ⟨#[100]⟩), .v (.int .i64 2), .v (.int .i64 0), .v (.slice none 0 0), .lst 3 1 [.v (.int .i64 2), .v (.int .i64 1), .v (.int .i64 1)]]], .int .i64 0),
  ([.lst 5 1 [.v (.string ⟨#[100]⟩), .v (.int .i64 2), .v (.int .i64 0), .v (.slice none 0 0), .lst 3 1 [.v (.int .i64 3), .v (.int .i64 1), .v (.int .i64 1)]]], .int .i64 0),
  ([.lst 5 2 [.v (.string ⟨#[100]⟩), .v (.int .i64 2), .v (.int .i64 0), .v (.slice none 0 0), .lst 3 1 [.v (.int .i64 2), .v (.int .i64 1), .v (.int .i64 1)], .v (.string ⟨#[100, 47, 102]⟩), .v (.int .i64 1), .v (.int .i64 0), .lst 1 1 [.v (.int .u8 7)], .lst 3 1 [.v (.int .i64 2), .v (.int .i64 1), .v (.int .i64 2)]]], .int .i64 0),
  ([.lst 5 1 [.v (.string ⟨#[100]⟩), .v (.int .i64 2), .v (.int .i64 0), .v (.slice none 0 0), .lst 3 2 [.v (.int .i64 2), .v (.int .i64 1), .v (.int .i64 1), .v (.int .i64 3), .v (.int .i64 1), .v (.int .i64 1)]]], .int .i64 0),
  ([.lst 5 2 [.v (.string ⟨#[100]⟩), .v (.int .i64 2), .v (.int .i64 0), .v (.slice none 0 0), .lst 3 2 [.v (.int .i64 2), .v (.int .i64 1), .v (.int .i64 1), .v (.int .i64 3), .v (.int .i64 1), .v (.int .i64 1)], .v (.string ⟨#[100, 47, 102]⟩), .v (.int .i64 1), .v (.int .i64 0), .lst 1 1 [.v (.int .u8 7)], .lst 3 1 [.v (.int .i64 2), .v (.int .i64 1), .v (.int .i64 2)]]], .int .i64 0),
  ([.lst 5 1 [.v (.string ⟨#[102]⟩), .v (.int .i64 1), .v (.int .i64 0), .lst 1 1 [.v (.int .u8 7)], .lst 3 1 [.v (.int .i64 2), .v (.int .i64 1), .v (.int .i64 1)]]], .int .i64 0),
  ([.lst 5 1 [.v (.string ⟨#[102]⟩), .v (.int .i64 1), .v (.int .i64 0), .lst 1 1 [.v (.int .u8 8)], .lst 3 1 [.v (.int .i64 3), .v (.int .i64 1), .v (.int .i64 1)]]], .int .i64 0)]
theorem e33 : Ents Tryz.prog 3 33 t33 := .cons p33_0 rfl <| .cons p33_1 rfl <| .cons p33_2 rfl <| .cons p33_3 rfl <| .cons p33_4 rfl <| .cons p33_5 rfl <| .cons p33_6 rfl <| .cons p33_7 rfl <| .nil
noncomputable def env10 : Env := env9.memo (tab1 33 t33)
theorem sure10 : Sure env10 Tryz.prog := sure9.memo e33

/-- tributary/ledger.Check -/
theorem p50_0 : PureE Tryz.prog 3 50 [.v (.slice none 0 0)] (.int .i64 0) := sure10.pure 1000000 1000 (by kernel_rfl)
/-- tributary/ledger.Check -/
theorem p50_1 : PureE Tryz.prog 3 50 [.lst 5 1 [.v (.int .i64 1), .v (.int .i64 2), .v (.int .i64 1), .v (.int .i64 3), .v (.int .i64 1)]] (.int .i64 0) := sure10.pure 1000000 1000 (by kernel_rfl)
noncomputable def t50 : List (List DV × Value) := [([.v (.slice none 0 0)], .int .i64 0),
  ([.lst 5 1 [.v (.int .i64 1), .v (.int .i64 2), .v (.int .i64 1), .v (.int .i64 3), .v (.int .i64 1)]], .int .i64 0)]
theorem e50 : Ents Tryz.prog 3 50 t50 := .cons p50_0 rfl <| .cons p50_1 rfl <| .nil
noncomputable def env11 : Env := env10.memo (tab1 50 t50)
theorem sure11 : Sure env11 Tryz.prog := sure10.memo e50

/-- tributary/dot.Check -/
theorem p57_0 : PureE Tryz.prog 3 57 [.agg [.v (.int .i64 2), .v (.int .i64 1)]] (.int .i64 0) := sure11.pure 1000000 1000 (by kernel_rfl)
/-- tributary/dot.Check -/
theorem p57_1 : PureE Tryz.prog 3 57 [.agg [.v (.int .i64 3), .v (.int .i64 1)]] (.int .i64 0) := sure11.pure 1000000 1000 (by kernel_rfl)
/-- tributary/dot.Check -/
theorem p57_2 : PureE Tryz.prog 3 57 [.agg [.v (.int .i64 2), .v (.int .i64 2)]] (.int .i64 0) := sure11.pure 1000000 1000 (by kernel_rfl)
/-- tributary/dot.Check -/
theorem p57_3 : PureE Tryz.prog 3 57 [.agg [.v (.int .i64 1), .v (.int .i64 1)]] (.int .i64 0) := sure11.pure 1000000 1000 (by kernel_rfl)
noncomputable def t57 : List (List DV × Value) := [([.agg [.v (.int .i64 2), .v (.int .i64 1)]], .int .i64 0),
  ([.agg [.v (.int .i64 3), .v (.int .i64 1)]], .int .i64 0),
  ([.agg [.v (.int .i64 2), .v (.int .i64 2)]], .int .i64 0),
  ([.agg [.v (.int .i64 1), .v (.int .i64 1)]], .int .i64 0)]
theorem e57 : Ents Tryz.prog 3 57 t57 := .cons p57_0 rfl <| .cons p57_1 rfl <| .cons p57_2 rfl <| .cons p57_3 rfl <| .nil
noncomputable def env12 : Env := env11.memo (tab1 57 t57)
theorem sure12 : Sure env12 Tryz.prog := sure11.memo e57

/-- tributary/path.part -/
theorem p92_0 : PureE Tryz.prog 3 92 [.v (.string ⟨#[100]⟩)] (.bool true) := sure12.pure 1000000 1000 (by kernel_rfl)
/-- tributary/path.part -/
theorem p92_1 : PureE Tryz.prog 3 92 [.v (.string ⟨#[102]⟩)] (.bool true) := sure12.pure 1000000 1000 (by kernel_rfl)
noncomputable def t92 : List (List DV × Value) := [([.v (.string ⟨#[100]⟩)], .bool true),
  ([.v (.string ⟨#[102]⟩)], .bool true)]
theorem e92 : Ents Tryz.prog 3 92 t92 := .cons p92_0 rfl <| .cons p92_1 rfl <| .nil
noncomputable def env13 : Env := env12.memo (tab1 92 t92)
theorem sure13 : Sure env13 Tryz.prog := sure12.memo e92

/-- tributary/path.Check -/
theorem p58_0 : PureE Tryz.prog 3 58 [.v (.string ⟨#[100]⟩)] (.int .i64 0) := sure13.pure 1000000 1000 (by kernel_rfl)
/-- tributary/path.Check -/
theorem p58_1 : PureE Tryz.prog 3 58 [.v (.string ⟨#[100, 47, 102]⟩)] (.int .i64 0) := sure13.pure 1000000 1000 (by kernel_rfl)
/-- tributary/path.Check -/
theorem p58_2 : PureE Tryz.prog 3 58 [.v (.string ⟨#[102]⟩)] (.int .i64 0) := sure13.pure 1000000 1000 (by kernel_rfl)
noncomputable def t58 : List (List DV × Value) := [([.v (.string ⟨#[100]⟩)], .int .i64 0),
  ([.v (.string ⟨#[100, 47, 102]⟩)], .int .i64 0),
  ([.v (.string ⟨#[102]⟩)], .int .i64 0)]
theorem e58 : Ents Tryz.prog 3 58 t58 := .cons p58_0 rfl <| .cons p58_1 rfl <| .cons p58_2 rfl <| .nil
noncomputable def env14 : Env := env13.memo (tab1 58 t58)
theorem sure14 : Sure env14 Tryz.prog := sure13.memo e58

/-- tributary/effect.Check -/
theorem p59_0 : PureE Tryz.prog 3 59 [.agg [.v (.int .i64 2), .v (.int .i64 0), .v (.slice none 0 0)]] (.int .i64 0) := sure14.pure 1000000 1000 (by kernel_rfl)
/-- tributary/effect.Check -/
theorem p59_1 : PureE Tryz.prog 3 59 [.agg [.v (.int .i64 1), .v (.int .i64 0), .lst 1 1 [.v (.int .u8 7)]]] (.int .i64 0) := sure14.pure 1000000 1000 (by kernel_rfl)
/-- tributary/effect.Check -/
theorem p59_2 : PureE Tryz.prog 3 59 [.agg [.v (.int .i64 1), .v (.int .i64 0), .lst 1 1 [.v (.int .u8 8)]]] (.int .i64 0) := sure14.pure 1000000 1000 (by kernel_rfl)
/-- tributary/effect.Check -/
theorem p59_3 : PureE Tryz.prog 3 59 [.agg [.v (.int .i64 1), .v (.int .i64 0), .lst 1 1 [.v (.int .u8 9)]]] (.int .i64 0) := sure14.pure 1000000 1000 (by kernel_rfl)
noncomputable def t59 : List (List DV × Value) := [([.agg [.v (.int .i64 2), .v (.int .i64 0), .v (.slice none 0 0)]], .int .i64 0),
  ([.agg [.v (.int .i64 1), .v (.int .i64 0), .lst 1 1 [.v (.int .u8 7)]]], .int .i64 0),
  ([.agg [.v (.int .i64 1), .v (.int .i64 0), .lst 1 1 [.v (.int .u8 8)]]], .int .i64 0),
  ([.agg [.v (.int .i64 1), .v (.int .i64 0), .lst 1 1 [.v (.int .u8 9)]]], .int .i64 0)]
theorem e59 : Ents Tryz.prog 3 59 t59 := .cons p59_0 rfl <| .cons p59_1 rfl <| .cons p59_2 rfl <| .cons p59_3 rfl <| .nil
noncomputable def env15 : Env := env14.memo (tab1 59 t59)
theorem sure15 : Sure env15 Tryz.prog := sure14.memo e59

/-- tributary/shown.Past -/
theorem p60_0 : PureA Tryz.prog 3 60 [.v (.slice none 0 0), .v (.string ⟨#[100]⟩)] (.tl [.slice none 0 0, .int .i64 0]) := sure15.ans 1000000 1000 (by kernel_rfl)
/-- tributary/shown.Past -/
theorem p60_1 : PureA Tryz.prog 3 60 [.lst 5 1 [.v (.string ⟨#[100]⟩), .v (.int .i64 2), .v (.int .i64 0), .v (.slice none 0 0), .lst 3 1 [.v (.int .i64 2), .v (.int .i64 1), .v (.int .i64 1)]], .v (.string ⟨#[100, 47, 102]⟩)] (.ts 3 1 [.int .i64 2, .int .i64 1, .int .i64 1] [.int .i64 0]) := sure15.ans 1000000 1000 (by kernel_rfl)
/-- tributary/shown.Past -/
theorem p60_2 : PureA Tryz.prog 3 60 [.v (.slice none 0 0), .v (.string ⟨#[102]⟩)] (.tl [.slice none 0 0, .int .i64 0]) := sure15.ans 1000000 1000 (by kernel_rfl)
noncomputable def t60 : List (List DV × Ans) := [([.v (.slice none 0 0), .v (.string ⟨#[100]⟩)], .tl [.slice none 0 0, .int .i64 0]),
  ([.lst 5 1 [.v (.string ⟨#[100]⟩), .v (.int .i64 2), .v (.int .i64 0), .v (.slice none 0 0), .lst 3 1 [.v (.int .i64 2), .v (.int .i64 1), .v (.int .i64 1)]], .v (.string ⟨#[100, 47, 102]⟩)], .ts 3 1 [.int .i64 2, .int .i64 1, .int .i64 1] [.int .i64 0]),
  ([.v (.slice none 0 0), .v (.string ⟨#[102]⟩)], .tl [.slice none 0 0, .int .i64 0])]
theorem e60 : EntsA Tryz.prog 3 60 t60 := .cons p60_0 <| .cons p60_1 <| .cons p60_2 <| .nil
noncomputable def env16 : Env := env15.memoA 60 t60
theorem sure16 : Sure env16 Tryz.prog := sure15.memoA e60

/-- slices.Clone[[]byte,byte] -/
theorem p21_0 : PureA Tryz.prog 3 21 [.v (.slice none 0 0)] (.lf (.slice none 0 0)) := sure16.ans 1000000 1000 (by kernel_rfl)
/-- slices.Clone[[]byte,byte] -/
theorem p21_1 : PureA Tryz.prog 3 21 [.lst 1 1 [.v (.int .u8 7)]] (.sl 1 1 [.int .u8 7]) := sure16.ans 1000000 1000 (by kernel_rfl)
/-- slices.Clone[[]byte,byte] -/
theorem p21_2 : PureA Tryz.prog 3 21 [.lst 1 1 [.v (.int .u8 8)]] (.sl 1 1 [.int .u8 8]) := sure16.ans 1000000 1000 (by kernel_rfl)
/-- slices.Clone[[]byte,byte] -/
theorem p21_3 : PureA Tryz.prog 3 21 [.lst 1 1 [.v (.int .u8 9)]] (.sl 1 1 [.int .u8 9]) := sure16.ans 1000000 1000 (by kernel_rfl)
noncomputable def t21 : List (List DV × Ans) := [([.v (.slice none 0 0)], .lf (.slice none 0 0)),
  ([.lst 1 1 [.v (.int .u8 7)]], .sl 1 1 [.int .u8 7]),
  ([.lst 1 1 [.v (.int .u8 8)]], .sl 1 1 [.int .u8 8]),
  ([.lst 1 1 [.v (.int .u8 9)]], .sl 1 1 [.int .u8 9])]
theorem e21 : EntsA Tryz.prog 3 21 t21 := .cons p21_0 <| .cons p21_1 <| .cons p21_2 <| .cons p21_3 <| .nil
noncomputable def env17 : Env := env16.memoA 21 t21
theorem sure17 : Sure env17 Tryz.prog := sure16.memoA e21

/-- tributary/event.Check -/
theorem p61_0 : PureE Tryz.prog 3 61 [.agg [.v (.int .i64 2), .v (.int .i64 1), .v (.string ⟨#[100]⟩), .v (.int .i64 2), .v (.int .i64 0), .v (.slice none 0 0), .v (.slice none 0 0)]] (.int .i64 0) := sure17.pure 1000000 1000 (by kernel_rfl)
/-- tributary/event.Check -/
theorem p61_1 : PureE Tryz.prog 3 61 [.agg [.v (.int .i64 3), .v (.int .i64 1), .v (.string ⟨#[100]⟩), .v (.int .i64 2), .v (.int .i64 0), .v (.slice none 0 0), .v (.slice none 0 0)]] (.int .i64 0) := sure17.pure 1000000 1000 (by kernel_rfl)
/-- tributary/event.Check -/
theorem p61_2 : PureE Tryz.prog 3 61 [.agg [.v (.int .i64 2), .v (.int .i64 2), .v (.string ⟨#[100, 47, 102]⟩), .v (.int .i64 1), .v (.int .i64 0), .lst 1 1 [.v (.int .u8 7)], .lst 3 1 [.v (.int .i64 2), .v (.int .i64 1), .v (.int .i64 1)]]] (.int .i64 0) := sure17.pure 1000000 1000 (by kernel_rfl)
/-- tributary/event.Check -/
theorem p61_3 : PureE Tryz.prog 3 61 [.agg [.v (.int .i64 2), .v (.int .i64 1), .v (.string ⟨#[102]⟩), .v (.int .i64 1), .v (.int .i64 0), .lst 1 1 [.v (.int .u8 7)], .v (.slice none 0 0)]] (.int .i64 0) := sure17.pure 1000000 1000 (by kernel_rfl)
/-- tributary/event.Check -/
theorem p61_4 : PureE Tryz.prog 3 61 [.agg [.v (.int .i64 3), .v (.int .i64 1), .v (.string ⟨#[102]⟩), .v (.int .i64 1), .v (.int .i64 0), .lst 1 1 [.v (.int .u8 8)], .v (.slice none 0 0)]] (.int .i64 0) := sure17.pure 1000000 1000 (by kernel_rfl)
/-- tributary/event.Check -/
theorem p61_5 : PureE Tryz.prog 3 61 [.agg [.v (.int .i64 1), .v (.int .i64 1), .v (.string ⟨#[102]⟩), .v (.int .i64 1), .v (.int .i64 0), .lst 1 1 [.v (.int .u8 9)], .lst 3 2 [.v (.int .i64 2), .v (.int .i64 1), .v (.int .i64 1), .v (.int .i64 3), .v (.int .i64 1), .v (.int .i64 1)]]] (.int .i64 0) := sure17.pure 1000000 1000 (by kernel_rfl)
noncomputable def t61 : List (List DV × Value) := [([.agg [.v (.int .i64 2), .v (.int .i64 1), .v (.string ⟨#[100]⟩), .v (.int .i64 2), .v (.int .i64 0), .v (.slice none 0 0), .v (.slice none 0 0)]], .int .i64 0),
  ([.agg [.v (.int .i64 3), .v (.int .i64 1), .v (.string ⟨#[100]⟩), .v (.int .i64 2), .v (.int .i64 0), .v (.slice none 0 0), .v (.slice none 0 0)]], .int .i64 0),
  ([.agg [.v (.int .i64 2), .v (.int .i64 2), .v (.string ⟨#[100, 47, 102]⟩), .v (.int .i64 1), .v (.int .i64 0), .lst 1 1 [.v (.int .u8 7)], .lst 3 1 [.v (.int .i64 2), .v (.int .i64 1), .v (.int .i64 1)]]], .int .i64 0),
  ([.agg [.v (.int .i64 2), .v (.int .i64 1), .v (.string ⟨#[102]⟩), .v (.int .i64 1), .v (.int .i64 0), .lst 1 1 [.v (.int .u8 7)], .v (.slice none 0 0)]], .int .i64 0),
  ([.agg [.v (.int .i64 3), .v (.int .i64 1), .v (.string ⟨#[102]⟩), .v (.int .i64 1), .v (.int .i64 0), .lst 1 1 [.v (.int .u8 8)], .v (.slice none 0 0)]], .int .i64 0),
  ([.agg [.v (.int .i64 1), .v (.int .i64 1), .v (.string ⟨#[102]⟩), .v (.int .i64 1), .v (.int .i64 0), .lst 1 1 [.v (.int .u8 9)], .lst 3 2 [.v (.int .i64 2), .v (.int .i64 1), .v (.int .i64 1), .v (.int .i64 3), .v (.int .i64 1), .v (.int .i64 1)]]], .int .i64 0)]
theorem e61 : Ents Tryz.prog 3 61 t61 := .cons p61_0 rfl <| .cons p61_1 rfl <| .cons p61_2 rfl <| .cons p61_3 rfl <| .cons p61_4 rfl <| .cons p61_5 rfl <| .nil
noncomputable def env18 : Env := env17.memo (tab1 61 t61)
theorem sure18 : Sure env18 Tryz.prog := sure17.memo e61

/-- tributary/past.Join -/
theorem p75_0 : PureA Tryz.prog 3 75 [.v (.slice none 0 0), .lst 3 1 [.v (.int .i64 2), .v (.int .i64 1), .v (.int .i64 1)]] (.ts 3 1 [.int .i64 2, .int .i64 1, .int .i64 1] [.int .i64 0]) := sure18.ans 1000000 1000 (by kernel_rfl)
/-- tributary/past.Join -/
theorem p75_1 : PureA Tryz.prog 3 75 [.v (.slice none 0 0), .lst 3 1 [.v (.int .i64 3), .v (.int .i64 1), .v (.int .i64 1)]] (.ts 3 1 [.int .i64 3, .int .i64 1, .int .i64 1] [.int .i64 0]) := sure18.ans 1000000 1000 (by kernel_rfl)
/-- tributary/past.Join -/
theorem p75_2 : PureA Tryz.prog 3 75 [.lst 3 1 [.v (.int .i64 2), .v (.int .i64 1), .v (.int .i64 1)], .lst 3 1 [.v (.int .i64 3), .v (.int .i64 1), .v (.int .i64 1)]] (.ts 3 2 [.int .i64 2, .int .i64 1, .int .i64 1, .int .i64 3, .int .i64 1, .int .i64 1] [.int .i64 0]) := sure18.ans 1000000 1000 (by kernel_rfl)
/-- tributary/past.Join -/
theorem p75_3 : PureA Tryz.prog 3 75 [.lst 3 1 [.v (.int .i64 2), .v (.int .i64 1), .v (.int .i64 1)], .lst 3 1 [.v (.int .i64 2), .v (.int .i64 2), .v (.int .i64 2)]] (.ts 3 1 [.int .i64 2, .int .i64 1, .int .i64 2] [.int .i64 0]) := sure18.ans 1000000 1000 (by kernel_rfl)
/-- tributary/past.Join -/
theorem p75_4 : PureA Tryz.prog 3 75 [.lst 3 1 [.v (.int .i64 3), .v (.int .i64 1), .v (.int .i64 1)], .lst 3 1 [.v (.int .i64 2), .v (.int .i64 1), .v (.int .i64 1)]] (.ts 3 2 [.int .i64 2, .int .i64 1, .int .i64 1, .int .i64 3, .int .i64 1, .int .i64 1] [.int .i64 0]) := sure18.ans 1000000 1000 (by kernel_rfl)
/-- tributary/past.Join -/
theorem p75_5 : PureA Tryz.prog 3 75 [.lst 3 2 [.v (.int .i64 2), .v (.int .i64 1), .v (.int .i64 1), .v (.int .i64 3), .v (.int .i64 1), .v (.int .i64 1)], .lst 3 1 [.v (.int .i64 2), .v (.int .i64 2), .v (.int .i64 2)]] (.ts 3 2 [.int .i64 2, .int .i64 1, .int .i64 2, .int .i64 3, .int .i64 1, .int .i64 1] [.int .i64 0]) := sure18.ans 1000000 1000 (by kernel_rfl)
/-- tributary/past.Join -/
theorem p75_6 : PureA Tryz.prog 3 75 [.v (.slice none 0 0), .v (.slice none 0 0)] (.tl [.slice none 0 0, .int .i64 0]) := sure18.ans 1000000 1000 (by kernel_rfl)
/-- tributary/past.Join -/
theorem p75_7 : PureA Tryz.prog 3 75 [.lst 3 1 [.v (.int .i64 2), .v (.int .i64 1), .v (.int .i64 1)], .v (.slice none 0 0)] (.ts 3 1 [.int .i64 2, .int .i64 1, .int .i64 1] [.int .i64 0]) := sure18.ans 1000000 1000 (by kernel_rfl)
/-- tributary/past.Join -/
theorem p75_8 : PureA Tryz.prog 3 75 [.lst 3 2 [.v (.int .i64 2), .v (.int .i64 1), .v (.int .i64 1), .v (.int .i64 3), .v (.int .i64 1), .v (.int .i64 1)], .lst 3 1 [.v (.int .i64 3), .v (.int .i64 1), .v (.int .i64 1)]] (.ts 3 2 [.int .i64 2, .int .i64 1, .int .i64 1, .int .i64 3, .int .i64 1, .int .i64 1] [.int .i64 0]) := sure18.ans 1000000 1000 (by kernel_rfl)
/-- tributary/past.Join -/
theorem p75_9 : PureA Tryz.prog 3 75 [.lst 3 1 [.v (.int .i64 2), .v (.int .i64 1), .v (.int .i64 2)], .v (.slice none 0 0)] (.ts 3 1 [.int .i64 2, .int .i64 1, .int .i64 2] [.int .i64 0]) := sure18.ans 1000000 1000 (by kernel_rfl)
/-- tributary/past.Join -/
theorem p75_10 : PureA Tryz.prog 3 75 [.lst 3 2 [.v (.int .i64 2), .v (.int .i64 1), .v (.int .i64 1), .v (.int .i64 3), .v (.int .i64 1), .v (.int .i64 1)], .lst 3 1 [.v (.int .i64 1), .v (.int .i64 1), .v (.int .i64 1)]] (.ts 3 3 [.int .i64 1, .int .i64 1, .int .i64 1, .int .i64 2, .int .i64 1, .int .i64 1, .int .i64 3, .int .i64 1, .int .i64 1] [.int .i64 0]) := sure18.ans 1000000 1000 (by kernel_rfl)
noncomputable def t75 : List (List DV × Ans) := [([.v (.slice none 0 0), .lst 3 1 [.v (.int .i64 2), .v (.int .i64 1), .v (.int .i64 1)]], .ts 3 1 [.int .i64 2, .int .i64 1, .int .i64 1] [.int .i64 0]),
  ([.v (.slice none 0 0), .lst 3 1 [.v (.int .i64 3), .v (.int .i64 1), .v (.int .i64 1)]], .ts 3 1 [.int .i64 3, .int .i64 1, .int .i64 1] [.int .i64 0]),
  ([.lst 3 1 [.v (.int .i64 2), .v (.int .i64 1), .v (.int .i64 1)], .lst 3 1 [.v (.int .i64 3), .v (.int .i64 1), .v (.int .i64 1)]], .ts 3 2 [.int .i64 2, .int .i64 1, .int .i64 1, .int .i64 3, .int .i64 1, .int .i64 1] [.int .i64 0]),
  ([.lst 3 1 [.v (.int .i64 2), .v (.int .i64 1), .v (.int .i64 1)], .lst 3 1 [.v (.int .i64 2), .v (.int .i64 2), .v (.int .i64 2)]], .ts 3 1 [.int .i64 2, .int .i64 1, .int .i64 2] [.int .i64 0]),
  ([.lst 3 1 [.v (.int .i64 3), .v (.int .i64 1), .v (.int .i64 1)], .lst 3 1 [.v (.int .i64 2), .v (.int .i64 1), .v (.int .i64 1)]], .ts 3 2 [.int .i64 2, .int .i64 1, .int .i64 1, .int .i64 3, .int .i64 1, .int .i64 1] [.int .i64 0]),
  ([.lst 3 2 [.v (.int .i64 2), .v (.int .i64 1), .v (.int .i64 1), .v (.int .i64 3), .v (.int .i64 1), .v (.int .i64 1)], .lst 3 1 [.v (.int .i64 2), .v (.int .i64 2), .v (.int .i64 2)]], .ts 3 2 [.int .i64 2, .int .i64 1, .int .i64 2, .int .i64 3, .int .i64 1, .int .i64 1] [.int .i64 0]),
  ([.v (.slice none 0 0), .v (.slice none 0 0)], .tl [.slice none 0 0, .int .i64 0]),
  ([.lst 3 1 [.v (.int .i64 2), .v (.int .i64 1), .v (.int .i64 1)], .v (.slice none 0 0)], .ts 3 1 [.int .i64 2, .int .i64 1, .int .i64 1] [.int .i64 0]),
  ([.lst 3 2 [.v (.int .i64 2), .v (.int .i64 1), .v (.int .i64 1), .v (.int .i64 3), .v (.int .i64 1), .v (.int .i64 1)], .lst 3 1 [.v (.int .i64 3), .v (.int .i64 1), .v (.int .i64 1)]], .ts 3 2 [.int .i64 2, .int .i64 1, .int .i64 1, .int .i64 3, .int .i64 1, .int .i64 1] [.int .i64 0]),
  ([.lst 3 1 [.v (.int .i64 2), .v (.int .i64 1), .v (.int .i64 2)], .v (.slice none 0 0)], .ts 3 1 [.int .i64 2, .int .i64 1, .int .i64 2] [.int .i64 0]),
  ([.lst 3 2 [.v (.int .i64 2), .v (.int .i64 1), .v (.int .i64 1), .v (.int .i64 3), .v (.int .i64 1), .v (.int .i64 1)], .lst 3 1 [.v (.int .i64 1), .v (.int .i64 1), .v (.int .i64 1)]], .ts 3 3 [.int .i64 1, .int .i64 1, .int .i64 1, .int .i64 2, .int .i64 1, .int .i64 1, .int .i64 3, .int .i64 1, .int .i64 1] [.int .i64 0])]
theorem e75 : EntsA Tryz.prog 3 75 t75 := .cons p75_0 <| .cons p75_1 <| .cons p75_2 <| .cons p75_3 <| .cons p75_4 <| .cons p75_5 <| .cons p75_6 <| .cons p75_7 <| .cons p75_8 <| .cons p75_9 <| .cons p75_10 <| .nil
noncomputable def env19 : Env := env18.memoA 75 t75
theorem sure19 : Sure env19 Tryz.prog := sure18.memoA e75

/-- tributary/past.Add -/
theorem p62_0 : PureA Tryz.prog 3 62 [.v (.slice none 0 0), .agg [.v (.int .i64 2), .v (.int .i64 1)]] (.ts 3 1 [.int .i64 2, .int .i64 1, .int .i64 1] [.int .i64 0]) := sure19.ans 1000000 1000 (by kernel_rfl)
/-- tributary/past.Add -/
theorem p62_1 : PureA Tryz.prog 3 62 [.v (.slice none 0 0), .agg [.v (.int .i64 3), .v (.int .i64 1)]] (.ts 3 1 [.int .i64 3, .int .i64 1, .int .i64 1] [.int .i64 0]) := sure19.ans 1000000 1000 (by kernel_rfl)
/-- tributary/past.Add -/
theorem p62_2 : PureA Tryz.prog 3 62 [.lst 3 1 [.v (.int .i64 2), .v (.int .i64 1), .v (.int .i64 1)], .agg [.v (.int .i64 3), .v (.int .i64 1)]] (.ts 3 2 [.int .i64 2, .int .i64 1, .int .i64 1, .int .i64 3, .int .i64 1, .int .i64 1] [.int .i64 0]) := sure19.ans 1000000 1000 (by kernel_rfl)
/-- tributary/past.Add -/
theorem p62_3 : PureA Tryz.prog 3 62 [.lst 3 1 [.v (.int .i64 2), .v (.int .i64 1), .v (.int .i64 1)], .agg [.v (.int .i64 2), .v (.int .i64 2)]] (.ts 3 1 [.int .i64 2, .int .i64 1, .int .i64 2] [.int .i64 0]) := sure19.ans 1000000 1000 (by kernel_rfl)
/-- tributary/past.Add -/
theorem p62_4 : PureA Tryz.prog 3 62 [.lst 3 1 [.v (.int .i64 3), .v (.int .i64 1), .v (.int .i64 1)], .agg [.v (.int .i64 2), .v (.int .i64 1)]] (.ts 3 2 [.int .i64 2, .int .i64 1, .int .i64 1, .int .i64 3, .int .i64 1, .int .i64 1] [.int .i64 0]) := sure19.ans 1000000 1000 (by kernel_rfl)
/-- tributary/past.Add -/
theorem p62_5 : PureA Tryz.prog 3 62 [.lst 3 2 [.v (.int .i64 2), .v (.int .i64 1), .v (.int .i64 1), .v (.int .i64 3), .v (.int .i64 1), .v (.int .i64 1)], .agg [.v (.int .i64 2), .v (.int .i64 2)]] (.ts 3 2 [.int .i64 2, .int .i64 1, .int .i64 2, .int .i64 3, .int .i64 1, .int .i64 1] [.int .i64 0]) := sure19.ans 1000000 1000 (by kernel_rfl)
/-- tributary/past.Add -/
theorem p62_6 : PureA Tryz.prog 3 62 [.lst 3 2 [.v (.int .i64 2), .v (.int .i64 1), .v (.int .i64 1), .v (.int .i64 3), .v (.int .i64 1), .v (.int .i64 1)], .agg [.v (.int .i64 1), .v (.int .i64 1)]] (.ts 3 3 [.int .i64 1, .int .i64 1, .int .i64 1, .int .i64 2, .int .i64 1, .int .i64 1, .int .i64 3, .int .i64 1, .int .i64 1] [.int .i64 0]) := sure19.ans 1000000 1000 (by kernel_rfl)
noncomputable def t62 : List (List DV × Ans) := [([.v (.slice none 0 0), .agg [.v (.int .i64 2), .v (.int .i64 1)]], .ts 3 1 [.int .i64 2, .int .i64 1, .int .i64 1] [.int .i64 0]),
  ([.v (.slice none 0 0), .agg [.v (.int .i64 3), .v (.int .i64 1)]], .ts 3 1 [.int .i64 3, .int .i64 1, .int .i64 1] [.int .i64 0]),
  ([.lst 3 1 [.v (.int .i64 2), .v (.int .i64 1), .v (.int .i64 1)], .agg [.v (.int .i64 3), .v (.int .i64 1)]], .ts 3 2 [.int .i64 2, .int .i64 1, .int .i64 1, .int .i64 3, .int .i64 1, .int .i64 1] [.int .i64 0]),
  ([.lst 3 1 [.v (.int .i64 2), .v (.int .i64 1), .v (.int .i64 1)], .agg [.v (.int .i64 2), .v (.int .i64 2)]], .ts 3 1 [.int .i64 2, .int .i64 1, .int .i64 2] [.int .i64 0]),
  ([.lst 3 1 [.v (.int .i64 3), .v (.int .i64 1), .v (.int .i64 1)], .agg [.v (.int .i64 2), .v (.int .i64 1)]], .ts 3 2 [.int .i64 2, .int .i64 1, .int .i64 1, .int .i64 3, .int .i64 1, .int .i64 1] [.int .i64 0]),
  ([.lst 3 2 [.v (.int .i64 2), .v (.int .i64 1), .v (.int .i64 1), .v (.int .i64 3), .v (.int .i64 1), .v (.int .i64 1)], .agg [.v (.int .i64 2), .v (.int .i64 2)]], .ts 3 2 [.int .i64 2, .int .i64 1, .int .i64 2, .int .i64 3, .int .i64 1, .int .i64 1] [.int .i64 0]),
  ([.lst 3 2 [.v (.int .i64 2), .v (.int .i64 1), .v (.int .i64 1), .v (.int .i64 3), .v (.int .i64 1), .v (.int .i64 1)], .agg [.v (.int .i64 1), .v (.int .i64 1)]], .ts 3 3 [.int .i64 1, .int .i64 1, .int .i64 1, .int .i64 2, .int .i64 1, .int .i64 1, .int .i64 3, .int .i64 1, .int .i64 1] [.int .i64 0])]
theorem e62 : EntsA Tryz.prog 3 62 t62 := .cons p62_0 <| .cons p62_1 <| .cons p62_2 <| .cons p62_3 <| .cons p62_4 <| .cons p62_5 <| .cons p62_6 <| .nil
noncomputable def env20 : Env := env19.memoA 62 t62
theorem sure20 : Sure env20 Tryz.prog := sure19.memoA e62

/-- tributary/shown.may -/
theorem p53_0 : PureE Tryz.prog 3 53 [.agg [.v (.string ⟨#[100]⟩), .v (.int .i64 2), .v (.int .i64 0), .v (.slice none 0 0), .lst 3 1 [.v (.int .i64 2), .v (.int .i64 1), .v (.int .i64 1)]]] (.bool true) := sure20.pure 1000000 1000 (by kernel_rfl)
/-- tributary/shown.may -/
theorem p53_1 : PureE Tryz.prog 3 53 [.agg [.v (.string ⟨#[100]⟩), .v (.int .i64 2), .v (.int .i64 0), .v (.slice none 0 0), .lst 3 1 [.v (.int .i64 3), .v (.int .i64 1), .v (.int .i64 1)]]] (.bool true) := sure20.pure 1000000 1000 (by kernel_rfl)
/-- tributary/shown.may -/
theorem p53_2 : PureE Tryz.prog 3 53 [.agg [.v (.string ⟨#[100, 47, 102]⟩), .v (.int .i64 1), .v (.int .i64 0), .lst 1 1 [.v (.int .u8 7)], .lst 3 1 [.v (.int .i64 2), .v (.int .i64 1), .v (.int .i64 2)]]] (.bool true) := sure20.pure 1000000 1000 (by kernel_rfl)
/-- tributary/shown.may -/
theorem p53_3 : PureE Tryz.prog 3 53 [.agg [.v (.string ⟨#[100]⟩), .v (.int .i64 2), .v (.int .i64 0), .v (.slice none 0 0), .lst 3 2 [.v (.int .i64 2), .v (.int .i64 1), .v (.int .i64 1), .v (.int .i64 3), .v (.int .i64 1), .v (.int .i64 1)]]] (.bool true) := sure20.pure 1000000 1000 (by kernel_rfl)
/-- tributary/shown.may -/
theorem p53_4 : PureE Tryz.prog 3 53 [.agg [.v (.string ⟨#[102]⟩), .v (.int .i64 1), .v (.int .i64 0), .lst 1 1 [.v (.int .u8 7)], .lst 3 1 [.v (.int .i64 2), .v (.int .i64 1), .v (.int .i64 1)]]] (.bool true) := sure20.pure 1000000 1000 (by kernel_rfl)
/-- tributary/shown.may -/
theorem p53_5 : PureE Tryz.prog 3 53 [.agg [.v (.string ⟨#[102]⟩), .v (.int .i64 1), .v (.int .i64 0), .lst 1 1 [.v (.int .u8 8)], .lst 3 1 [.v (.int .i64 3), .v (.int .i64 1), .v (.int .i64 1)]]] (.bool true) := sure20.pure 1000000 1000 (by kernel_rfl)
noncomputable def t53 : List (List DV × Value) := [([.agg [.v (.string ⟨#[100]⟩), .v (.int .i64 2), .v (.int .i64 0), .v (.slice none 0 0), .lst 3 1 [.v (.int .i64 2), .v (.int .i64 1), .v (.int .i64 1)]]], .bool true),
  ([.agg [.v (.string ⟨#[100]⟩), .v (.int .i64 2), .v (.int .i64 0), .v (.slice none 0 0), .lst 3 1 [.v (.int .i64 3), .v (.int .i64 1), .v (.int .i64 1)]]], .bool true),
  ([.agg [.v (.string ⟨#[100, 47, 102]⟩), .v (.int .i64 1), .v (.int .i64 0), .lst 1 1 [.v (.int .u8 7)], .lst 3 1 [.v (.int .i64 2), .v (.int .i64 1), .v (.int .i64 2)]]], .bool true),
  ([.agg [.v (.string ⟨#[100]⟩), .v (.int .i64 2), .v (.int .i64 0), .v (.slice none 0 0), .lst 3 2 [.v (.int .i64 2), .v (.int .i64 1), .v (.int .i64 1), .v (.int .i64 3), .v (.int .i64 1), .v (.int .i64 1)]]], .bool true),
  ([.agg [.v (.string ⟨#[102]⟩), .v (.int .i64 1), .v (.int .i64 0), .lst 1 1 [.v (.int .u8 7)], .lst 3 1 [.v (.int .i64 2), .v (.int .i64 1), .v (.int .i64 1)]]], .bool true),
  ([.agg [.v (.string ⟨#[102]⟩), .v (.int .i64 1), .v (.int .i64 0), .lst 1 1 [.v (.int .u8 8)], .lst 3 1 [.v (.int .i64 3), .v (.int .i64 1), .v (.int .i64 1)]]], .bool true)]
theorem e53 : Ents Tryz.prog 3 53 t53 := .cons p53_0 rfl <| .cons p53_1 rfl <| .cons p53_2 rfl <| .cons p53_3 rfl <| .cons p53_4 rfl <| .cons p53_5 rfl <| .nil
noncomputable def env21 : Env := env20.memo (tab1 53 t53)
theorem sure21 : Sure env21 Tryz.prog := sure20.memo e53

/-- tributary/path.Parent -/
theorem p144_0 : PureA Tryz.prog 3 144 [.v (.string ⟨#[100]⟩)] (.tl [.string ⟨#[]⟩, .bool false]) := sure21.ans 1000000 1000 (by kernel_rfl)
/-- tributary/path.Parent -/
theorem p144_1 : PureA Tryz.prog 3 144 [.v (.string ⟨#[100, 47, 102]⟩)] (.tl [.string ⟨#[100]⟩, .bool true]) := sure21.ans 1000000 1000 (by kernel_rfl)
/-- tributary/path.Parent -/
theorem p144_2 : PureA Tryz.prog 3 144 [.v (.string ⟨#[102]⟩)] (.tl [.string ⟨#[]⟩, .bool false]) := sure21.ans 1000000 1000 (by kernel_rfl)
noncomputable def t144 : List (List DV × Ans) := [([.v (.string ⟨#[100]⟩)], .tl [.string ⟨#[]⟩, .bool false]),
  ([.v (.string ⟨#[100, 47, 102]⟩)], .tl [.string ⟨#[100]⟩, .bool true]),
  ([.v (.string ⟨#[102]⟩)], .tl [.string ⟨#[]⟩, .bool false])]
theorem e144 : EntsA Tryz.prog 3 144 t144 := .cons p144_0 <| .cons p144_1 <| .cons p144_2 <| .nil
noncomputable def env22 : Env := env21.memoA 144 t144
theorem sure22 : Sure env22 Tryz.prog := sure21.memoA e144

/-- tributary/past.Has -/
theorem p39_0 : PureE Tryz.prog 3 39 [.lst 3 1 [.v (.int .i64 2), .v (.int .i64 1), .v (.int .i64 1)], .agg [.v (.int .i64 2), .v (.int .i64 1)]] (.bool true) := sure22.pure 1000000 1000 (by kernel_rfl)
/-- tributary/past.Has -/
theorem p39_1 : PureE Tryz.prog 3 39 [.lst 3 1 [.v (.int .i64 3), .v (.int .i64 1), .v (.int .i64 1)], .agg [.v (.int .i64 3), .v (.int .i64 1)]] (.bool true) := sure22.pure 1000000 1000 (by kernel_rfl)
/-- tributary/past.Has -/
theorem p39_2 : PureE Tryz.prog 3 39 [.v (.slice none 0 0), .agg [.v (.int .i64 2), .v (.int .i64 1)]] (.bool false) := sure22.pure 1000000 1000 (by kernel_rfl)
/-- tributary/past.Has -/
theorem p39_3 : PureE Tryz.prog 3 39 [.v (.slice none 0 0), .agg [.v (.int .i64 3), .v (.int .i64 1)]] (.bool false) := sure22.pure 1000000 1000 (by kernel_rfl)
/-- tributary/past.Has -/
theorem p39_4 : PureE Tryz.prog 3 39 [.lst 3 2 [.v (.int .i64 2), .v (.int .i64 1), .v (.int .i64 1), .v (.int .i64 3), .v (.int .i64 1), .v (.int .i64 1)], .agg [.v (.int .i64 2), .v (.int .i64 1)]] (.bool true) := sure22.pure 1000000 1000 (by kernel_rfl)
/-- tributary/past.Has -/
theorem p39_5 : PureE Tryz.prog 3 39 [.lst 3 2 [.v (.int .i64 2), .v (.int .i64 1), .v (.int .i64 1), .v (.int .i64 3), .v (.int .i64 1), .v (.int .i64 1)], .agg [.v (.int .i64 3), .v (.int .i64 1)]] (.bool true) := sure22.pure 1000000 1000 (by kernel_rfl)
/-- tributary/past.Has -/
theorem p39_6 : PureE Tryz.prog 3 39 [.lst 3 1 [.v (.int .i64 2), .v (.int .i64 1), .v (.int .i64 1)], .agg [.v (.int .i64 3), .v (.int .i64 1)]] (.bool false) := sure22.pure 1000000 1000 (by kernel_rfl)
/-- tributary/past.Has -/
theorem p39_7 : PureE Tryz.prog 3 39 [.lst 3 1 [.v (.int .i64 2), .v (.int .i64 1), .v (.int .i64 2)], .agg [.v (.int .i64 2), .v (.int .i64 1)]] (.bool true) := sure22.pure 1000000 1000 (by kernel_rfl)
/-- tributary/past.Has -/
theorem p39_8 : PureE Tryz.prog 3 39 [.lst 3 1 [.v (.int .i64 2), .v (.int .i64 1), .v (.int .i64 2)], .agg [.v (.int .i64 2), .v (.int .i64 2)]] (.bool true) := sure22.pure 1000000 1000 (by kernel_rfl)
/-- tributary/past.Has -/
theorem p39_9 : PureE Tryz.prog 3 39 [.v (.slice none 0 0), .agg [.v (.int .i64 2), .v (.int .i64 2)]] (.bool false) := sure22.pure 1000000 1000 (by kernel_rfl)
/-- tributary/past.Has -/
theorem p39_10 : PureE Tryz.prog 3 39 [.lst 3 2 [.v (.int .i64 2), .v (.int .i64 1), .v (.int .i64 2), .v (.int .i64 3), .v (.int .i64 1), .v (.int .i64 1)], .agg [.v (.int .i64 2), .v (.int .i64 1)]] (.bool true) := sure22.pure 1000000 1000 (by kernel_rfl)
/-- tributary/past.Has -/
theorem p39_11 : PureE Tryz.prog 3 39 [.lst 3 1 [.v (.int .i64 3), .v (.int .i64 1), .v (.int .i64 1)], .agg [.v (.int .i64 2), .v (.int .i64 1)]] (.bool false) := sure22.pure 1000000 1000 (by kernel_rfl)
/-- tributary/past.Has -/
theorem p39_12 : PureE Tryz.prog 3 39 [.lst 3 2 [.v (.int .i64 2), .v (.int .i64 1), .v (.int .i64 2), .v (.int .i64 3), .v (.int .i64 1), .v (.int .i64 1)], .agg [.v (.int .i64 2), .v (.int .i64 2)]] (.bool true) := sure22.pure 1000000 1000 (by kernel_rfl)
/-- tributary/past.Has -/
theorem p39_13 : PureE Tryz.prog 3 39 [.lst 3 2 [.v (.int .i64 2), .v (.int .i64 1), .v (.int .i64 1), .v (.int .i64 3), .v (.int .i64 1), .v (.int .i64 1)], .agg [.v (.int .i64 2), .v (.int .i64 2)]] (.bool false) := sure22.pure 1000000 1000 (by kernel_rfl)
/-- tributary/past.Has -/
theorem p39_14 : PureE Tryz.prog 3 39 [.lst 3 2 [.v (.int .i64 2), .v (.int .i64 1), .v (.int .i64 2), .v (.int .i64 3), .v (.int .i64 1), .v (.int .i64 1)], .agg [.v (.int .i64 3), .v (.int .i64 1)]] (.bool true) := sure22.pure 1000000 1000 (by kernel_rfl)
/-- tributary/past.Has -/
theorem p39_15 : PureE Tryz.prog 3 39 [.lst 3 1 [.v (.int .i64 2), .v (.int .i64 1), .v (.int .i64 1)], .agg [.v (.int .i64 2), .v (.int .i64 2)]] (.bool false) := sure22.pure 1000000 1000 (by kernel_rfl)
/-- tributary/past.Has -/
theorem p39_16 : PureE Tryz.prog 3 39 [.lst 3 3 [.v (.int .i64 1), .v (.int .i64 1), .v (.int .i64 1), .v (.int .i64 2), .v (.int .i64 1), .v (.int .i64 1), .v (.int .i64 3), .v (.int .i64 1), .v (.int .i64 1)], .agg [.v (.int .i64 1), .v (.int .i64 1)]] (.bool true) := sure22.pure 1000000 1000 (by kernel_rfl)
/-- tributary/past.Has -/
theorem p39_17 : PureE Tryz.prog 3 39 [.v (.slice none 0 0), .agg [.v (.int .i64 1), .v (.int .i64 1)]] (.bool false) := sure22.pure 1000000 1000 (by kernel_rfl)
/-- tributary/past.Has -/
theorem p39_18 : PureE Tryz.prog 3 39 [.lst 3 3 [.v (.int .i64 1), .v (.int .i64 1), .v (.int .i64 1), .v (.int .i64 2), .v (.int .i64 1), .v (.int .i64 1), .v (.int .i64 3), .v (.int .i64 1), .v (.int .i64 1)], .agg [.v (.int .i64 2), .v (.int .i64 1)]] (.bool true) := sure22.pure 1000000 1000 (by kernel_rfl)
/-- tributary/past.Has -/
theorem p39_19 : PureE Tryz.prog 3 39 [.lst 3 3 [.v (.int .i64 1), .v (.int .i64 1), .v (.int .i64 1), .v (.int .i64 2), .v (.int .i64 1), .v (.int .i64 1), .v (.int .i64 3), .v (.int .i64 1), .v (.int .i64 1)], .agg [.v (.int .i64 3), .v (.int .i64 1)]] (.bool true) := sure22.pure 1000000 1000 (by kernel_rfl)
/-- tributary/past.Has -/
theorem p39_20 : PureE Tryz.prog 3 39 [.lst 3 2 [.v (.int .i64 2), .v (.int .i64 1), .v (.int .i64 1), .v (.int .i64 3), .v (.int .i64 1), .v (.int .i64 1)], .agg [.v (.int .i64 1), .v (.int .i64 1)]] (.bool false) := sure22.pure 1000000 1000 (by kernel_rfl)
noncomputable def t39 : List (List DV × Value) := [([.lst 3 1 [.v (.int .i64 2), .v (.int .i64 1), .v (.int .i64 1)], .agg [.v (.int .i64 2), .v (.int .i64 1)]], .bool true),
  ([.lst 3 1 [.v (.int .i64 3), .v (.int .i64 1), .v (.int .i64 1)], .agg [.v (.int .i64 3), .v (.int .i64 1)]], .bool true),
  ([.v (.slice none 0 0), .agg [.v (.int .i64 2), .v (.int .i64 1)]], .bool false),
  ([.v (.slice none 0 0), .agg [.v (.int .i64 3), .v (.int .i64 1)]], .bool false),
  ([.lst 3 2 [.v (.int .i64 2), .v (.int .i64 1), .v (.int .i64 1), .v (.int .i64 3), .v (.int .i64 1), .v (.int .i64 1)], .agg [.v (.int .i64 2), .v (.int .i64 1)]], .bool true),
  ([.lst 3 2 [.v (.int .i64 2), .v (.int .i64 1), .v (.int .i64 1), .v (.int .i64 3), .v (.int .i64 1), .v (.int .i64 1)], .agg [.v (.int .i64 3), .v (.int .i64 1)]], .bool true),
  ([.lst 3 1 [.v (.int .i64 2), .v (.int .i64 1), .v (.int .i64 1)], .agg [.v (.int .i64 3), .v (.int .i64 1)]], .bool false),
  ([.lst 3 1 [.v (.int .i64 2), .v (.int .i64 1), .v (.int .i64 2)], .agg [.v (.int .i64 2), .v (.int .i64 1)]], .bool true),
  ([.lst 3 1 [.v (.int .i64 2), .v (.int .i64 1), .v (.int .i64 2)], .agg [.v (.int .i64 2), .v (.int .i64 2)]], .bool true),
  ([.v (.slice none 0 0), .agg [.v (.int .i64 2), .v (.int .i64 2)]], .bool false),
  ([.lst 3 2 [.v (.int .i64 2), .v (.int .i64 1), .v (.int .i64 2), .v (.int .i64 3), .v (.int .i64 1), .v (.int .i64 1)], .agg [.v (.int .i64 2), .v (.int .i64 1)]], .bool true),
  ([.lst 3 1 [.v (.int .i64 3), .v (.int .i64 1), .v (.int .i64 1)], .agg [.v (.int .i64 2), .v (.int .i64 1)]], .bool false),
  ([.lst 3 2 [.v (.int .i64 2), .v (.int .i64 1), .v (.int .i64 2), .v (.int .i64 3), .v (.int .i64 1), .v (.int .i64 1)], .agg [.v (.int .i64 2), .v (.int .i64 2)]], .bool true),
  ([.lst 3 2 [.v (.int .i64 2), .v (.int .i64 1), .v (.int .i64 1), .v (.int .i64 3), .v (.int .i64 1), .v (.int .i64 1)], .agg [.v (.int .i64 2), .v (.int .i64 2)]], .bool false),
  ([.lst 3 2 [.v (.int .i64 2), .v (.int .i64 1), .v (.int .i64 2), .v (.int .i64 3), .v (.int .i64 1), .v (.int .i64 1)], .agg [.v (.int .i64 3), .v (.int .i64 1)]], .bool true),
  ([.lst 3 1 [.v (.int .i64 2), .v (.int .i64 1), .v (.int .i64 1)], .agg [.v (.int .i64 2), .v (.int .i64 2)]], .bool false),
  ([.lst 3 3 [.v (.int .i64 1), .v (.int .i64 1), .v (.int .i64 1), .v (.int .i64 2), .v (.int .i64 1), .v (.int .i64 1), .v (.int .i64 3), .v (.int .i64 1), .v (.int .i64 1)], .agg [.v (.int .i64 1), .v (.int .i64 1)]], .bool true),
  ([.v (.slice none 0 0), .agg [.v (.int .i64 1), .v (.int .i64 1)]], .bool false),
  ([.lst 3 3 [.v (.int .i64 1), .v (.int .i64 1), .v (.int .i64 1), .v (.int .i64 2), .v (.int .i64 1), .v (.int .i64 1), .v (.int .i64 3), .v (.int .i64 1), .v (.int .i64 1)], .agg [.v (.int .i64 2), .v (.int .i64 1)]], .bool true),
  ([.lst 3 3 [.v (.int .i64 1), .v (.int .i64 1), .v (.int .i64 1), .v (.int .i64 2), .v (.int .i64 1), .v (.int .i64 1), .v (.int .i64 3), .v (.int .i64 1), .v (.int .i64 1)], .agg [.v (.int .i64 3), .v (.int .i64 1)]], .bool true),
  ([.lst 3 2 [.v (.int .i64 2), .v (.int .i64 1), .v (.int .i64 1), .v (.int .i64 3), .v (.int .i64 1), .v (.int .i64 1)], .agg [.v (.int .i64 1), .v (.int .i64 1)]], .bool false)]
theorem e39 : Ents Tryz.prog 3 39 t39 := .cons p39_0 rfl <| .cons p39_1 rfl <| .cons p39_2 rfl <| .cons p39_3 rfl <| .cons p39_4 rfl <| .cons p39_5 rfl <| .cons p39_6 rfl <| .cons p39_7 rfl <| .cons p39_8 rfl <| .cons p39_9 rfl <| .cons p39_10 rfl <| .cons p39_11 rfl <| .cons p39_12 rfl <| .cons p39_13 rfl <| .cons p39_14 rfl <| .cons p39_15 rfl <| .cons p39_16 rfl <| .cons p39_17 rfl <| .cons p39_18 rfl <| .cons p39_19 rfl <| .cons p39_20 rfl <| .nil
noncomputable def env23 : Env := env22.memo (tab1 39 t39)
theorem sure23 : Sure env23 Tryz.prog := sure22.memo e39

/-- tributary/past.Minus$1 -/
theorem p139_0 : PureE Tryz.prog 3 139 [.v (.bool false), .v (.bool true)] (.bool false) := sure23.pure 1000000 1000 (by kernel_rfl)
/-- tributary/past.Minus$1 -/
theorem p139_1 : PureE Tryz.prog 3 139 [.v (.bool true), .v (.bool true)] (.bool false) := sure23.pure 1000000 1000 (by kernel_rfl)
/-- tributary/past.Minus$1 -/
theorem p139_2 : PureE Tryz.prog 3 139 [.v (.bool true), .v (.bool false)] (.bool true) := sure23.pure 1000000 1000 (by kernel_rfl)
noncomputable def t139 : List (List DV × Value) := [([.v (.bool false), .v (.bool true)], .bool false),
  ([.v (.bool true), .v (.bool true)], .bool false),
  ([.v (.bool true), .v (.bool false)], .bool true)]
theorem e139 : Ents Tryz.prog 3 139 t139 := .cons p139_0 rfl <| .cons p139_1 rfl <| .cons p139_2 rfl <| .nil
noncomputable def env24 : Env := env23.memo (tab1 139 t139)
theorem sure24 : Sure env24 Tryz.prog := sure23.memo e139

/-- cmp.Compare[int] -/
theorem p138_0 : PureE Tryz.prog 3 138 [.v (.int .i64 2), .v (.int .i64 3)] (.int .i64 (-1)) := sure24.pure 1000000 1000 (by kernel_rfl)
/-- cmp.Compare[int] -/
theorem p138_1 : PureE Tryz.prog 3 138 [.v (.int .i64 1), .v (.int .i64 1)] (.int .i64 0) := sure24.pure 1000000 1000 (by kernel_rfl)
/-- cmp.Compare[int] -/
theorem p138_2 : PureE Tryz.prog 3 138 [.v (.int .i64 3), .v (.int .i64 2)] (.int .i64 1) := sure24.pure 1000000 1000 (by kernel_rfl)
/-- cmp.Compare[int] -/
theorem p138_3 : PureE Tryz.prog 3 138 [.v (.int .i64 2), .v (.int .i64 2)] (.int .i64 0) := sure24.pure 1000000 1000 (by kernel_rfl)
/-- cmp.Compare[int] -/
theorem p138_4 : PureE Tryz.prog 3 138 [.v (.int .i64 0), .v (.int .i64 0)] (.int .i64 0) := sure24.pure 1000000 1000 (by kernel_rfl)
/-- cmp.Compare[int] -/
theorem p138_5 : PureE Tryz.prog 3 138 [.v (.int .i64 1), .v (.int .i64 2)] (.int .i64 (-1)) := sure24.pure 1000000 1000 (by kernel_rfl)
/-- cmp.Compare[int] -/
theorem p138_6 : PureE Tryz.prog 3 138 [.v (.int .i64 2), .v (.int .i64 1)] (.int .i64 1) := sure24.pure 1000000 1000 (by kernel_rfl)
noncomputable def t138 : List (List DV × Value) := [([.v (.int .i64 2), .v (.int .i64 3)], .int .i64 (-1)),
  ([.v (.int .i64 1), .v (.int .i64 1)], .int .i64 0),
  ([.v (.int .i64 3), .v (.int .i64 2)], .int .i64 1),
  ([.v (.int .i64 2), .v (.int .i64 2)], .int .i64 0),
  ([.v (.int .i64 0), .v (.int .i64 0)], .int .i64 0),
  ([.v (.int .i64 1), .v (.int .i64 2)], .int .i64 (-1)),
  ([.v (.int .i64 2), .v (.int .i64 1)], .int .i64 1)]
theorem e138 : Ents Tryz.prog 3 138 t138 := .cons p138_0 rfl <| .cons p138_1 rfl <| .cons p138_2 rfl <| .cons p138_3 rfl <| .cons p138_4 rfl <| .cons p138_5 rfl <| .cons p138_6 rfl <| .nil
noncomputable def env25 : Env := env24.memo (tab1 138 t138)
theorem sure25 : Sure env25 Tryz.prog := sure24.memo e138

/-- tributary/dot.order -/
theorem p85_0 : PureE Tryz.prog 3 85 [.agg [.v (.int .i64 2), .v (.int .i64 1)], .agg [.v (.int .i64 3), .v (.int .i64 1)]] (.int .i64 (-1)) := sure25.pure 1000000 1000 (by kernel_rfl)
/-- tributary/dot.order -/
theorem p85_1 : PureE Tryz.prog 3 85 [.agg [.v (.int .i64 3), .v (.int .i64 1)], .agg [.v (.int .i64 2), .v (.int .i64 1)]] (.int .i64 1) := sure25.pure 1000000 1000 (by kernel_rfl)
/-- tributary/dot.order -/
theorem p85_2 : PureE Tryz.prog 3 85 [.agg [.v (.int .i64 2), .v (.int .i64 1)], .agg [.v (.int .i64 2), .v (.int .i64 2)]] (.int .i64 (-1)) := sure25.pure 1000000 1000 (by kernel_rfl)
/-- tributary/dot.order -/
theorem p85_3 : PureE Tryz.prog 3 85 [.agg [.v (.int .i64 3), .v (.int .i64 1)], .agg [.v (.int .i64 2), .v (.int .i64 2)]] (.int .i64 1) := sure25.pure 1000000 1000 (by kernel_rfl)
/-- tributary/dot.order -/
theorem p85_4 : PureE Tryz.prog 3 85 [.agg [.v (.int .i64 2), .v (.int .i64 2)], .agg [.v (.int .i64 3), .v (.int .i64 1)]] (.int .i64 (-1)) := sure25.pure 1000000 1000 (by kernel_rfl)
/-- tributary/dot.order -/
theorem p85_5 : PureE Tryz.prog 3 85 [.agg [.v (.int .i64 2), .v (.int .i64 2)], .agg [.v (.int .i64 2), .v (.int .i64 1)]] (.int .i64 1) := sure25.pure 1000000 1000 (by kernel_rfl)
/-- tributary/dot.order -/
theorem p85_6 : PureE Tryz.prog 3 85 [.agg [.v (.int .i64 2), .v (.int .i64 1)], .agg [.v (.int .i64 1), .v (.int .i64 1)]] (.int .i64 1) := sure25.pure 1000000 1000 (by kernel_rfl)
/-- tributary/dot.order -/
theorem p85_7 : PureE Tryz.prog 3 85 [.agg [.v (.int .i64 1), .v (.int .i64 1)], .agg [.v (.int .i64 2), .v (.int .i64 1)]] (.int .i64 (-1)) := sure25.pure 1000000 1000 (by kernel_rfl)
noncomputable def t85 : List (List DV × Value) := [([.agg [.v (.int .i64 2), .v (.int .i64 1)], .agg [.v (.int .i64 3), .v (.int .i64 1)]], .int .i64 (-1)),
  ([.agg [.v (.int .i64 3), .v (.int .i64 1)], .agg [.v (.int .i64 2), .v (.int .i64 1)]], .int .i64 1),
  ([.agg [.v (.int .i64 2), .v (.int .i64 1)], .agg [.v (.int .i64 2), .v (.int .i64 2)]], .int .i64 (-1)),
  ([.agg [.v (.int .i64 3), .v (.int .i64 1)], .agg [.v (.int .i64 2), .v (.int .i64 2)]], .int .i64 1),
  ([.agg [.v (.int .i64 2), .v (.int .i64 2)], .agg [.v (.int .i64 3), .v (.int .i64 1)]], .int .i64 (-1)),
  ([.agg [.v (.int .i64 2), .v (.int .i64 2)], .agg [.v (.int .i64 2), .v (.int .i64 1)]], .int .i64 1),
  ([.agg [.v (.int .i64 2), .v (.int .i64 1)], .agg [.v (.int .i64 1), .v (.int .i64 1)]], .int .i64 1),
  ([.agg [.v (.int .i64 1), .v (.int .i64 1)], .agg [.v (.int .i64 2), .v (.int .i64 1)]], .int .i64 (-1))]
theorem e85 : Ents Tryz.prog 3 85 t85 := .cons p85_0 rfl <| .cons p85_1 rfl <| .cons p85_2 rfl <| .cons p85_3 rfl <| .cons p85_4 rfl <| .cons p85_5 rfl <| .cons p85_6 rfl <| .cons p85_7 rfl <| .nil
noncomputable def env26 : Env := env25.memo (tab1 85 t85)
theorem sure26 : Sure env26 Tryz.prog := sure25.memo e85

/-- tributary/dot.Less -/
theorem p47_0 : PureE Tryz.prog 3 47 [.agg [.v (.int .i64 2), .v (.int .i64 1)], .agg [.v (.int .i64 3), .v (.int .i64 1)]] (.bool true) := sure26.pure 1000000 1000 (by kernel_rfl)
/-- tributary/dot.Less -/
theorem p47_1 : PureE Tryz.prog 3 47 [.agg [.v (.int .i64 2), .v (.int .i64 1)], .agg [.v (.int .i64 2), .v (.int .i64 2)]] (.bool true) := sure26.pure 1000000 1000 (by kernel_rfl)
/-- tributary/dot.Less -/
theorem p47_2 : PureE Tryz.prog 3 47 [.agg [.v (.int .i64 3), .v (.int .i64 1)], .agg [.v (.int .i64 2), .v (.int .i64 2)]] (.bool false) := sure26.pure 1000000 1000 (by kernel_rfl)
/-- tributary/dot.Less -/
theorem p47_3 : PureE Tryz.prog 3 47 [.agg [.v (.int .i64 2), .v (.int .i64 2)], .agg [.v (.int .i64 3), .v (.int .i64 1)]] (.bool true) := sure26.pure 1000000 1000 (by kernel_rfl)
/-- tributary/dot.Less -/
theorem p47_4 : PureE Tryz.prog 3 47 [.agg [.v (.int .i64 3), .v (.int .i64 1)], .agg [.v (.int .i64 2), .v (.int .i64 1)]] (.bool false) := sure26.pure 1000000 1000 (by kernel_rfl)
/-- tributary/dot.Less -/
theorem p47_5 : PureE Tryz.prog 3 47 [.agg [.v (.int .i64 2), .v (.int .i64 1)], .agg [.v (.int .i64 1), .v (.int .i64 1)]] (.bool false) := sure26.pure 1000000 1000 (by kernel_rfl)
/-- tributary/dot.Less -/
theorem p47_6 : PureE Tryz.prog 3 47 [.agg [.v (.int .i64 1), .v (.int .i64 1)], .agg [.v (.int .i64 2), .v (.int .i64 1)]] (.bool true) := sure26.pure 1000000 1000 (by kernel_rfl)
noncomputable def t47 : List (List DV × Value) := [([.agg [.v (.int .i64 2), .v (.int .i64 1)], .agg [.v (.int .i64 3), .v (.int .i64 1)]], .bool true),
  ([.agg [.v (.int .i64 2), .v (.int .i64 1)], .agg [.v (.int .i64 2), .v (.int .i64 2)]], .bool true),
  ([.agg [.v (.int .i64 3), .v (.int .i64 1)], .agg [.v (.int .i64 2), .v (.int .i64 2)]], .bool false),
  ([.agg [.v (.int .i64 2), .v (.int .i64 2)], .agg [.v (.int .i64 3), .v (.int .i64 1)]], .bool true),
  ([.agg [.v (.int .i64 3), .v (.int .i64 1)], .agg [.v (.int .i64 2), .v (.int .i64 1)]], .bool false),
  ([.agg [.v (.int .i64 2), .v (.int .i64 1)], .agg [.v (.int .i64 1), .v (.int .i64 1)]], .bool false),
  ([.agg [.v (.int .i64 1), .v (.int .i64 1)], .agg [.v (.int .i64 2), .v (.int .i64 1)]], .bool true)]
theorem e47 : Ents Tryz.prog 3 47 t47 := .cons p47_0 rfl <| .cons p47_1 rfl <| .cons p47_2 rfl <| .cons p47_3 rfl <| .cons p47_4 rfl <| .cons p47_5 rfl <| .cons p47_6 rfl <| .nil
noncomputable def env27 : Env := env26.memo (tab1 47 t47)
theorem sure27 : Sure env27 Tryz.prog := sure26.memo e47

/-- tributary/event.Ahead -/
theorem p86_0 : PureE Tryz.prog 3 86 [.agg [.v (.int .i64 2), .v (.int .i64 1), .v (.string ⟨#[100]⟩), .v (.int .i64 2), .v (.int .i64 0), .v (.slice none 0 0), .v (.slice none 0 0)], .agg [.v (.int .i64 3), .v (.int .i64 1), .v (.string ⟨#[100]⟩), .v (.int .i64 2), .v (.int .i64 0), .v (.slice none 0 0), .v (.slice none 0 0)]] (.bool false) := sure27.pure 1000000 1000 (by kernel_rfl)
/-- tributary/event.Ahead -/
theorem p86_1 : PureE Tryz.prog 3 86 [.agg [.v (.int .i64 3), .v (.int .i64 1), .v (.string ⟨#[100]⟩), .v (.int .i64 2), .v (.int .i64 0), .v (.slice none 0 0), .v (.slice none 0 0)], .agg [.v (.int .i64 2), .v (.int .i64 1), .v (.string ⟨#[100]⟩), .v (.int .i64 2), .v (.int .i64 0), .v (.slice none 0 0), .v (.slice none 0 0)]] (.bool false) := sure27.pure 1000000 1000 (by kernel_rfl)
/-- tributary/event.Ahead -/
theorem p86_2 : PureE Tryz.prog 3 86 [.agg [.v (.int .i64 2), .v (.int .i64 1), .v (.string ⟨#[100]⟩), .v (.int .i64 2), .v (.int .i64 0), .v (.slice none 0 0), .v (.slice none 0 0)], .agg [.v (.int .i64 2), .v (.int .i64 1), .v (.string ⟨#[100]⟩), .v (.int .i64 2), .v (.int .i64 0), .v (.slice none 0 0), .v (.slice none 0 0)]] (.bool false) := sure27.pure 1000000 1000 (by kernel_rfl)
/-- tributary/event.Ahead -/
theorem p86_3 : PureE Tryz.prog 3 86 [.agg [.v (.int .i64 3), .v (.int .i64 1), .v (.string ⟨#[100]⟩), .v (.int .i64 2), .v (.int .i64 0), .v (.slice none 0 0), .v (.slice none 0 0)], .agg [.v (.int .i64 3), .v (.int .i64 1), .v (.string ⟨#[100]⟩), .v (.int .i64 2), .v (.int .i64 0), .v (.slice none 0 0), .v (.slice none 0 0)]] (.bool false) := sure27.pure 1000000 1000 (by kernel_rfl)
/-- tributary/event.Ahead -/
theorem p86_4 : PureE Tryz.prog 3 86 [.agg [.v (.int .i64 2), .v (.int .i64 1), .v (.string ⟨#[100]⟩), .v (.int .i64 2), .v (.int .i64 0), .v (.slice none 0 0), .v (.slice none 0 0)], .agg [.v (.int .i64 2), .v (.int .i64 2), .v (.string ⟨#[100, 47, 102]⟩), .v (.int .i64 1), .v (.int .i64 0), .lst 1 1 [.v (.int .u8 7)], .lst 3 1 [.v (.int .i64 2), .v (.int .i64 1), .v (.int .i64 1)]]] (.bool true) := sure27.pure 1000000 1000 (by kernel_rfl)
/-- tributary/event.Ahead -/
theorem p86_5 : PureE Tryz.prog 3 86 [.agg [.v (.int .i64 2), .v (.int .i64 2), .v (.string ⟨#[100, 47, 102]⟩), .v (.int .i64 1), .v (.int .i64 0), .lst 1 1 [.v (.int .u8 7)], .lst 3 1 [.v (.int .i64 2), .v (.int .i64 1), .v (.int .i64 1)]], .agg [.v (.int .i64 2), .v (.int .i64 1), .v (.string ⟨#[100]⟩), .v (.int .i64 2), .v (.int .i64 0), .v (.slice none 0 0), .v (.slice none 0 0)]] (.bool false) := sure27.pure 1000000 1000 (by kernel_rfl)
/-- tributary/event.Ahead -/
theorem p86_6 : PureE Tryz.prog 3 86 [.agg [.v (.int .i64 2), .v (.int .i64 2), .v (.string ⟨#[100, 47, 102]⟩), .v (.int .i64 1), .v (.int .i64 0), .lst 1 1 [.v (.int .u8 7)], .lst 3 1 [.v (.int .i64 2), .v (.int .i64 1), .v (.int .i64 1)]], .agg [.v (.int .i64 3), .v (.int .i64 1), .v (.string ⟨#[100]⟩), .v (.int .i64 2), .v (.int .i64 0), .v (.slice none 0 0), .v (.slice none 0 0)]] (.bool false) := sure27.pure 1000000 1000 (by kernel_rfl)
/-- tributary/event.Ahead -/
theorem p86_7 : PureE Tryz.prog 3 86 [.agg [.v (.int .i64 3), .v (.int .i64 1), .v (.string ⟨#[100]⟩), .v (.int .i64 2), .v (.int .i64 0), .v (.slice none 0 0), .v (.slice none 0 0)], .agg [.v (.int .i64 2), .v (.int .i64 2), .v (.string ⟨#[100, 47, 102]⟩), .v (.int .i64 1), .v (.int .i64 0), .lst 1 1 [.v (.int .u8 7)], .lst 3 1 [.v (.int .i64 2), .v (.int .i64 1), .v (.int .i64 1)]]] (.bool false) := sure27.pure 1000000 1000 (by kernel_rfl)
/-- tributary/event.Ahead -/
theorem p86_8 : PureE Tryz.prog 3 86 [.agg [.v (.int .i64 2), .v (.int .i64 2), .v (.string ⟨#[100, 47, 102]⟩), .v (.int .i64 1), .v (.int .i64 0), .lst 1 1 [.v (.int .u8 7)], .lst 3 1 [.v (.int .i64 2), .v (.int .i64 1), .v (.int .i64 1)]], .agg [.v (.int .i64 2), .v (.int .i64 2), .v (.string ⟨#[100, 47, 102]⟩), .v (.int .i64 1), .v (.int .i64 0), .lst 1 1 [.v (.int .u8 7)], .lst 3 1 [.v (.int .i64 2), .v (.int .i64 1), .v (.int .i64 1)]]] (.bool false) := sure27.pure 1000000 1000 (by kernel_rfl)
/-- tributary/event.Ahead -/
theorem p86_9 : PureE Tryz.prog 3 86 [.agg [.v (.int .i64 2), .v (.int .i64 1), .v (.string ⟨#[102]⟩), .v (.int .i64 1), .v (.int .i64 0), .lst 1 1 [.v (.int .u8 7)], .v (.slice none 0 0)], .agg [.v (.int .i64 3), .v (.int .i64 1), .v (.string ⟨#[102]⟩), .v (.int .i64 1), .v (.int .i64 0), .lst 1 1 [.v (.int .u8 8)], .v (.slice none 0 0)]] (.bool false) := sure27.pure 1000000 1000 (by kernel_rfl)
/-- tributary/event.Ahead -/
theorem p86_10 : PureE Tryz.prog 3 86 [.agg [.v (.int .i64 3), .v (.int .i64 1), .v (.string ⟨#[102]⟩), .v (.int .i64 1), .v (.int .i64 0), .lst 1 1 [.v (.int .u8 8)], .v (.slice none 0 0)], .agg [.v (.int .i64 2), .v (.int .i64 1), .v (.string ⟨#[102]⟩), .v (.int .i64 1), .v (.int .i64 0), .lst 1 1 [.v (.int .u8 7)], .v (.slice none 0 0)]] (.bool false) := sure27.pure 1000000 1000 (by kernel_rfl)
/-- tributary/event.Ahead -/
theorem p86_11 : PureE Tryz.prog 3 86 [.agg [.v (.int .i64 2), .v (.int .i64 1), .v (.string ⟨#[102]⟩), .v (.int .i64 1), .v (.int .i64 0), .lst 1 1 [.v (.int .u8 7)], .v (.slice none 0 0)], .agg [.v (.int .i64 2), .v (.int .i64 1), .v (.string ⟨#[102]⟩), .v (.int .i64 1), .v (.int .i64 0), .lst 1 1 [.v (.int .u8 7)], .v (.slice none 0 0)]] (.bool false) := sure27.pure 1000000 1000 (by kernel_rfl)
/-- tributary/event.Ahead -/
theorem p86_12 : PureE Tryz.prog 3 86 [.agg [.v (.int .i64 3), .v (.int .i64 1), .v (.string ⟨#[102]⟩), .v (.int .i64 1), .v (.int .i64 0), .lst 1 1 [.v (.int .u8 8)], .v (.slice none 0 0)], .agg [.v (.int .i64 3), .v (.int .i64 1), .v (.string ⟨#[102]⟩), .v (.int .i64 1), .v (.int .i64 0), .lst 1 1 [.v (.int .u8 8)], .v (.slice none 0 0)]] (.bool false) := sure27.pure 1000000 1000 (by kernel_rfl)
/-- tributary/event.Ahead -/
theorem p86_13 : PureE Tryz.prog 3 86 [.agg [.v (.int .i64 1), .v (.int .i64 1), .v (.string ⟨#[102]⟩), .v (.int .i64 1), .v (.int .i64 0), .lst 1 1 [.v (.int .u8 9)], .lst 3 2 [.v (.int .i64 2), .v (.int .i64 1), .v (.int .i64 1), .v (.int .i64 3), .v (.int .i64 1), .v (.int .i64 1)]], .agg [.v (.int .i64 2), .v (.int .i64 1), .v (.string ⟨#[102]⟩), .v (.int .i64 1), .v (.int .i64 0), .lst 1 1 [.v (.int .u8 7)], .v (.slice none 0 0)]] (.bool false) := sure27.pure 1000000 1000 (by kernel_rfl)
/-- tributary/event.Ahead -/
theorem p86_14 : PureE Tryz.prog 3 86 [.agg [.v (.int .i64 1), .v (.int .i64 1), .v (.string ⟨#[102]⟩), .v (.int .i64 1), .v (.int .i64 0), .lst 1 1 [.v (.int .u8 9)], .lst 3 2 [.v (.int .i64 2), .v (.int .i64 1), .v (.int .i64 1), .v (.int .i64 3), .v (.int .i64 1), .v (.int .i64 1)]], .agg [.v (.int .i64 3), .v (.int .i64 1), .v (.string ⟨#[102]⟩), .v (.int .i64 1), .v (.int .i64 0), .lst 1 1 [.v (.int .u8 8)], .v (.slice none 0 0)]] (.bool false) := sure27.pure 1000000 1000 (by kernel_rfl)
/-- tributary/event.Ahead -/
theorem p86_15 : PureE Tryz.prog 3 86 [.agg [.v (.int .i64 2), .v (.int .i64 1), .v (.string ⟨#[102]⟩), .v (.int .i64 1), .v (.int .i64 0), .lst 1 1 [.v (.int .u8 7)], .v (.slice none 0 0)], .agg [.v (.int .i64 1), .v (.int .i64 1), .v (.string ⟨#[102]⟩), .v (.int .i64 1), .v (.int .i64 0), .lst 1 1 [.v (.int .u8 9)], .lst 3 2 [.v (.int .i64 2), .v (.int .i64 1), .v (.int .i64 1), .v (.int .i64 3), .v (.int .i64 1), .v (.int .i64 1)]]] (.bool true) := sure27.pure 1000000 1000 (by kernel_rfl)
/-- tributary/event.Ahead -/
theorem p86_16 : PureE Tryz.prog 3 86 [.agg [.v (.int .i64 3), .v (.int .i64 1), .v (.string ⟨#[102]⟩), .v (.int .i64 1), .v (.int .i64 0), .lst 1 1 [.v (.int .u8 8)], .v (.slice none 0 0)], .agg [.v (.int .i64 1), .v (.int .i64 1), .v (.string ⟨#[102]⟩), .v (.int .i64 1), .v (.int .i64 0), .lst 1 1 [.v (.int .u8 9)], .lst 3 2 [.v (.int .i64 2), .v (.int .i64 1), .v (.int .i64 1), .v (.int .i64 3), .v (.int .i64 1), .v (.int .i64 1)]]] (.bool true) := sure27.pure 1000000 1000 (by kernel_rfl)
/-- tributary/event.Ahead -/
theorem p86_17 : PureE Tryz.prog 3 86 [.agg [.v (.int .i64 1), .v (.int .i64 1), .v (.string ⟨#[102]⟩), .v (.int .i64 1), .v (.int .i64 0), .lst 1 1 [.v (.int .u8 9)], .lst 3 2 [.v (.int .i64 2), .v (.int .i64 1), .v (.int .i64 1), .v (.int .i64 3), .v (.int .i64 1), .v (.int .i64 1)]], .agg [.v (.int .i64 1), .v (.int .i64 1), .v (.string ⟨#[102]⟩), .v (.int .i64 1), .v (.int .i64 0), .lst 1 1 [.v (.int .u8 9)], .lst 3 2 [.v (.int .i64 2), .v (.int .i64 1), .v (.int .i64 1), .v (.int .i64 3), .v (.int .i64 1), .v (.int .i64 1)]]] (.bool false) := sure27.pure 1000000 1000 (by kernel_rfl)
noncomputable def t86 : List (List DV × Value) := [([.agg [.v (.int .i64 2), .v (.int .i64 1), .v (.string ⟨#[100]⟩), .v (.int .i64 2), .v (.int .i64 0), .v (.slice none 0 0), .v (.slice none 0 0)], .agg [.v (.int .i64 3), .v (.int .i64 1), .v (.string ⟨#[100]⟩), .v (.int .i64 2), .v (.int .i64 0), .v (.slice none 0 0), .v (.slice none 0 0)]], .bool false),
  ([.agg [.v (.int .i64 3), .v (.int .i64 1), .v (.string ⟨#[100]⟩), .v (.int .i64 2), .v (.int .i64 0), .v (.slice none 0 0), .v (.slice none 0 0)], .agg [.v (.int .i64 2), .v (.int .i64 1), .v (.string ⟨#[100]⟩), .v (.int .i64 2), .v (.int .i64 0), .v (.slice none 0 0), .v (.slice none 0 0)]], .bool false),
  ([.agg [.v (.int .i64 2), .v (.int .i64 1), .v (.string ⟨#[100]⟩), .v (.int .i64 2), .v (.int .i64 0), .v (.slice none 0 0), .v (.slice none 0 0)], .agg [.v (.int .i64 2), .v (.int .i64 1), .v (.string ⟨#[100]⟩), .v (.int .i64 2), .v (.int .i64 0), .v (.slice none 0 0), .v (.slice none 0 0)]], .bool false),
  ([.agg [.v (.int .i64 3), .v (.int .i64 1), .v (.string ⟨#[100]⟩), .v (.int .i64 2), .v (.int .i64 0), .v (.slice none 0 0), .v (.slice none 0 0)], .agg [.v (.int .i64 3), .v (.int .i64 1), .v (.string ⟨#[100]⟩), .v (.int .i64 2), .v (.int .i64 0), .v (.slice none 0 0), .v (.slice none 0 0)]], .bool false),
  ([.agg [.v (.int .i64 2), .v (.int .i64 1), .v (.string ⟨#[100]⟩), .v (.int .i64 2), .v (.int .i64 0), .v (.slice none 0 0), .v (.slice none 0 0)], .agg [.v (.int .i64 2), .v (.int .i64 2), .v (.string ⟨#[100, 47, 102]⟩), .v (.int .i64 1), .v (.int .i64 0), .lst 1 1 [.v (.int .u8 7)], .lst 3 1 [.v (.int .i64 2), .v (.int .i64 1), .v (.int .i64 1)]]], .bool true),
  ([.agg [.v (.int .i64 2), .v (.int .i64 2), .v (.string ⟨#[100, 47, 102]⟩), .v (.int .i64 1), .v (.int .i64 0), .lst 1 1 [.v (.int .u8 7)], .lst 3 1 [.v (.int .i64 2), .v (.int .i64 1), .v (.int .i64 1)]], .agg [.v (.int .i64 2), .v (.int .i64 1), .v (.string ⟨#[100]⟩), .v (.int .i64 2), .v (.int .i64 0), .v (.slice none 0 0), .v (.slice none 0 0)]], .bool false),
  ([.agg [.v (.int .i64 2), .v (.int .i64 2), .v (.string ⟨#[100, 47, 102]⟩), .v (.int .i64 1), .v (.int .i64 0), .lst 1 1 [.v (.int .u8 7)], .lst 3 1 [.v (.int .i64 2), .v (.int .i64 1), .v (.int .i64 1)]], .agg [.v (.int .i64 3), .v (.int .i64 1), .v (.string ⟨#[100]⟩), .v (.int .i64 2), .v (.int .i64 0), .v (.slice none 0 0), .v (.slice none 0 0)]], .bool false),
  ([.agg [.v (.int .i64 3), .v (.int .i64 1), .v (.string ⟨#[100]⟩), .v (.int .i64 2), .v (.int .i64 0), .v (.slice none 0 0), .v (.slice none 0 0)], .agg [.v (.int .i64 2), .v (.int .i64 2), .v (.string ⟨#[100, 47, 102]⟩), .v (.int .i64 1), .v (.int .i64 0), .lst 1 1 [.v (.int .u8 7)], .lst 3 1 [.v (.int .i64 2), .v (.int .i64 1), .v (.int .i64 1)]]], .bool false),
  ([.agg [.v (.int .i64 2), .v (.int .i64 2), .v (.string ⟨#[100, 47, 102]⟩), .v (.int .i64 1), .v (.int .i64 0), .lst 1 1 [.v (.int .u8 7)], .lst 3 1 [.v (.int .i64 2), .v (.int .i64 1), .v (.int .i64 1)]], .agg [.v (.int .i64 2), .v (.int .i64 2), .v (.string ⟨#[100, 47, 102]⟩), .v (.int .i64 1), .v (.int .i64 0), .lst 1 1 [.v (.int .u8 7)], .lst 3 1 [.v (.int .i64 2), .v (.int .i64 1), .v (.int .i64 1)]]], .bool false),
  ([.agg [.v (.int .i64 2), .v (.int .i64 1), .v (.string ⟨#[102]⟩), .v (.int .i64 1), .v (.int .i64 0), .lst 1 1 [.v (.int .u8 7)], .v (.slice none 0 0)], .agg [.v (.int .i64 3), .v (.int .i64 1), .v (.string ⟨#[102]⟩), .v (.int .i64 1), .v (.int .i64 0), .lst 1 1 [.v (.int .u8 8)], .v (.slice none 0 0)]], .bool false),
  ([.agg [.v (.int .i64 3), .v (.int .i64 1), .v (.string ⟨#[102]⟩), .v (.int .i64 1), .v (.int .i64 0), .lst 1 1 [.v (.int .u8 8)], .v (.slice none 0 0)], .agg [.v (.int .i64 2), .v (.int .i64 1), .v (.string ⟨#[102]⟩), .v (.int .i64 1), .v (.int .i64 0), .lst 1 1 [.v (.int .u8 7)], .v (.slice none 0 0)]], .bool false),
  ([.agg [.v (.int .i64 2), .v (.int .i64 1), .v (.string ⟨#[102]⟩), .v (.int .i64 1), .v (.int .i64 0), .lst 1 1 [.v (.int .u8 7)], .v (.slice none 0 0)], .agg [.v (.int .i64 2), .v (.int .i64 1), .v (.string ⟨#[102]⟩), .v (.int .i64 1), .v (.int .i64 0), .lst 1 1 [.v (.int .u8 7)], .v (.slice none 0 0)]], .bool false),
  ([.agg [.v (.int .i64 3), .v (.int .i64 1), .v (.string ⟨#[102]⟩), .v (.int .i64 1), .v (.int .i64 0), .lst 1 1 [.v (.int .u8 8)], .v (.slice none 0 0)], .agg [.v (.int .i64 3), .v (.int .i64 1), .v (.string ⟨#[102]⟩), .v (.int .i64 1), .v (.int .i64 0), .lst 1 1 [.v (.int .u8 8)], .v (.slice none 0 0)]], .bool false),
  ([.agg [.v (.int .i64 1), .v (.int .i64 1), .v (.string ⟨#[102]⟩), .v (.int .i64 1), .v (.int .i64 0), .lst 1 1 [.v (.int .u8 9)], .lst 3 2 [.v (.int .i64 2), .v (.int .i64 1), .v (.int .i64 1), .v (.int .i64 3), .v (.int .i64 1), .v (.int .i64 1)]], .agg [.v (.int .i64 2), .v (.int .i64 1), .v (.string ⟨#[102]⟩), .v (.int .i64 1), .v (.int .i64 0), .lst 1 1 [.v (.int .u8 7)], .v (.slice none 0 0)]], .bool false),
  ([.agg [.v (.int .i64 1), .v (.int .i64 1), .v (.string ⟨#[102]⟩), .v (.int .i64 1), .v (.int .i64 0), .lst 1 1 [.v (.int .u8 9)], .lst 3 2 [.v (.int .i64 2), .v (.int .i64 1), .v (.int .i64 1), .v (.int .i64 3), .v (.int .i64 1), .v (.int .i64 1)]], .agg [.v (.int .i64 3), .v (.int .i64 1), .v (.string ⟨#[102]⟩), .v (.int .i64 1), .v (.int .i64 0), .lst 1 1 [.v (.int .u8 8)], .v (.slice none 0 0)]], .bool false),
  ([.agg [.v (.int .i64 2), .v (.int .i64 1), .v (.string ⟨#[102]⟩), .v (.int .i64 1), .v (.int .i64 0), .lst 1 1 [.v (.int .u8 7)], .v (.slice none 0 0)], .agg [.v (.int .i64 1), .v (.int .i64 1), .v (.string ⟨#[102]⟩), .v (.int .i64 1), .v (.int .i64 0), .lst 1 1 [.v (.int .u8 9)], .lst 3 2 [.v (.int .i64 2), .v (.int .i64 1), .v (.int .i64 1), .v (.int .i64 3), .v (.int .i64 1), .v (.int .i64 1)]]], .bool true),
  ([.agg [.v (.int .i64 3), .v (.int .i64 1), .v (.string ⟨#[102]⟩), .v (.int .i64 1), .v (.int .i64 0), .lst 1 1 [.v (.int .u8 8)], .v (.slice none 0 0)], .agg [.v (.int .i64 1), .v (.int .i64 1), .v (.string ⟨#[102]⟩), .v (.int .i64 1), .v (.int .i64 0), .lst 1 1 [.v (.int .u8 9)], .lst 3 2 [.v (.int .i64 2), .v (.int .i64 1), .v (.int .i64 1), .v (.int .i64 3), .v (.int .i64 1), .v (.int .i64 1)]]], .bool true),
  ([.agg [.v (.int .i64 1), .v (.int .i64 1), .v (.string ⟨#[102]⟩), .v (.int .i64 1), .v (.int .i64 0), .lst 1 1 [.v (.int .u8 9)], .lst 3 2 [.v (.int .i64 2), .v (.int .i64 1), .v (.int .i64 1), .v (.int .i64 3), .v (.int .i64 1), .v (.int .i64 1)]], .agg [.v (.int .i64 1), .v (.int .i64 1), .v (.string ⟨#[102]⟩), .v (.int .i64 1), .v (.int .i64 0), .lst 1 1 [.v (.int .u8 9)], .lst 3 2 [.v (.int .i64 2), .v (.int .i64 1), .v (.int .i64 1), .v (.int .i64 3), .v (.int .i64 1), .v (.int .i64 1)]]], .bool false)]
theorem e86 : Ents Tryz.prog 3 86 t86 := .cons p86_0 rfl <| .cons p86_1 rfl <| .cons p86_2 rfl <| .cons p86_3 rfl <| .cons p86_4 rfl <| .cons p86_5 rfl <| .cons p86_6 rfl <| .cons p86_7 rfl <| .cons p86_8 rfl <| .cons p86_9 rfl <| .cons p86_10 rfl <| .cons p86_11 rfl <| .cons p86_12 rfl <| .cons p86_13 rfl <| .cons p86_14 rfl <| .cons p86_15 rfl <| .cons p86_16 rfl <| .cons p86_17 rfl <| .nil
noncomputable def env28 : Env := env27.memo (tab1 86 t86)
theorem sure28 : Sure env28 Tryz.prog := sure27.memo e86

/-- tributary/store.Check -/
theorem p81_0 : PureE Tryz.prog 3 81 [.v (.slice none 0 0)] (.int .i64 0) := sure28.pure 1000000 1000 (by kernel_rfl)
/-- tributary/store.Check -/
theorem p81_1 : PureE Tryz.prog 3 81 [.lst 7 1 [.v (.int .i64 2), .v (.int .i64 1), .v (.string ⟨#[100]⟩), .v (.int .i64 2), .v (.int .i64 0), .v (.slice none 0 0), .v (.slice none 0 0)]] (.int .i64 0) := sure28.pure 1000000 1000 (by kernel_rfl)
/-- tributary/store.Check -/
theorem p81_2 : PureE Tryz.prog 3 81 [.lst 7 2 [.v (.int .i64 2), .v (.int .i64 1), .v (.string ⟨#[100]⟩), .v (.int .i64 2), .v (.int .i64 0), .v (.slice none 0 0), .v (.slice none 0 0), .v (.int .i64 2), .v (.int .i64 2), .v (.string ⟨#[100, 47, 102]⟩), .v (.int .i64 1), .v (.int .i64 0), .lst 1 1 [.v (.int .u8 7)], .lst 3 1 [.v (.int .i64 2), .v (.int .i64 1), .v (.int .i64 1)]]] (.int .i64 0) := sure28.pure 1000000 1000 (by kernel_rfl)
/-- tributary/store.Check -/
theorem p81_3 : PureE Tryz.prog 3 81 [.lst 7 1 [.v (.int .i64 2), .v (.int .i64 1), .v (.string ⟨#[102]⟩), .v (.int .i64 1), .v (.int .i64 0), .lst 1 1 [.v (.int .u8 7)], .v (.slice none 0 0)]] (.int .i64 0) := sure28.pure 1000000 1000 (by kernel_rfl)
/-- tributary/store.Check -/
theorem p81_4 : PureE Tryz.prog 3 81 [.lst 7 2 [.v (.int .i64 2), .v (.int .i64 1), .v (.string ⟨#[102]⟩), .v (.int .i64 1), .v (.int .i64 0), .lst 1 1 [.v (.int .u8 7)], .v (.slice none 0 0), .v (.int .i64 3), .v (.int .i64 1), .v (.string ⟨#[102]⟩), .v (.int .i64 1), .v (.int .i64 0), .lst 1 1 [.v (.int .u8 8)], .v (.slice none 0 0)]] (.int .i64 0) := sure28.pure 1000000 1000 (by kernel_rfl)
/-- tributary/store.Check -/
theorem p81_5 : PureE Tryz.prog 3 81 [.lst 7 1 [.v (.int .i64 1), .v (.int .i64 1), .v (.string ⟨#[102]⟩), .v (.int .i64 1), .v (.int .i64 0), .lst 1 1 [.v (.int .u8 9)], .lst 3 2 [.v (.int .i64 2), .v (.int .i64 1), .v (.int .i64 1), .v (.int .i64 3), .v (.int .i64 1), .v (.int .i64 1)]]] (.int .i64 0) := sure28.pure 1000000 1000 (by kernel_rfl)
noncomputable def t81 : List (List DV × Value) := [([.v (.slice none 0 0)], .int .i64 0),
  ([.lst 7 1 [.v (.int .i64 2), .v (.int .i64 1), .v (.string ⟨#[100]⟩), .v (.int .i64 2), .v (.int .i64 0), .v (.slice none 0 0), .v (.slice none 0 0)]], .int .i64 0),
  ([.lst 7 2 [.v (.int .i64 2), .v (.int .i64 1), .v (.string ⟨#[100]⟩), .v (.int .i64 2), .v (.int .i64 0), .v (.slice none 0 0), .v (.slice none 0 0), .v (.int .i64 2), .v (.int .i64 2), .v (.string ⟨#[100, 47, 102]⟩), .v (.int .i64 1), .v (.int .i64 0), .lst 1 1 [.v (.int .u8 7)], .lst 3 1 [.v (.int .i64 2), .v (.int .i64 1), .v (.int .i64 1)]]], .int .i64 0),
  ([.lst 7 1 [.v (.int .i64 2), .v (.int .i64 1), .v (.string ⟨#[102]⟩), .v (.int .i64 1), .v (.int .i64 0), .lst 1 1 [.v (.int .u8 7)], .v (.slice none 0 0)]], .int .i64 0),
  ([.lst 7 2 [.v (.int .i64 2), .v (.int .i64 1), .v (.string ⟨#[102]⟩), .v (.int .i64 1), .v (.int .i64 0), .lst 1 1 [.v (.int .u8 7)], .v (.slice none 0 0), .v (.int .i64 3), .v (.int .i64 1), .v (.string ⟨#[102]⟩), .v (.int .i64 1), .v (.int .i64 0), .lst 1 1 [.v (.int .u8 8)], .v (.slice none 0 0)]], .int .i64 0),
  ([.lst 7 1 [.v (.int .i64 1), .v (.int .i64 1), .v (.string ⟨#[102]⟩), .v (.int .i64 1), .v (.int .i64 0), .lst 1 1 [.v (.int .u8 9)], .lst 3 2 [.v (.int .i64 2), .v (.int .i64 1), .v (.int .i64 1), .v (.int .i64 3), .v (.int .i64 1), .v (.int .i64 1)]]], .int .i64 0)]
theorem e81 : Ents Tryz.prog 3 81 t81 := .cons p81_0 rfl <| .cons p81_1 rfl <| .cons p81_2 rfl <| .cons p81_3 rfl <| .cons p81_4 rfl <| .cons p81_5 rfl <| .nil
noncomputable def env29 : Env := env28.memo (tab1 81 t81)
theorem sure29 : Sure env29 Tryz.prog := sure28.memo e81

/-- tributary/shelf.Check -/
theorem p120_0 : PureE Tryz.prog 3 120 [.v (.slice none 0 0)] (.int .i64 0) := sure29.pure 1000000 1000 (by kernel_rfl)
/-- tributary/shelf.Check -/
theorem p120_1 : PureE Tryz.prog 3 120 [.lst 7 1 [.v (.int .i64 2), .v (.int .i64 1), .v (.string ⟨#[100]⟩), .v (.int .i64 2), .v (.int .i64 0), .v (.slice none 0 0), .v (.slice none 0 0)]] (.int .i64 0) := sure29.pure 1000000 1000 (by kernel_rfl)
/-- tributary/shelf.Check -/
theorem p120_2 : PureE Tryz.prog 3 120 [.lst 7 1 [.v (.int .i64 3), .v (.int .i64 1), .v (.string ⟨#[100]⟩), .v (.int .i64 2), .v (.int .i64 0), .v (.slice none 0 0), .v (.slice none 0 0)]] (.int .i64 0) := sure29.pure 1000000 1000 (by kernel_rfl)
/-- tributary/shelf.Check -/
theorem p120_3 : PureE Tryz.prog 3 120 [.lst 7 1 [.v (.int .i64 2), .v (.int .i64 2), .v (.string ⟨#[100, 47, 102]⟩), .v (.int .i64 1), .v (.int .i64 0), .lst 1 1 [.v (.int .u8 7)], .lst 3 1 [.v (.int .i64 2), .v (.int .i64 1), .v (.int .i64 1)]]] (.int .i64 0) := sure29.pure 1000000 1000 (by kernel_rfl)
/-- tributary/shelf.Check -/
theorem p120_4 : PureE Tryz.prog 3 120 [.lst 7 2 [.v (.int .i64 2), .v (.int .i64 1), .v (.string ⟨#[100]⟩), .v (.int .i64 2), .v (.int .i64 0), .v (.slice none 0 0), .v (.slice none 0 0), .v (.int .i64 3), .v (.int .i64 1), .v (.string ⟨#[100]⟩), .v (.int .i64 2), .v (.int .i64 0), .v (.slice none 0 0), .v (.slice none 0 0)]] (.int .i64 0) := sure29.pure 1000000 1000 (by kernel_rfl)
/-- tributary/shelf.Check -/
theorem p120_5 : PureE Tryz.prog 3 120 [.lst 7 1 [.v (.int .i64 2), .v (.int .i64 1), .v (.string ⟨#[102]⟩), .v (.int .i64 1), .v (.int .i64 0), .lst 1 1 [.v (.int .u8 7)], .v (.slice none 0 0)]] (.int .i64 0) := sure29.pure 1000000 1000 (by kernel_rfl)
/-- tributary/shelf.Check -/
theorem p120_6 : PureE Tryz.prog 3 120 [.lst 7 1 [.v (.int .i64 3), .v (.int .i64 1), .v (.string ⟨#[102]⟩), .v (.int .i64 1), .v (.int .i64 0), .lst 1 1 [.v (.int .u8 8)], .v (.slice none 0 0)]] (.int .i64 0) := sure29.pure 1000000 1000 (by kernel_rfl)
/-- tributary/shelf.Check -/
theorem p120_7 : PureE Tryz.prog 3 120 [.lst 7 2 [.v (.int .i64 2), .v (.int .i64 1), .v (.string ⟨#[102]⟩), .v (.int .i64 1), .v (.int .i64 0), .lst 1 1 [.v (.int .u8 7)], .v (.slice none 0 0), .v (.int .i64 3), .v (.int .i64 1), .v (.string ⟨#[102]⟩), .v (.int .i64 1), .v (.int .i64 0), .lst 1 1 [.v (.int .u8 8)], .v (.slice none 0 0)]] (.int .i64 0) := sure29.pure 1000000 1000 (by kernel_rfl)
/-- tributary/shelf.Check -/
theorem p120_8 : PureE Tryz.prog 3 120 [.lst 7 1 [.v (.int .i64 1), .v (.int .i64 1), .v (.string ⟨#[102]⟩), .v (.int .i64 1), .v (.int .i64 0), .lst 1 1 [.v (.int .u8 9)], .lst 3 2 [.v (.int .i64 2), .v (.int .i64 1), .v (.int .i64 1), .v (.int .i64 3), .v (.int .i64 1), .v (.int .i64 1)]]] (.int .i64 0) := sure29.pure 1000000 1000 (by kernel_rfl)
noncomputable def t120 : List (List DV × Value) := [([.v (.slice none 0 0)], .int .i64 0),
  ([.lst 7 1 [.v (.int .i64 2), .v (.int .i64 1), .v (.string ⟨#[100]⟩), .v (.int .i64 2), .v (.int .i64 0), .v (.slice none 0 0), .v (.slice none 0 0)]], .int .i64 0),
  ([.lst 7 1 [.v (.int .i64 3), .v (.int .i64 1), .v (.string ⟨#[100]⟩), .v (.int .i64 2), .v (.int .i64 0), .v (.slice none 0 0), .v (.slice none 0 0)]], .int .i64 0),
  ([.lst 7 1 [.v (.int .i64 2), .v (.int .i64 2), .v (.string ⟨#[100, 47, 102]⟩), .v (.int .i64 1), .v (.int .i64 0), .lst 1 1 [.v (.int .u8 7)], .lst 3 1 [.v (.int .i64 2), .v (.int .i64 1), .v (.int .i64 1)]]], .int .i64 0),
  ([.lst 7 2 [.v (.int .i64 2), .v (.int .i64 1), .v (.string ⟨#[100]⟩), .v (.int .i64 2), .v (.int .i64 0), .v (.slice none 0 0), .v (.slice none 0 0), .v (.int .i64 3), .v (.int .i64 1), .v (.string ⟨#[100]⟩), .v (.int .i64 2), .v (.int .i64 0), .v (.slice none 0 0), .v (.slice none 0 0)]], .int .i64 0),
  ([.lst 7 1 [.v (.int .i64 2), .v (.int .i64 1), .v (.string ⟨#[102]⟩), .v (.int .i64 1), .v (.int .i64 0), .lst 1 1 [.v (.int .u8 7)], .v (.slice none 0 0)]], .int .i64 0),
  ([.lst 7 1 [.v (.int .i64 3), .v (.int .i64 1), .v (.string ⟨#[102]⟩), .v (.int .i64 1), .v (.int .i64 0), .lst 1 1 [.v (.int .u8 8)], .v (.slice none 0 0)]], .int .i64 0),
  ([.lst 7 2 [.v (.int .i64 2), .v (.int .i64 1), .v (.string ⟨#[102]⟩), .v (.int .i64 1), .v (.int .i64 0), .lst 1 1 [.v (.int .u8 7)], .v (.slice none 0 0), .v (.int .i64 3), .v (.int .i64 1), .v (.string ⟨#[102]⟩), .v (.int .i64 1), .v (.int .i64 0), .lst 1 1 [.v (.int .u8 8)], .v (.slice none 0 0)]], .int .i64 0),
  ([.lst 7 1 [.v (.int .i64 1), .v (.int .i64 1), .v (.string ⟨#[102]⟩), .v (.int .i64 1), .v (.int .i64 0), .lst 1 1 [.v (.int .u8 9)], .lst 3 2 [.v (.int .i64 2), .v (.int .i64 1), .v (.int .i64 1), .v (.int .i64 3), .v (.int .i64 1), .v (.int .i64 1)]]], .int .i64 0)]
theorem e120 : Ents Tryz.prog 3 120 t120 := .cons p120_0 rfl <| .cons p120_1 rfl <| .cons p120_2 rfl <| .cons p120_3 rfl <| .cons p120_4 rfl <| .cons p120_5 rfl <| .cons p120_6 rfl <| .cons p120_7 rfl <| .cons p120_8 rfl <| .nil
noncomputable def env30 : Env := env29.memo (tab1 120 t120)
theorem sure30 : Sure env30 Tryz.prog := sure29.memo e120

/-- tributary/effect.Same -/
theorem p167_0 : PureE Tryz.prog 3 167 [.agg [.v (.int .i64 2), .v (.int .i64 0), .v (.slice none 0 0)], .agg [.v (.int .i64 2), .v (.int .i64 0), .v (.slice none 0 0)]] (.bool true) := sure30.pure 1000000 1000 (by kernel_rfl)
/-- tributary/effect.Same -/
theorem p167_1 : PureE Tryz.prog 3 167 [.agg [.v (.int .i64 1), .v (.int .i64 0), .lst 1 1 [.v (.int .u8 7)]], .agg [.v (.int .i64 1), .v (.int .i64 0), .lst 1 1 [.v (.int .u8 7)]]] (.bool true) := sure30.pure 1000000 1000 (by kernel_rfl)
/-- tributary/effect.Same -/
theorem p167_2 : PureE Tryz.prog 3 167 [.agg [.v (.int .i64 1), .v (.int .i64 0), .lst 1 1 [.v (.int .u8 7)]], .agg [.v (.int .i64 1), .v (.int .i64 0), .lst 1 1 [.v (.int .u8 8)]]] (.bool false) := sure30.pure 1000000 1000 (by kernel_rfl)
noncomputable def t167 : List (List DV × Value) := [([.agg [.v (.int .i64 2), .v (.int .i64 0), .v (.slice none 0 0)], .agg [.v (.int .i64 2), .v (.int .i64 0), .v (.slice none 0 0)]], .bool true),
  ([.agg [.v (.int .i64 1), .v (.int .i64 0), .lst 1 1 [.v (.int .u8 7)]], .agg [.v (.int .i64 1), .v (.int .i64 0), .lst 1 1 [.v (.int .u8 7)]]], .bool true),
  ([.agg [.v (.int .i64 1), .v (.int .i64 0), .lst 1 1 [.v (.int .u8 7)]], .agg [.v (.int .i64 1), .v (.int .i64 0), .lst 1 1 [.v (.int .u8 8)]]], .bool false)]
theorem e167 : Ents Tryz.prog 3 167 t167 := .cons p167_0 rfl <| .cons p167_1 rfl <| .cons p167_2 rfl <| .nil
noncomputable def env31 : Env := env30.memo (tab1 167 t167)
theorem sure31 : Sure env31 Tryz.prog := sure30.memo e167

/-- tributary/path.Under -/
theorem p151_0 : PureE Tryz.prog 3 151 [.v (.string ⟨#[100]⟩), .v (.string ⟨#[100]⟩)] (.bool false) := sure31.pure 1000000 1000 (by kernel_rfl)
/-- tributary/path.Under -/
theorem p151_1 : PureE Tryz.prog 3 151 [.v (.string ⟨#[100]⟩), .v (.string ⟨#[100, 47, 102]⟩)] (.bool true) := sure31.pure 1000000 1000 (by kernel_rfl)
/-- tributary/path.Under -/
theorem p151_2 : PureE Tryz.prog 3 151 [.v (.string ⟨#[100, 47, 102]⟩), .v (.string ⟨#[100]⟩)] (.bool false) := sure31.pure 1000000 1000 (by kernel_rfl)
noncomputable def t151 : List (List DV × Value) := [([.v (.string ⟨#[100]⟩), .v (.string ⟨#[100]⟩)], .bool false),
  ([.v (.string ⟨#[100]⟩), .v (.string ⟨#[100, 47, 102]⟩)], .bool true),
  ([.v (.string ⟨#[100, 47, 102]⟩), .v (.string ⟨#[100]⟩)], .bool false)]
theorem e151 : Ents Tryz.prog 3 151 t151 := .cons p151_0 rfl <| .cons p151_1 rfl <| .cons p151_2 rfl <| .nil
noncomputable def env32 : Env := env31.memo (tab1 151 t151)
theorem sure32 : Sure env32 Tryz.prog := sure31.memo e151

/-- tributary/clash.over -/
theorem p215_0 : PureE Tryz.prog 3 215 [.agg [.v (.int .i64 2), .v (.int .i64 1), .v (.string ⟨#[100]⟩), .v (.int .i64 2), .v (.int .i64 0), .v (.slice none 0 0), .v (.slice none 0 0)], .agg [.v (.int .i64 3), .v (.int .i64 1), .v (.string ⟨#[100]⟩), .v (.int .i64 2), .v (.int .i64 0), .v (.slice none 0 0), .v (.slice none 0 0)]] (.bool false) := sure32.pure 1000000 1000 (by kernel_rfl)
/-- tributary/clash.over -/
theorem p215_1 : PureE Tryz.prog 3 215 [.agg [.v (.int .i64 3), .v (.int .i64 1), .v (.string ⟨#[100]⟩), .v (.int .i64 2), .v (.int .i64 0), .v (.slice none 0 0), .v (.slice none 0 0)], .agg [.v (.int .i64 2), .v (.int .i64 1), .v (.string ⟨#[100]⟩), .v (.int .i64 2), .v (.int .i64 0), .v (.slice none 0 0), .v (.slice none 0 0)]] (.bool false) := sure32.pure 1000000 1000 (by kernel_rfl)
/-- tributary/clash.over -/
theorem p215_2 : PureE Tryz.prog 3 215 [.agg [.v (.int .i64 2), .v (.int .i64 2), .v (.string ⟨#[100, 47, 102]⟩), .v (.int .i64 1), .v (.int .i64 0), .lst 1 1 [.v (.int .u8 7)], .lst 3 1 [.v (.int .i64 2), .v (.int .i64 1), .v (.int .i64 1)]], .agg [.v (.int .i64 3), .v (.int .i64 1), .v (.string ⟨#[100]⟩), .v (.int .i64 2), .v (.int .i64 0), .v (.slice none 0 0), .v (.slice none 0 0)]] (.bool false) := sure32.pure 1000000 1000 (by kernel_rfl)
/-- tributary/clash.over -/
theorem p215_3 : PureE Tryz.prog 3 215 [.agg [.v (.int .i64 3), .v (.int .i64 1), .v (.string ⟨#[100]⟩), .v (.int .i64 2), .v (.int .i64 0), .v (.slice none 0 0), .v (.slice none 0 0)], .agg [.v (.int .i64 2), .v (.int .i64 2), .v (.string ⟨#[100, 47, 102]⟩), .v (.int .i64 1), .v (.int .i64 0), .lst 1 1 [.v (.int .u8 7)], .lst 3 1 [.v (.int .i64 2), .v (.int .i64 1), .v (.int .i64 1)]]] (.bool false) := sure32.pure 1000000 1000 (by kernel_rfl)
noncomputable def t215 : List (List DV × Value) := [([.agg [.v (.int .i64 2), .v (.int .i64 1), .v (.string ⟨#[100]⟩), .v (.int .i64 2), .v (.int .i64 0), .v (.slice none 0 0), .v (.slice none 0 0)], .agg [.v (.int .i64 3), .v (.int .i64 1), .v (.string ⟨#[100]⟩), .v (.int .i64 2), .v (.int .i64 0), .v (.slice none 0 0), .v (.slice none 0 0)]], .bool false),
  ([.agg [.v (.int .i64 3), .v (.int .i64 1), .v (.string ⟨#[100]⟩), .v (.int .i64 2), .v (.int .i64 0), .v (.slice none 0 0), .v (.slice none 0 0)], .agg [.v (.int .i64 2), .v (.int .i64 1), .v (.string ⟨#[100]⟩), .v (.int .i64 2), .v (.int .i64 0), .v (.slice none 0 0), .v (.slice none 0 0)]], .bool false),
  ([.agg [.v (.int .i64 2), .v (.int .i64 2), .v (.string ⟨#[100, 47, 102]⟩), .v (.int .i64 1), .v (.int .i64 0), .lst 1 1 [.v (.int .u8 7)], .lst 3 1 [.v (.int .i64 2), .v (.int .i64 1), .v (.int .i64 1)]], .agg [.v (.int .i64 3), .v (.int .i64 1), .v (.string ⟨#[100]⟩), .v (.int .i64 2), .v (.int .i64 0), .v (.slice none 0 0), .v (.slice none 0 0)]], .bool false),
  ([.agg [.v (.int .i64 3), .v (.int .i64 1), .v (.string ⟨#[100]⟩), .v (.int .i64 2), .v (.int .i64 0), .v (.slice none 0 0), .v (.slice none 0 0)], .agg [.v (.int .i64 2), .v (.int .i64 2), .v (.string ⟨#[100, 47, 102]⟩), .v (.int .i64 1), .v (.int .i64 0), .lst 1 1 [.v (.int .u8 7)], .lst 3 1 [.v (.int .i64 2), .v (.int .i64 1), .v (.int .i64 1)]]], .bool false)]
theorem e215 : Ents Tryz.prog 3 215 t215 := .cons p215_0 rfl <| .cons p215_1 rfl <| .cons p215_2 rfl <| .cons p215_3 rfl <| .nil
noncomputable def env33 : Env := env32.memo (tab1 215 t215)
theorem sure33 : Sure env33 Tryz.prog := sure32.memo e215

/-- tributary/ledger.Scan -/
theorem p44_0 : PureA Tryz.prog 3 44 [.v (.slice none 0 0), .lst 7 2 [.v (.int .i64 2), .v (.int .i64 1), .v (.string ⟨#[100]⟩), .v (.int .i64 2), .v (.int .i64 0), .v (.slice none 0 0), .v (.slice none 0 0), .v (.int .i64 3), .v (.int .i64 1), .v (.string ⟨#[100]⟩), .v (.int .i64 2), .v (.int .i64 0), .v (.slice none 0 0), .v (.slice none 0 0)], .v (.int .i64 9)] (.tl [.slice none 0 0, .int .i64 0, .int .i64 0]) := sure33.ans 1000000 1000 (by kernel_rfl)
/-- tributary/ledger.Scan -/
theorem p44_1 : PureA Tryz.prog 3 44 [.v (.slice none 0 0), .lst 7 2 [.v (.int .i64 2), .v (.int .i64 1), .v (.string ⟨#[102]⟩), .v (.int .i64 1), .v (.int .i64 0), .lst 1 1 [.v (.int .u8 7)], .v (.slice none 0 0), .v (.int .i64 3), .v (.int .i64 1), .v (.string ⟨#[102]⟩), .v (.int .i64 1), .v (.int .i64 0), .lst 1 1 [.v (.int .u8 8)], .v (.slice none 0 0)], .v (.int .i64 9)] (.ts 5 1 [.int .i64 1, .int .i64 2, .int .i64 1, .int .i64 3, .int .i64 1] [.int .i64 0, .int .i64 0]) := sure33.ans 1000000 1000 (by kernel_rfl)
/-- tributary/ledger.Scan -/
theorem p44_2 : PureA Tryz.prog 3 44 [.lst 5 1 [.v (.int .i64 1), .v (.int .i64 2), .v (.int .i64 1), .v (.int .i64 3), .v (.int .i64 1)], .lst 7 1 [.v (.int .i64 1), .v (.int .i64 1), .v (.string ⟨#[102]⟩), .v (.int .i64 1), .v (.int .i64 0), .lst 1 1 [.v (.int .u8 9)], .lst 3 2 [.v (.int .i64 2), .v (.int .i64 1), .v (.int .i64 1), .v (.int .i64 3), .v (.int .i64 1), .v (.int .i64 1)]], .v (.int .i64 9)] (.ts 5 1 [.int .i64 1, .int .i64 2, .int .i64 1, .int .i64 3, .int .i64 1] [.int .i64 0, .int .i64 0]) := sure33.ans 1000000 1000 (by kernel_rfl)
noncomputable def t44 : List (List DV × Ans) := [([.v (.slice none 0 0), .lst 7 2 [.v (.int .i64 2), .v (.int .i64 1), .v (.string ⟨#[100]⟩), .v (.int .i64 2), .v (.int .i64 0), .v (.slice none 0 0), .v (.slice none 0 0), .v (.int .i64 3), .v (.int .i64 1), .v (.string ⟨#[100]⟩), .v (.int .i64 2), .v (.int .i64 0), .v (.slice none 0 0), .v (.slice none 0 0)], .v (.int .i64 9)], .tl [.slice none 0 0, .int .i64 0, .int .i64 0]),
  ([.v (.slice none 0 0), .lst 7 2 [.v (.int .i64 2), .v (.int .i64 1), .v (.string ⟨#[102]⟩), .v (.int .i64 1), .v (.int .i64 0), .lst 1 1 [.v (.int .u8 7)], .v (.slice none 0 0), .v (.int .i64 3), .v (.int .i64 1), .v (.string ⟨#[102]⟩), .v (.int .i64 1), .v (.int .i64 0), .lst 1 1 [.v (.int .u8 8)], .v (.slice none 0 0)], .v (.int .i64 9)], .ts 5 1 [.int .i64 1, .int .i64 2, .int .i64 1, .int .i64 3, .int .i64 1] [.int .i64 0, .int .i64 0]),
  ([.lst 5 1 [.v (.int .i64 1), .v (.int .i64 2), .v (.int .i64 1), .v (.int .i64 3), .v (.int .i64 1)], .lst 7 1 [.v (.int .i64 1), .v (.int .i64 1), .v (.string ⟨#[102]⟩), .v (.int .i64 1), .v (.int .i64 0), .lst 1 1 [.v (.int .u8 9)], .lst 3 2 [.v (.int .i64 2), .v (.int .i64 1), .v (.int .i64 1), .v (.int .i64 3), .v (.int .i64 1), .v (.int .i64 1)]], .v (.int .i64 9)], .ts 5 1 [.int .i64 1, .int .i64 2, .int .i64 1, .int .i64 3, .int .i64 1] [.int .i64 0, .int .i64 0])]
theorem e44 : EntsA Tryz.prog 3 44 t44 := .cons p44_0 <| .cons p44_1 <| .cons p44_2 <| .nil
noncomputable def env34 : Env := env33.memoA 44 t44
theorem sure34 : Sure env34 Tryz.prog := sure33.memoA e44

/-- strings.Split -/
theorem p141_0 : PureA Tryz.prog 3 141 [.v (.string ⟨#[100]⟩), .v (.string ⟨#[47]⟩)] (.sl 1 1 [.string ⟨#[100]⟩]) := sure34.ans 1000000 1000 (by kernel_rfl)
/-- strings.Split -/
theorem p141_1 : PureA Tryz.prog 3 141 [.v (.string ⟨#[100, 47, 102]⟩), .v (.string ⟨#[47]⟩)] (.sl 1 2 [.string ⟨#[100]⟩, .string ⟨#[102]⟩]) := sure34.ans 1000000 1000 (by kernel_rfl)
noncomputable def t141 : List (List DV × Ans) := [([.v (.string ⟨#[100]⟩), .v (.string ⟨#[47]⟩)], .sl 1 1 [.string ⟨#[100]⟩]),
  ([.v (.string ⟨#[100, 47, 102]⟩), .v (.string ⟨#[47]⟩)], .sl 1 2 [.string ⟨#[100]⟩, .string ⟨#[102]⟩])]
theorem e141 : EntsA Tryz.prog 3 141 t141 := .cons p141_0 <| .cons p141_1 <| .nil
noncomputable def env35 : Env := env34.memoA 141 t141
theorem sure35 : Sure env35 Tryz.prog := sure34.memoA e141

/-- tributary/path.Less -/
theorem p54_0 : PureE Tryz.prog 3 54 [.v (.string ⟨#[100]⟩), .v (.string ⟨#[100, 47, 102]⟩)] (.bool true) := sure35.pure 1000000 1000 (by kernel_rfl)
/-- tributary/path.Less -/
theorem p54_1 : PureE Tryz.prog 3 54 [.v (.string ⟨#[100, 47, 102]⟩), .v (.string ⟨#[100]⟩)] (.bool false) := sure35.pure 1000000 1000 (by kernel_rfl)
noncomputable def t54 : List (List DV × Value) := [([.v (.string ⟨#[100]⟩), .v (.string ⟨#[100, 47, 102]⟩)], .bool true),
  ([.v (.string ⟨#[100, 47, 102]⟩), .v (.string ⟨#[100]⟩)], .bool false)]
theorem e54 : Ents Tryz.prog 3 54 t54 := .cons p54_0 rfl <| .cons p54_1 rfl <| .nil
noncomputable def env36 : Env := env35.memo (tab1 54 t54)
theorem sure36 : Sure env36 Tryz.prog := sure35.memo e54

/-- tributary/path.Sort -/
theorem p112_0 : PureA Tryz.prog 3 112 [.lst 1 3 [.v (.string ⟨#[100]⟩), .v (.string ⟨#[100]⟩), .v (.string ⟨#[100, 47, 102]⟩)]] (.sl 1 2 [.string ⟨#[100]⟩, .string ⟨#[100, 47, 102]⟩]) := sure36.ans 1000000 1000 (by kernel_rfl)
noncomputable def t112 : List (List DV × Ans) := [([.lst 1 3 [.v (.string ⟨#[100]⟩), .v (.string ⟨#[100]⟩), .v (.string ⟨#[100, 47, 102]⟩)]], .sl 1 2 [.string ⟨#[100]⟩, .string ⟨#[100, 47, 102]⟩])]
theorem e112 : EntsA Tryz.prog 3 112 t112 := .cons p112_0 <| .nil
noncomputable def env37 : Env := env36.memoA 112 t112
theorem sure37 : Sure env37 Tryz.prog := sure36.memoA e112

/-- tributary/shelf.Alike -/
theorem p164_0 : PureE Tryz.prog 3 164 [.lst 7 2 [.v (.int .i64 2), .v (.int .i64 1), .v (.string ⟨#[100]⟩), .v (.int .i64 2), .v (.int .i64 0), .v (.slice none 0 0), .v (.slice none 0 0), .v (.int .i64 3), .v (.int .i64 1), .v (.string ⟨#[100]⟩), .v (.int .i64 2), .v (.int .i64 0), .v (.slice none 0 0), .v (.slice none 0 0)]] (.bool true) := sure37.pure 1000000 1000 (by kernel_rfl)
/-- tributary/shelf.Alike -/
theorem p164_1 : PureE Tryz.prog 3 164 [.lst 7 1 [.v (.int .i64 2), .v (.int .i64 2), .v (.string ⟨#[100, 47, 102]⟩), .v (.int .i64 1), .v (.int .i64 0), .lst 1 1 [.v (.int .u8 7)], .lst 3 1 [.v (.int .i64 2), .v (.int .i64 1), .v (.int .i64 1)]]] (.bool true) := sure37.pure 1000000 1000 (by kernel_rfl)
noncomputable def t164 : List (List DV × Value) := [([.lst 7 2 [.v (.int .i64 2), .v (.int .i64 1), .v (.string ⟨#[100]⟩), .v (.int .i64 2), .v (.int .i64 0), .v (.slice none 0 0), .v (.slice none 0 0), .v (.int .i64 3), .v (.int .i64 1), .v (.string ⟨#[100]⟩), .v (.int .i64 2), .v (.int .i64 0), .v (.slice none 0 0), .v (.slice none 0 0)]], .bool true),
  ([.lst 7 1 [.v (.int .i64 2), .v (.int .i64 2), .v (.string ⟨#[100, 47, 102]⟩), .v (.int .i64 1), .v (.int .i64 0), .lst 1 1 [.v (.int .u8 7)], .lst 3 1 [.v (.int .i64 2), .v (.int .i64 1), .v (.int .i64 1)]]], .bool true)]
theorem e164 : Ents Tryz.prog 3 164 t164 := .cons p164_0 rfl <| .cons p164_1 rfl <| .nil
noncomputable def env38 : Env := env37.memo (tab1 164 t164)
theorem sure38 : Sure env38 Tryz.prog := sure37.memo e164

/-- tributary/clash.With -/
theorem p166_0 : PureA Tryz.prog 3 166 [.lst 7 3 [.v (.int .i64 2), .v (.int .i64 1), .v (.string ⟨#[100]⟩), .v (.int .i64 2), .v (.int .i64 0), .v (.slice none 0 0), .v (.slice none 0 0), .v (.int .i64 3), .v (.int .i64 1), .v (.string ⟨#[100]⟩), .v (.int .i64 2), .v (.int .i64 0), .v (.slice none 0 0), .v (.slice none 0 0), .v (.int .i64 2), .v (.int .i64 2), .v (.string ⟨#[100, 47, 102]⟩), .v (.int .i64 1), .v (.int .i64 0), .lst 1 1 [.v (.int .u8 7)], .lst 3 1 [.v (.int .i64 2), .v (.int .i64 1), .v (.int .i64 1)]], .agg [.v (.int .i64 2), .v (.int .i64 1), .v (.string ⟨#[100]⟩), .v (.int .i64 2), .v (.int .i64 0), .v (.slice none 0 0), .v (.slice none 0 0)]] (.lf (.slice none 0 0)) := sure38.ans 1000000 1000 (by kernel_rfl)
/-- tributary/clash.With -/
theorem p166_1 : PureA Tryz.prog 3 166 [.lst 7 3 [.v (.int .i64 2), .v (.int .i64 1), .v (.string ⟨#[100]⟩), .v (.int .i64 2), .v (.int .i64 0), .v (.slice none 0 0), .v (.slice none 0 0), .v (.int .i64 3), .v (.int .i64 1), .v (.string ⟨#[100]⟩), .v (.int .i64 2), .v (.int .i64 0), .v (.slice none 0 0), .v (.slice none 0 0), .v (.int .i64 2), .v (.int .i64 2), .v (.string ⟨#[100, 47, 102]⟩), .v (.int .i64 1), .v (.int .i64 0), .lst 1 1 [.v (.int .u8 7)], .lst 3 1 [.v (.int .i64 2), .v (.int .i64 1), .v (.int .i64 1)]], .agg [.v (.int .i64 3), .v (.int .i64 1), .v (.string ⟨#[100]⟩), .v (.int .i64 2), .v (.int .i64 0), .v (.slice none 0 0), .v (.slice none 0 0)]] (.lf (.slice none 0 0)) := sure38.ans 1000000 1000 (by kernel_rfl)
/-- tributary/clash.With -/
theorem p166_2 : PureA Tryz.prog 3 166 [.lst 7 3 [.v (.int .i64 2), .v (.int .i64 1), .v (.string ⟨#[100]⟩), .v (.int .i64 2), .v (.int .i64 0), .v (.slice none 0 0), .v (.slice none 0 0), .v (.int .i64 3), .v (.int .i64 1), .v (.string ⟨#[100]⟩), .v (.int .i64 2), .v (.int .i64 0), .v (.slice none 0 0), .v (.slice none 0 0), .v (.int .i64 2), .v (.int .i64 2), .v (.string ⟨#[100, 47, 102]⟩), .v (.int .i64 1), .v (.int .i64 0), .lst 1 1 [.v (.int .u8 7)], .lst 3 1 [.v (.int .i64 2), .v (.int .i64 1), .v (.int .i64 1)]], .agg [.v (.int .i64 2), .v (.int .i64 2), .v (.string ⟨#[100, 47, 102]⟩), .v (.int .i64 1), .v (.int .i64 0), .lst 1 1 [.v (.int .u8 7)], .lst 3 1 [.v (.int .i64 2), .v (.int .i64 1), .v (.int .i64 1)]]] (.lf (.slice none 0 0)) := sure38.ans 1000000 1000 (by kernel_rfl)
noncomputable def t166 : List (List DV × Ans) := [([.lst 7 3 [.v (.int .i64 2), .v (.int .i64 1), .v (.string ⟨#[100]⟩), .v (.int .i64 2), .v (.int .i64 0), .v (.slice none 0 0), .v (.slice none 0 0), .v (.int .i64 3), .v (.int .i64 1), .v (.string ⟨#[100]⟩), .v (.int .i64 2), .v (.int .i64 0), .v (.slice none 0 0), .v (.slice none 0 0), .v (.int .i64 2), .v (.int .i64 2), .v (.string ⟨#[100, 47, 102]⟩), .v (.int .i64 1), .v (.int .i64 0), .lst 1 1 [.v (.int .u8 7)], .lst 3 1 [.v (.int .i64 2), .v (.int .i64 1), .v (.int .i64 1)]], .agg [.v (.int .i64 2), .v (.int .i64 1), .v (.string ⟨#[100]⟩), .v (.int .i64 2), .v (.int .i64 0), .v (.slice none 0 0), .v (.slice none 0 0)]], .lf (.slice none 0 0)),
  ([.lst 7 3 [.v (.int .i64 2), .v (.int .i64 1), .v (.string ⟨#[100]⟩), .v (.int .i64 2), .v (.int .i64 0), .v (.slice none 0 0), .v (.slice none 0 0), .v (.int .i64 3), .v (.int .i64 1), .v (.string ⟨#[100]⟩), .v (.int .i64 2), .v (.int .i64 0), .v (.slice none 0 0), .v (.slice none 0 0), .v (.int .i64 2), .v (.int .i64 2), .v (.string ⟨#[100, 47, 102]⟩), .v (.int .i64 1), .v (.int .i64 0), .lst 1 1 [.v (.int .u8 7)], .lst 3 1 [.v (.int .i64 2), .v (.int .i64 1), .v (.int .i64 1)]], .agg [.v (.int .i64 3), .v (.int .i64 1), .v (.string ⟨#[100]⟩), .v (.int .i64 2), .v (.int .i64 0), .v (.slice none 0 0), .v (.slice none 0 0)]], .lf (.slice none 0 0)),
  ([.lst 7 3 [.v (.int .i64 2), .v (.int .i64 1), .v (.string ⟨#[100]⟩), .v (.int .i64 2), .v (.int .i64 0), .v (.slice none 0 0), .v (.slice none 0 0), .v (.int .i64 3), .v (.int .i64 1), .v (.string ⟨#[100]⟩), .v (.int .i64 2), .v (.int .i64 0), .v (.slice none 0 0), .v (.slice none 0 0), .v (.int .i64 2), .v (.int .i64 2), .v (.string ⟨#[100, 47, 102]⟩), .v (.int .i64 1), .v (.int .i64 0), .lst 1 1 [.v (.int .u8 7)], .lst 3 1 [.v (.int .i64 2), .v (.int .i64 1), .v (.int .i64 1)]], .agg [.v (.int .i64 2), .v (.int .i64 2), .v (.string ⟨#[100, 47, 102]⟩), .v (.int .i64 1), .v (.int .i64 0), .lst 1 1 [.v (.int .u8 7)], .lst 3 1 [.v (.int .i64 2), .v (.int .i64 1), .v (.int .i64 1)]]], .lf (.slice none 0 0))]
theorem e166 : EntsA Tryz.prog 3 166 t166 := .cons p166_0 <| .cons p166_1 <| .cons p166_2 <| .nil
noncomputable def env39 : Env := env38.memoA 166 t166
theorem sure39 : Sure env39 Tryz.prog := sure38.memoA e166

/-- tributary/shelf.Past -/
theorem p73_0 : PureA Tryz.prog 3 73 [.lst 7 2 [.v (.int .i64 2), .v (.int .i64 1), .v (.string ⟨#[100]⟩), .v (.int .i64 2), .v (.int .i64 0), .v (.slice none 0 0), .v (.slice none 0 0), .v (.int .i64 3), .v (.int .i64 1), .v (.string ⟨#[100]⟩), .v (.int .i64 2), .v (.int .i64 0), .v (.slice none 0 0), .v (.slice none 0 0)]] (.ts 3 2 [.int .i64 2, .int .i64 1, .int .i64 1, .int .i64 3, .int .i64 1, .int .i64 1] [.int .i64 0]) := sure39.ans 1000000 1000 (by kernel_rfl)
/-- tributary/shelf.Past -/
theorem p73_1 : PureA Tryz.prog 3 73 [.lst 7 1 [.v (.int .i64 2), .v (.int .i64 2), .v (.string ⟨#[100, 47, 102]⟩), .v (.int .i64 1), .v (.int .i64 0), .lst 1 1 [.v (.int .u8 7)], .lst 3 1 [.v (.int .i64 2), .v (.int .i64 1), .v (.int .i64 1)]]] (.ts 3 1 [.int .i64 2, .int .i64 1, .int .i64 2] [.int .i64 0]) := sure39.ans 1000000 1000 (by kernel_rfl)
noncomputable def t73 : List (List DV × Ans) := [([.lst 7 2 [.v (.int .i64 2), .v (.int .i64 1), .v (.string ⟨#[100]⟩), .v (.int .i64 2), .v (.int .i64 0), .v (.slice none 0 0), .v (.slice none 0 0), .v (.int .i64 3), .v (.int .i64 1), .v (.string ⟨#[100]⟩), .v (.int .i64 2), .v (.int .i64 0), .v (.slice none 0 0), .v (.slice none 0 0)]], .ts 3 2 [.int .i64 2, .int .i64 1, .int .i64 1, .int .i64 3, .int .i64 1, .int .i64 1] [.int .i64 0]),
  ([.lst 7 1 [.v (.int .i64 2), .v (.int .i64 2), .v (.string ⟨#[100, 47, 102]⟩), .v (.int .i64 1), .v (.int .i64 0), .lst 1 1 [.v (.int .u8 7)], .lst 3 1 [.v (.int .i64 2), .v (.int .i64 1), .v (.int .i64 1)]]], .ts 3 1 [.int .i64 2, .int .i64 1, .int .i64 2] [.int .i64 0])]
theorem e73 : EntsA Tryz.prog 3 73 t73 := .cons p73_0 <| .cons p73_1 <| .nil
noncomputable def env40 : Env := env39.memoA 73 t73
theorem sure40 : Sure env40 Tryz.prog := sure39.memoA e73

/-- tributary/tributarylaw29.awake -/
theorem p14_0 : PureE Tryz.prog 3 14 [] (.bool true) := sure40.pure 1000000 1000 (by kernel_rfl)
noncomputable def t14 : List (List DV × Value) := [([], .bool true)]
theorem e14 : Ents Tryz.prog 3 14 t14 := .cons p14_0 rfl <| .nil
noncomputable def env41 : Env := env40.memo (tab1 14 t14)
theorem sure41 : Sure env41 Tryz.prog := sure40.memo e14

theorem ran : isTrue (run env41 1000000 1000 (.call 3 []) (mem0 3)) = true := by kernel_rfl
theorem fn : (env.fn 3).isSome = true := by kernel_rfl
theorem calls (W : World) (hW : 3 ≤ W.heap.size) :
    Calls Tryz.prog 3 #[] W fun e W' => e = .returned (.bool true) ∧ (∀ b, b < W.heap.size → W'.heap[b]? = W.heap[b]?) ∧ W.heap.size ≤ W'.heap.size ∧ W'.os = W.os ∧ W'.tape = W.tape ∧ W'.output = W.output :=
  match Option.isSome_iff_exists.1 fn with
  | ⟨_, hx⟩ => closed_calls' (E := env41) (j := 1000000) (k := 1000) sure41.ok sure41.ext sure41.keep hx (show isTrue (run env41 1000000 1000 (.call 3 []) (mem0 env.ng)) = true from env_ng.symm ▸ ran) (show env.ng ≤ _ from env_ng.symm ▸ hW)
end ModelKnown
end Go.Proofs.YtgjpdjkkaogfiabGreatDoor
