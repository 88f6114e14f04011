/- TableMerge holds. Part 28 of 29; no condition. -/
import Derived.Test.YtnmidpahhhdlpaaGreatDoorM27
set_option linter.unusedVariables false
set_option linter.unusedSimpArgs false
set_option maxHeartbeats 4000000
set_option maxRecDepth 100000
open Nat renaming reduceLT → Z1, reduceEqDiff → Z2, reduceAdd → Z3, reduceLeDiff → Z4, reduceMul → Z5
noncomputable section
namespace Go.Proofs.YtnmidpahhhdlpaaGreatDoor
namespace awake
open Go Go.Am
set_option maxRecDepth 1000000
theorem p59_0 : PureE Tryz.prog 3 59 [.v (.string ⟨#[97]⟩)] (.bool true) := sureB.pure 1000000 1000 (by kernel_rfl)
theorem p59_1 : PureE Tryz.prog 3 59 [.v (.string ⟨#[98]⟩)] (.bool true) := sureB.pure 1000000 1000 (by kernel_rfl)
theorem p59_2 : PureE Tryz.prog 3 59 [.v (.string ⟨#[99]⟩)] (.bool true) := sureB.pure 1000000 1000 (by kernel_rfl)
theorem p59_3 : PureE Tryz.prog 3 59 [.v (.string ⟨#[100]⟩)] (.bool true) := sureB.pure 1000000 1000 (by kernel_rfl)
theorem p59_4 : PureE Tryz.prog 3 59 [.v (.string ⟨#[101]⟩)] (.bool true) := sureB.pure 1000000 1000 (by kernel_rfl)
def t59 : List (List DV × Value) := [([.v (.string ⟨#[97]⟩)], .bool true),
 ([.v (.string ⟨#[98]⟩)], .bool true),
 ([.v (.string ⟨#[99]⟩)], .bool true),
 ([.v (.string ⟨#[100]⟩)], .bool true),
 ([.v (.string ⟨#[101]⟩)], .bool true)]
theorem e59 : Ents Tryz.prog 3 59 t59 := .cons p59_0 rfl <| .cons p59_1 rfl <| .cons p59_2 rfl <| .cons p59_3 rfl <| .cons p59_4 rfl <| .nil
def env1 : Env := envB.memo (tab1 59 t59)
theorem sure1 : Sure env1 Tryz.prog := sureB.memo e59
theorem p36_0 : PureE Tryz.prog 3 36 [.v (.string ⟨#[97]⟩)] (.int .i64 0) := sure1.pure 1000000 1000 (by kernel_rfl)
theorem p36_1 : PureE Tryz.prog 3 36 [.v (.string ⟨#[97, 47, 98]⟩)] (.int .i64 0) := sure1.pure 1000000 1000 (by kernel_rfl)
theorem p36_2 : PureE Tryz.prog 3 36 [.v (.string ⟨#[99]⟩)] (.int .i64 0) := sure1.pure 1000000 1000 (by kernel_rfl)
theorem p36_3 : PureE Tryz.prog 3 36 [.v (.string ⟨#[97, 47, 100]⟩)] (.int .i64 0) := sure1.pure 1000000 1000 (by kernel_rfl)
theorem p36_4 : PureE Tryz.prog 3 36 [.v (.string ⟨#[101]⟩)] (.int .i64 0) := sure1.pure 1000000 1000 (by kernel_rfl)
theorem p36_5 : PureE Tryz.prog 3 36 [.v (.string ⟨#[101, 47, 98]⟩)] (.int .i64 0) := sure1.pure 1000000 1000 (by kernel_rfl)
def t36 : List (List DV × Value) := [([.v (.string ⟨#[97]⟩)], .int .i64 0),
 ([.v (.string ⟨#[97, 47, 98]⟩)], .int .i64 0),
 ([.v (.string ⟨#[99]⟩)], .int .i64 0),
 ([.v (.string ⟨#[97, 47, 100]⟩)], .int .i64 0),
 ([.v (.string ⟨#[101]⟩)], .int .i64 0),
 ([.v (.string ⟨#[101, 47, 98]⟩)], .int .i64 0)]
theorem e36 : Ents Tryz.prog 3 36 t36 := .cons p36_0 rfl <| .cons p36_1 rfl <| .cons p36_2 rfl <| .cons p36_3 rfl <| .cons p36_4 rfl <| .cons p36_5 rfl <| .nil
def env2 : Env := env1.memo (tab1 36 t36)
theorem sure2 : Sure env2 Tryz.prog := sure1.memo e36
theorem p37_0 : PureE Tryz.prog 3 37 [.agg [.v (.int .i64 2), .v (.int .i64 0), .v (.slice none 0 0)]] (.int .i64 0) := sure2.pure 1000000 1000 (by kernel_rfl)
theorem p37_1 : PureE Tryz.prog 3 37 [.agg [.v (.int .i64 1), .v (.int .i64 0), .lst 1 1 [.v (.int .u8 7)]]] (.int .i64 0) := sure2.pure 1000000 1000 (by kernel_rfl)
theorem p37_2 : PureE Tryz.prog 3 37 [.agg [.v (.int .i64 1), .v (.int .i64 0), .lst 1 1 [.v (.int .u8 8)]]] (.int .i64 0) := sure2.pure 1000000 1000 (by kernel_rfl)
def t37 : List (List DV × Value) := [([.agg [.v (.int .i64 2), .v (.int .i64 0), .v (.slice none 0 0)]], .int .i64 0),
 ([.agg [.v (.int .i64 1), .v (.int .i64 0), .lst 1 1 [.v (.int .u8 7)]]], .int .i64 0),
 ([.agg [.v (.int .i64 1), .v (.int .i64 0), .lst 1 1 [.v (.int .u8 8)]]], .int .i64 0)]
theorem e37 : Ents Tryz.prog 3 37 t37 := .cons p37_0 rfl <| .cons p37_1 rfl <| .cons p37_2 rfl <| .nil
def env3 : Env := env2.memo (tab1 37 t37)
theorem sure3 : Sure env3 Tryz.prog := sure2.memo e37
theorem p61_0 : PureA Tryz.prog 3 61 [.v (.string ⟨#[97]⟩)] (.tl [.string ⟨#[]⟩, .bool false]) := sure3.ans 1000000 1000 (by kernel_rfl)
theorem p61_1 : PureA Tryz.prog 3 61 [.v (.string ⟨#[97, 47, 98]⟩)] (.tl [.string ⟨#[97]⟩, .bool true]) := sure3.ans 1000000 1000 (by kernel_rfl)
theorem p61_2 : PureA Tryz.prog 3 61 [.v (.string ⟨#[99]⟩)] (.tl [.string ⟨#[]⟩, .bool false]) := sure3.ans 1000000 1000 (by kernel_rfl)
theorem p61_3 : PureA Tryz.prog 3 61 [.v (.string ⟨#[97, 47, 100]⟩)] (.tl [.string ⟨#[97]⟩, .bool true]) := sure3.ans 1000000 1000 (by kernel_rfl)
theorem p61_4 : PureA Tryz.prog 3 61 [.v (.string ⟨#[101]⟩)] (.tl [.string ⟨#[]⟩, .bool false]) := sure3.ans 1000000 1000 (by kernel_rfl)
def t61 : List (List DV × Ans) := [([.v (.string ⟨#[97]⟩)], .tl [.string ⟨#[]⟩, .bool false]),
 ([.v (.string ⟨#[97, 47, 98]⟩)], .tl [.string ⟨#[97]⟩, .bool true]),
 ([.v (.string ⟨#[99]⟩)], .tl [.string ⟨#[]⟩, .bool false]),
 ([.v (.string ⟨#[97, 47, 100]⟩)], .tl [.string ⟨#[97]⟩, .bool true]),
 ([.v (.string ⟨#[101]⟩)], .tl [.string ⟨#[]⟩, .bool false])]
theorem e61 : EntsA Tryz.prog 3 61 t61 := .cons p61_0 <| .cons p61_1 <| .cons p61_2 <| .cons p61_3 <| .cons p61_4 <| .nil
def env4 : Env := env3.memoA 61 t61
theorem sure4 : Sure env4 Tryz.prog := sure3.memoA e61
theorem p63_0 : PureA Tryz.prog 3 63 [.v (.string ⟨#[97]⟩), .v (.string ⟨#[47]⟩)] (.sl 1 1 [.string ⟨#[97]⟩]) := sure4.ans 1000000 1000 (by kernel_rfl)
theorem p63_1 : PureA Tryz.prog 3 63 [.v (.string ⟨#[97, 47, 98]⟩), .v (.string ⟨#[47]⟩)] (.sl 1 2 [.string ⟨#[97]⟩, .string ⟨#[98]⟩]) := sure4.ans 1000000 1000 (by kernel_rfl)
theorem p63_2 : PureA Tryz.prog 3 63 [.v (.string ⟨#[99]⟩), .v (.string ⟨#[47]⟩)] (.sl 1 1 [.string ⟨#[99]⟩]) := sure4.ans 1000000 1000 (by kernel_rfl)
theorem p63_3 : PureA Tryz.prog 3 63 [.v (.string ⟨#[97, 47, 100]⟩), .v (.string ⟨#[47]⟩)] (.sl 1 2 [.string ⟨#[97]⟩, .string ⟨#[100]⟩]) := sure4.ans 1000000 1000 (by kernel_rfl)
theorem p63_4 : PureA Tryz.prog 3 63 [.v (.string ⟨#[101, 47, 98]⟩), .v (.string ⟨#[47]⟩)] (.sl 1 2 [.string ⟨#[101]⟩, .string ⟨#[98]⟩]) := sure4.ans 1000000 1000 (by kernel_rfl)
theorem p63_5 : PureA Tryz.prog 3 63 [.v (.string ⟨#[101]⟩), .v (.string ⟨#[47]⟩)] (.sl 1 1 [.string ⟨#[101]⟩]) := sure4.ans 1000000 1000 (by kernel_rfl)
def t63 : List (List DV × Ans) := [([.v (.string ⟨#[97]⟩), .v (.string ⟨#[47]⟩)], .sl 1 1 [.string ⟨#[97]⟩]),
 ([.v (.string ⟨#[97, 47, 98]⟩), .v (.string ⟨#[47]⟩)], .sl 1 2 [.string ⟨#[97]⟩, .string ⟨#[98]⟩]),
 ([.v (.string ⟨#[99]⟩), .v (.string ⟨#[47]⟩)], .sl 1 1 [.string ⟨#[99]⟩]),
 ([.v (.string ⟨#[97, 47, 100]⟩), .v (.string ⟨#[47]⟩)], .sl 1 2 [.string ⟨#[97]⟩, .string ⟨#[100]⟩]),
 ([.v (.string ⟨#[101, 47, 98]⟩), .v (.string ⟨#[47]⟩)], .sl 1 2 [.string ⟨#[101]⟩, .string ⟨#[98]⟩]),
 ([.v (.string ⟨#[101]⟩), .v (.string ⟨#[47]⟩)], .sl 1 1 [.string ⟨#[101]⟩])]
theorem e63 : EntsA Tryz.prog 3 63 t63 := .cons p63_0 <| .cons p63_1 <| .cons p63_2 <| .cons p63_3 <| .cons p63_4 <| .cons p63_5 <| .nil
def env5 : Env := env4.memoA 63 t63
theorem sure5 : Sure env5 Tryz.prog := sure4.memoA e63
theorem p15_0 : PureE Tryz.prog 3 15 [.v (.string ⟨#[97]⟩), .v (.string ⟨#[97, 47, 98]⟩)] (.bool true) := sure5.pure 1000000 1000 (by kernel_rfl)
theorem p15_1 : PureE Tryz.prog 3 15 [.v (.string ⟨#[97, 47, 98]⟩), .v (.string ⟨#[99]⟩)] (.bool true) := sure5.pure 1000000 1000 (by kernel_rfl)
theorem p15_2 : PureE Tryz.prog 3 15 [.v (.string ⟨#[97, 47, 98]⟩), .v (.string ⟨#[97, 47, 100]⟩)] (.bool true) := sure5.pure 1000000 1000 (by kernel_rfl)
theorem p15_3 : PureE Tryz.prog 3 15 [.v (.string ⟨#[99]⟩), .v (.string ⟨#[97, 47, 100]⟩)] (.bool false) := sure5.pure 1000000 1000 (by kernel_rfl)
theorem p15_4 : PureE Tryz.prog 3 15 [.v (.string ⟨#[97, 47, 100]⟩), .v (.string ⟨#[99]⟩)] (.bool true) := sure5.pure 1000000 1000 (by kernel_rfl)
theorem p15_5 : PureE Tryz.prog 3 15 [.v (.string ⟨#[101, 47, 98]⟩), .v (.string ⟨#[101]⟩)] (.bool false) := sure5.pure 1000000 1000 (by kernel_rfl)
theorem p15_6 : PureE Tryz.prog 3 15 [.v (.string ⟨#[101]⟩), .v (.string ⟨#[101, 47, 98]⟩)] (.bool true) := sure5.pure 1000000 1000 (by kernel_rfl)
theorem p15_7 : PureE Tryz.prog 3 15 [.v (.string ⟨#[99]⟩), .v (.string ⟨#[101, 47, 98]⟩)] (.bool true) := sure5.pure 1000000 1000 (by kernel_rfl)
theorem p15_8 : PureE Tryz.prog 3 15 [.v (.string ⟨#[99]⟩), .v (.string ⟨#[101]⟩)] (.bool true) := sure5.pure 1000000 1000 (by kernel_rfl)
def t15 : List (List DV × Value) := [([.v (.string ⟨#[97]⟩), .v (.string ⟨#[97, 47, 98]⟩)], .bool true),
 ([.v (.string ⟨#[97, 47, 98]⟩), .v (.string ⟨#[99]⟩)], .bool true),
 ([.v (.string ⟨#[97, 47, 98]⟩), .v (.string ⟨#[97, 47, 100]⟩)], .bool true),
 ([.v (.string ⟨#[99]⟩), .v (.string ⟨#[97, 47, 100]⟩)], .bool false),
 ([.v (.string ⟨#[97, 47, 100]⟩), .v (.string ⟨#[99]⟩)], .bool true),
 ([.v (.string ⟨#[101, 47, 98]⟩), .v (.string ⟨#[101]⟩)], .bool false),
 ([.v (.string ⟨#[101]⟩), .v (.string ⟨#[101, 47, 98]⟩)], .bool true),
 ([.v (.string ⟨#[99]⟩), .v (.string ⟨#[101, 47, 98]⟩)], .bool true),
 ([.v (.string ⟨#[99]⟩), .v (.string ⟨#[101]⟩)], .bool true)]
theorem e15 : Ents Tryz.prog 3 15 t15 := .cons p15_0 rfl <| .cons p15_1 rfl <| .cons p15_2 rfl <| .cons p15_3 rfl <| .cons p15_4 rfl <| .cons p15_5 rfl <| .cons p15_6 rfl <| .cons p15_7 rfl <| .cons p15_8 rfl <| .nil
def env6 : Env := env5.memo (tab1 15 t15)
theorem sure6 : Sure env6 Tryz.prog := sure5.memo e15
theorem p40_0 : PureA Tryz.prog 3 40 [.lst 4 3 [.v (.string ⟨#[97]⟩), .v (.int .i64 2), .v (.int .i64 0), .v (.slice none 0 0), .v (.string ⟨#[97, 47, 98]⟩), .v (.int .i64 1), .v (.int .i64 0), .lst 1 1 [.v (.int .u8 7)], .v (.string ⟨#[99]⟩), .v (.int .i64 1), .v (.int .i64 0), .lst 1 1 [.v (.int .u8 8)]], .v (.string ⟨#[97]⟩)] (.tl [.int .i64 0, .bool true]) := sure6.ans 1000000 1000 (by kernel_rfl)
theorem p40_1 : PureA Tryz.prog 3 40 [.lst 4 3 [.v (.string ⟨#[97]⟩), .v (.int .i64 2), .v (.int .i64 0), .v (.slice none 0 0), .v (.string ⟨#[97, 47, 98]⟩), .v (.int .i64 1), .v (.int .i64 0), .lst 1 1 [.v (.int .u8 7)], .v (.string ⟨#[99]⟩), .v (.int .i64 1), .v (.int .i64 0), .lst 1 1 [.v (.int .u8 8)]], .v (.string ⟨#[97, 47, 100]⟩)] (.tl [.int .i64 (-1), .bool false]) := sure6.ans 1000000 1000 (by kernel_rfl)
theorem p40_2 : PureA Tryz.prog 3 40 [.lst 4 3 [.v (.string ⟨#[97]⟩), .v (.int .i64 2), .v (.int .i64 0), .v (.slice none 0 0), .v (.string ⟨#[97, 47, 98]⟩), .v (.int .i64 1), .v (.int .i64 0), .lst 1 1 [.v (.int .u8 7)], .v (.string ⟨#[99]⟩), .v (.int .i64 1), .v (.int .i64 0), .lst 1 1 [.v (.int .u8 8)]], .v (.string ⟨#[101]⟩)] (.tl [.int .i64 (-1), .bool false]) := sure6.ans 1000000 1000 (by kernel_rfl)
theorem p40_3 : PureA Tryz.prog 3 40 [.lst 4 4 [.v (.string ⟨#[97]⟩), .v (.int .i64 2), .v (.int .i64 0), .v (.slice none 0 0), .v (.string ⟨#[97, 47, 98]⟩), .v (.int .i64 1), .v (.int .i64 0), .lst 1 1 [.v (.int .u8 7)], .v (.string ⟨#[97, 47, 100]⟩), .v (.int .i64 2), .v (.int .i64 0), .v (.slice none 0 0), .v (.string ⟨#[99]⟩), .v (.int .i64 1), .v (.int .i64 0), .lst 1 1 [.v (.int .u8 8)]], .v (.string ⟨#[97]⟩)] (.tl [.int .i64 0, .bool true]) := sure6.ans 1000000 1000 (by kernel_rfl)
def t40 : List (List DV × Ans) := [([.lst 4 3 [.v (.string ⟨#[97]⟩), .v (.int .i64 2), .v (.int .i64 0), .v (.slice none 0 0), .v (.string ⟨#[97, 47, 98]⟩), .v (.int .i64 1), .v (.int .i64 0), .lst 1 1 [.v (.int .u8 7)], .v (.string ⟨#[99]⟩), .v (.int .i64 1), .v (.int .i64 0), .lst 1 1 [.v (.int .u8 8)]], .v (.string ⟨#[97]⟩)], .tl [.int .i64 0, .bool true]),
 ([.lst 4 3 [.v (.string ⟨#[97]⟩), .v (.int .i64 2), .v (.int .i64 0), .v (.slice none 0 0), .v (.string ⟨#[97, 47, 98]⟩), .v (.int .i64 1), .v (.int .i64 0), .lst 1 1 [.v (.int .u8 7)], .v (.string ⟨#[99]⟩), .v (.int .i64 1), .v (.int .i64 0), .lst 1 1 [.v (.int .u8 8)]], .v (.string ⟨#[97, 47, 100]⟩)], .tl [.int .i64 (-1), .bool false]),
 ([.lst 4 3 [.v (.string ⟨#[97]⟩), .v (.int .i64 2), .v (.int .i64 0), .v (.slice none 0 0), .v (.string ⟨#[97, 47, 98]⟩), .v (.int .i64 1), .v (.int .i64 0), .lst 1 1 [.v (.int .u8 7)], .v (.string ⟨#[99]⟩), .v (.int .i64 1), .v (.int .i64 0), .lst 1 1 [.v (.int .u8 8)]], .v (.string ⟨#[101]⟩)], .tl [.int .i64 (-1), .bool false]),
 ([.lst 4 4 [.v (.string ⟨#[97]⟩), .v (.int .i64 2), .v (.int .i64 0), .v (.slice none 0 0), .v (.string ⟨#[97, 47, 98]⟩), .v (.int .i64 1), .v (.int .i64 0), .lst 1 1 [.v (.int .u8 7)], .v (.string ⟨#[97, 47, 100]⟩), .v (.int .i64 2), .v (.int .i64 0), .v (.slice none 0 0), .v (.string ⟨#[99]⟩), .v (.int .i64 1), .v (.int .i64 0), .lst 1 1 [.v (.int .u8 8)]], .v (.string ⟨#[97]⟩)], .tl [.int .i64 0, .bool true])]
theorem e40 : EntsA Tryz.prog 3 40 t40 := .cons p40_0 <| .cons p40_1 <| .cons p40_2 <| .cons p40_3 <| .nil
def env7 : Env := env6.memoA 40 t40
theorem sure7 : Sure env7 Tryz.prog := sure6.memoA e40
theorem p14_0 : PureE Tryz.prog 3 14 [.lst 4 3 [.v (.string ⟨#[97]⟩), .v (.int .i64 2), .v (.int .i64 0), .v (.slice none 0 0), .v (.string ⟨#[97, 47, 98]⟩), .v (.int .i64 1), .v (.int .i64 0), .lst 1 1 [.v (.int .u8 7)], .v (.string ⟨#[99]⟩), .v (.int .i64 1), .v (.int .i64 0), .lst 1 1 [.v (.int .u8 8)]]] (.int .i64 0) := sure7.pure 1000000 1000 (by kernel_rfl)
theorem p14_1 : PureE Tryz.prog 3 14 [.lst 4 4 [.v (.string ⟨#[97]⟩), .v (.int .i64 2), .v (.int .i64 0), .v (.slice none 0 0), .v (.string ⟨#[97, 47, 98]⟩), .v (.int .i64 1), .v (.int .i64 0), .lst 1 1 [.v (.int .u8 7)], .v (.string ⟨#[97, 47, 100]⟩), .v (.int .i64 2), .v (.int .i64 0), .v (.slice none 0 0), .v (.string ⟨#[99]⟩), .v (.int .i64 1), .v (.int .i64 0), .lst 1 1 [.v (.int .u8 8)]]] (.int .i64 0) := sure7.pure 1000000 1000 (by kernel_rfl)
def t14 : List (List DV × Value) := [([.lst 4 3 [.v (.string ⟨#[97]⟩), .v (.int .i64 2), .v (.int .i64 0), .v (.slice none 0 0), .v (.string ⟨#[97, 47, 98]⟩), .v (.int .i64 1), .v (.int .i64 0), .lst 1 1 [.v (.int .u8 7)], .v (.string ⟨#[99]⟩), .v (.int .i64 1), .v (.int .i64 0), .lst 1 1 [.v (.int .u8 8)]]], .int .i64 0),
 ([.lst 4 4 [.v (.string ⟨#[97]⟩), .v (.int .i64 2), .v (.int .i64 0), .v (.slice none 0 0), .v (.string ⟨#[97, 47, 98]⟩), .v (.int .i64 1), .v (.int .i64 0), .lst 1 1 [.v (.int .u8 7)], .v (.string ⟨#[97, 47, 100]⟩), .v (.int .i64 2), .v (.int .i64 0), .v (.slice none 0 0), .v (.string ⟨#[99]⟩), .v (.int .i64 1), .v (.int .i64 0), .lst 1 1 [.v (.int .u8 8)]]], .int .i64 0)]
theorem e14 : Ents Tryz.prog 3 14 t14 := .cons p14_0 rfl <| .cons p14_1 rfl <| .nil
def env8 : Env := env7.memo (tab1 14 t14)
theorem sure8 : Sure env8 Tryz.prog := sure7.memo e14
theorem p6_0 : PureE Tryz.prog 3 6 [] (.bool true) := sure8.pure 1000000 1000 (by kernel_rfl)
def t6 : List (List DV × Value) := [([], .bool true)]
theorem e6 : Ents Tryz.prog 3 6 t6 := .cons p6_0 rfl <| .nil
def env9 : Env := env8.memo (tab1 6 t6)
theorem sure9 : Sure env9 Tryz.prog := sure8.memo e6
theorem ran : isTrue (run env9 1000000 1000 (.call 6 []) (mem0 3)) = true := by kernel_rfl
theorem fn : (env.fn 6).isSome = true := by kernel_rfl
theorem calls (W : World) (hW : 3 <= W.heap.size) :
  Calls Tryz.prog 6 #[] W fun e W' => e = .returned (.bool true) /\ (∀ b, b < W.heap.size -> W'.heap[b]? = W.heap[b]?) /\ W.heap.size <= W'.heap.size /\ W'.os = W.os /\ W'.tape = W.tape /\ W'.output = W.output :=
 match Option.isSome_iff_exists.1 fn with
 | ⟨_, hx⟩ => closed_calls' (E := env9) (j := 1000000) (k := 1000) sure9.ok sure9.ext sure9.keep hx (show isTrue (run env9 1000000 1000 (.call 6 []) (mem0 env.ng)) = true from env_ng.symm ▸ ran) (show env.ng <= _ from env_ng.symm ▸ hW)
end awake
end Go.Proofs.YtnmidpahhhdlpaaGreatDoor
end
namespace Go.Proofs.YtnmidpahhhdlpaaGreatDoor
open Go Go.Am Go.Pm
set_option maxRecDepth 1000000
theorem awake6 : PTp env Tryz.prog 6 [] (bv true) := PTp.of_pure env_ok fn6 (show PureE Tryz.prog env.ng 6 [] (.bool true) from env_ng.symm ▸ awake.p6_0) rfl
theorem fit_of {l : List En} (h : longEns l = false) : Fit l := by
 obtain ⟨h1, h2⟩ := not_longE h
 exact ⟨by omega, fun x hx => by have := h2 x hx; omega, fun x hx => by have := h2 x hx; omega⟩
theorem merge_long (A B : List En) (h : (longEns A || longEns B) = true) : PTp env Tryz.prog 4 [encEns A, encEns B] (bv true) := fun M => by
 refine PT.enterR env_ok fn4 (by simp) comp4 fun k hk hf => RX.of env_ok ?_
 simp only [G0, Z1, Z2, Z3, Z4, Z5, argsP]
 refine cp0 awake6 (by decide) ?_
 simp only [G0, Z1, Z2, Z3, Z4, Z5]
 refine cp0 (long5 A) (by decide) ?_
 cases ha : longEns A with
 | true =>
  simp only [G0, Z1, Z2, Z3, Z4, Z5, cnd_t, cnd_f, Bool.not_true, Bool.not_false]
  exact end1 hf rfl ⟨rfl, rfl⟩
 | false =>
  simp only [G0, Z1, Z2, Z3, Z4, Z5, cnd_t, cnd_f, Bool.not_true, Bool.not_false]
  refine cp0 (long5 B) (by decide) ?_
  rw [ha, Bool.false_or] at h
  rw [h]
  simp only [G0, Z1, Z2, Z3, Z4, Z5, cnd_t, cnd_f, Bool.not_true, Bool.not_false, Bool.or_true]
  exact end1 hf rfl ⟨rfl, rfl⟩
theorem merge_bad (A B : List En) (ha : longEns A = false) (hb : longEns B = false) (h : (treeOk A && treeOk B) = false) : PTp env Tryz.prog 4 [encEns A, encEns B] (bv true) := fun M => by
 have fA := fit_of ha
 have fB := fit_of hb
 have h1 := fA.len
 have h2 := fB.len
 refine PT.enterR env_ok fn4 (by simp) comp4 fun k hk hf => RX.of env_ok ?_
 simp only [G0, Z1, Z2, Z3, Z4, Z5, argsP]
 refine cp0 awake6 (by decide) ?_
 simp only [G0, Z1, Z2, Z3, Z4, Z5]
 refine cp0 (long5 A) (by decide) ?_
 rw [ha]
 simp only [G0, Z1, Z2, Z3, Z4, Z5, cnd_t, cnd_f, Bool.not_true, Bool.not_false]
 refine cp0 (long5 B) (by decide) ?_
 rw [hb]
 simp only [G0, Z1, Z2, Z3, Z4, Z5, cnd_t, cnd_f, Bool.not_true, Bool.not_false, Bool.or_self]
 refine cp0 (walk_no fA fB h) (by decide) ?_
 have e2 : ((2 : Int) != 0) = true := rfl
 have e3 : (((0 : Nat) : Int) == 0) = true := rfl
 have e4 : ((2 : Int) == 2) = true := rfl
 simp only [G0, Z1, Z2, Z3, Z4, Z5, e2, e3, e4, cnd_t, cnd_f, Bool.not_true, Bool.not_false, Bool.and_self]
 refine cp0 (check14 A (by omega) fA.path) (by decide) ?_
 cases hA : treeOk A with
 | false =>
  simp only [G0, Z1, Z2, Z3, Z4, Z5, ne_err, cnd_t, cnd_f, Bool.not_true, Bool.not_false, Bool.and_self, Bool.true_or]
  exact end1 hf rfl ⟨rfl, rfl⟩
 | true =>
  simp only [G0, Z1, Z2, Z3, Z4, Z5, ne_err, cnd_t, cnd_f, Bool.not_true, Bool.not_false, Bool.and_self, Bool.true_or]
  refine cp0 (check14 B (by omega) fB.path) (by decide) ?_
  rw [hA, Bool.true_and] at h
  rw [h]
  simp only [G0, Z1, Z2, Z3, Z4, Z5, ne_err, cnd_t, cnd_f, Bool.not_true, Bool.not_false, Bool.and_self, Bool.true_or, Bool.or_true]
  exact end1 hf rfl ⟨rfl, rfl⟩
theorem merge_do (A B : List En) (ha : longEns A = false) (hb : longEns B = false) (hA : treeOk A = true) (hB : treeOk B = true) : PTp env Tryz.prog 4 [encEns A, encEns B] (bv true) := fun M => by
 have fA := fit_of ha
 have fB := fit_of hb
 have h1 := fA.len
 have h2 := fB.len
 have hln := mergeN_len (A.length + B.length) A B
 have eA := mergeN_a (A.length + B.length) A B (Nat.le_refl _) fun x hx => tree_kind hA hx
 have eB := mergeN_b (A.length + B.length) A B (Nat.le_refl _) fun x hx => tree_kind hB hx
 have eS := mergeN_srt (A.length + B.length) A B (tree_srt hA) (tree_srt hB)
 have eP : ∀ x ∈ mergeN (A.length + B.length) A B, x.path.length <= 1000000 := fun x hx => by
  rcases mergeN_mem _ _ _ _ hx with ⟨z, q1, q2⟩ | ⟨z, q1, q2⟩
  ·rw [<- q2]; exact fA.path z q1
  ·rw [<- q2]; exact fB.path z q1
 have hw := walk_list fA fB hA hB
 generalize mergeN (A.length + B.length) A B = R at *
 have e0 : ((0 : Int) != 0) = false := rfl
 refine PT.enterR env_ok fn4 (by simp) comp4 fun k hk hf => RX.of env_ok ?_
 simp only [G0, Z1, Z2, Z3, Z4, Z5, argsP]
 refine cp0 awake6 (by decide) ?_
 simp only [G0, Z1, Z2, Z3, Z4, Z5]
 refine cp0 (long5 A) (by decide) ?_
 rw [ha]
 simp only [G0, Z1, Z2, Z3, Z4, Z5, cnd_t, cnd_f, Bool.not_true, Bool.not_false]
 refine cp0 (long5 B) (by decide) ?_
 rw [hb]
 simp only [G0, Z1, Z2, Z3, Z4, Z5, cnd_t, cnd_f, Bool.not_true, Bool.not_false, Bool.or_self]
 refine cp0 hw (by decide) ?_
 simp only [G0, Z1, Z2, Z3, Z4, Z5, e0]
 refine RX.loop (loop4 (A := A) (B := B) (R := R) (by omega) eP eS (fun tm os jx vx jy vy hx hy hK => ?_) R.length 0 [] none _ none _ _ rfl (Nat.zero_le _) (.nil 0) (.nil 0) (fun q e => by (cases e)) (by exact ⟨rfl, rfl, rfl, rfl, rfl, rfl, rfl⟩))
 rw [eA] at hx
 rw [eB] at hy
 obtain ⟨t0, t1, t5, t6, t8, t9, t10⟩ := hK
 simp only [G0, Z1, Z2, Z3, Z4, Z5, t0]
 refine cp0 (diff_self fA hA) (by decide) ?_
 simp only [G0, Z1, Z2, Z3, Z4, Z5, t0, t1, t5, t8, t9, cnd_t, cnd_f]
 refine cp0 ((same13 A (by omega)).args (.cons hx.le (.cons (.refl _) .nil))) (by decide) ?_
 simp only [G0, Z1, Z2, Z3, Z4, Z5, t0, t1, t5, t8, t9, cnd_t, cnd_f, Bool.and_self]
 refine cp0 ((same13 B (by omega)).args (.cons hy.le (.cons (.refl _) .nil))) (by decide) ?_
 have e1 : (((0 : Nat) : Int) == 0) = true := rfl
 have e3 : ((0 : Int) == 0) = true := rfl
 have e2 : lenL (encPrs []) = some (iv 0) := rfl
 simp only [G0, Z1, Z2, Z3, Z4, Z5, t0, t1, t5, t8, t9, e1, e2, e3, cnd_t, cnd_f, Bool.and_self]
 exact end1 hf rfl ⟨rfl, rfl⟩
theorem merge4 (A B : List En) : PTp env Tryz.prog 4 [encEns A, encEns B] (bv true) := by
 cases h : longEns A || longEns B with
 | true => exact merge_long A B h
 | false =>
  rw [Bool.or_eq_false_iff] at h
  cases h2 : treeOk A && treeOk B with
  | false => exact merge_bad A B h.1 h.2 h2
  | true =>
   rw [Bool.and_eq_true] at h2
   exact merge_do A B h.1 h.2 h2.1 h2.2
abbrev shEn : List Sh := [.str, .int .i64, .int .i64, .sl shB]
theorem en_dec {ds : List DV} (h : ShPs shEn ds) : ∃ e : En, pvs shEn ds = enCells e /\ True := by
 cases h with | cons h1 h =>
 cases h with | cons h2 h =>
 cases h with | cons h3 h =>
 cases h with | cons h4 h =>
 cases h
 obtain ⟨a, a1, a2⟩ := txt_dec h1
 obtain ⟨b, b1, b2⟩ := i_dec h2
 obtain ⟨c, c1, c2⟩ := i_dec h3
 obtain ⟨d, d1, d2⟩ := bytes_dec h4
 exact ⟨⟨a, b, c, d⟩, by simp only [pvs, a1, b1, c1, d1]; rfl, trivial⟩
theorem ens_dec {d : DV} (h : ShP (.sl shEn) d) : ∃ xs : List En, pvD (.sl shEn) d = encEns xs := by
 obtain ⟨xs, h1, h2, _⟩ := sl_dec (l := shEn) (enc := enCells) (B := fun _ => True) (by decide) (fun ds h => en_dec h) h
 exact ⟨xs, h1⟩
theorem merge_pt (ds : List DV) (h : ShAs [.one (.sl shEn), .one (.sl shEn)] ds) : PTp env Tryz.prog 4 (pvAs [.one (.sl shEn), .one (.sl shEn)] ds) (bv true) := by
 cases h with | cons h1 h =>
 cases h with | cons h2 h =>
 cases h
 cases h1 with | one h1 =>
 cases h2 with | one h2 =>
 obtain ⟨xs, hxs⟩ := ens_dec h1
 obtain ⟨ys, hys⟩ := ens_dec h2
 simp only [pvAs, pvA]
 rw [hxs, hys]
 exact merge4 xs ys
end Go.Proofs.YtnmidpahhhdlpaaGreatDoor