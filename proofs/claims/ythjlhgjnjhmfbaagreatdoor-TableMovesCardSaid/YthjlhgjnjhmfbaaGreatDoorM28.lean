/- TableMoves holds. Part 28 of 29; no condition. -/
import Derived.Test.YthjlhgjnjhmfbaaGreatDoorM27
set_option linter.unusedVariables false
set_option linter.unusedSimpArgs false
set_option maxHeartbeats 4000000
set_option maxRecDepth 100000
open Nat renaming reduceLT → Z1, reduceEqDiff → Z2, reduceAdd → Z3, reduceLeDiff → Z4, reduceMul → Z5
noncomputable section
namespace Go.Proofs.YthjlhgjnjhmfbaaGreatDoor
namespace awake
open Go Go.Am
set_option maxRecDepth 1000000
theorem p47_0 : PureE Tryz.prog 3 47 [.v (.string ⟨#[97]⟩)] (.bool true) := sureB.pure 1000000 1000 (by kernel_rfl)
theorem p47_1 : PureE Tryz.prog 3 47 [.v (.string ⟨#[98]⟩)] (.bool true) := sureB.pure 1000000 1000 (by kernel_rfl)
theorem p47_2 : PureE Tryz.prog 3 47 [.v (.string ⟨#[99]⟩)] (.bool true) := sureB.pure 1000000 1000 (by kernel_rfl)
theorem p47_3 : PureE Tryz.prog 3 47 [.v (.string ⟨#[100]⟩)] (.bool true) := sureB.pure 1000000 1000 (by kernel_rfl)
theorem p47_4 : PureE Tryz.prog 3 47 [.v (.string ⟨#[101]⟩)] (.bool true) := sureB.pure 1000000 1000 (by kernel_rfl)
def t47 : List (List DV × Value) := [([.v (.string ⟨#[97]⟩)], .bool true),
 ([.v (.string ⟨#[98]⟩)], .bool true),
 ([.v (.string ⟨#[99]⟩)], .bool true),
 ([.v (.string ⟨#[100]⟩)], .bool true),
 ([.v (.string ⟨#[101]⟩)], .bool true)]
theorem e47 : Ents Tryz.prog 3 47 t47 := .cons p47_0 rfl <| .cons p47_1 rfl <| .cons p47_2 rfl <| .cons p47_3 rfl <| .cons p47_4 rfl <| .nil
def env1 : Env := envB.memo (tab1 47 t47)
theorem sure1 : Sure env1 Tryz.prog := sureB.memo e47
theorem p24_0 : PureE Tryz.prog 3 24 [.v (.string ⟨#[97]⟩)] (.int .i64 0) := sure1.pure 1000000 1000 (by kernel_rfl)
theorem p24_1 : PureE Tryz.prog 3 24 [.v (.string ⟨#[97, 47, 98]⟩)] (.int .i64 0) := sure1.pure 1000000 1000 (by kernel_rfl)
theorem p24_2 : PureE Tryz.prog 3 24 [.v (.string ⟨#[99]⟩)] (.int .i64 0) := sure1.pure 1000000 1000 (by kernel_rfl)
theorem p24_3 : PureE Tryz.prog 3 24 [.v (.string ⟨#[97, 47, 100]⟩)] (.int .i64 0) := sure1.pure 1000000 1000 (by kernel_rfl)
theorem p24_4 : PureE Tryz.prog 3 24 [.v (.string ⟨#[101]⟩)] (.int .i64 0) := sure1.pure 1000000 1000 (by kernel_rfl)
theorem p24_5 : PureE Tryz.prog 3 24 [.v (.string ⟨#[101, 47, 98]⟩)] (.int .i64 0) := sure1.pure 1000000 1000 (by kernel_rfl)
def t24 : List (List DV × Value) := [([.v (.string ⟨#[97]⟩)], .int .i64 0),
 ([.v (.string ⟨#[97, 47, 98]⟩)], .int .i64 0),
 ([.v (.string ⟨#[99]⟩)], .int .i64 0),
 ([.v (.string ⟨#[97, 47, 100]⟩)], .int .i64 0),
 ([.v (.string ⟨#[101]⟩)], .int .i64 0),
 ([.v (.string ⟨#[101, 47, 98]⟩)], .int .i64 0)]
theorem e24 : Ents Tryz.prog 3 24 t24 := .cons p24_0 rfl <| .cons p24_1 rfl <| .cons p24_2 rfl <| .cons p24_3 rfl <| .cons p24_4 rfl <| .cons p24_5 rfl <| .nil
def env2 : Env := env1.memo (tab1 24 t24)
theorem sure2 : Sure env2 Tryz.prog := sure1.memo e24
theorem p35_0 : PureE Tryz.prog 3 35 [.agg [.v (.int .i64 2), .v (.int .i64 0), .v (.slice none 0 0)]] (.int .i64 0) := sure2.pure 1000000 1000 (by kernel_rfl)
theorem p35_1 : PureE Tryz.prog 3 35 [.agg [.v (.int .i64 1), .v (.int .i64 0), .lst 1 1 [.v (.int .u8 7)]]] (.int .i64 0) := sure2.pure 1000000 1000 (by kernel_rfl)
theorem p35_2 : PureE Tryz.prog 3 35 [.agg [.v (.int .i64 1), .v (.int .i64 0), .lst 1 1 [.v (.int .u8 8)]]] (.int .i64 0) := sure2.pure 1000000 1000 (by kernel_rfl)
def t35 : List (List DV × Value) := [([.agg [.v (.int .i64 2), .v (.int .i64 0), .v (.slice none 0 0)]], .int .i64 0),
 ([.agg [.v (.int .i64 1), .v (.int .i64 0), .lst 1 1 [.v (.int .u8 7)]]], .int .i64 0),
 ([.agg [.v (.int .i64 1), .v (.int .i64 0), .lst 1 1 [.v (.int .u8 8)]]], .int .i64 0)]
theorem e35 : Ents Tryz.prog 3 35 t35 := .cons p35_0 rfl <| .cons p35_1 rfl <| .cons p35_2 rfl <| .nil
def env3 : Env := env2.memo (tab1 35 t35)
theorem sure3 : Sure env3 Tryz.prog := sure2.memo e35
theorem p50_0 : PureA Tryz.prog 3 50 [.v (.string ⟨#[97]⟩)] (.tl [.string ⟨#[]⟩, .bool false]) := sure3.ans 1000000 1000 (by kernel_rfl)
theorem p50_1 : PureA Tryz.prog 3 50 [.v (.string ⟨#[97, 47, 98]⟩)] (.tl [.string ⟨#[97]⟩, .bool true]) := sure3.ans 1000000 1000 (by kernel_rfl)
theorem p50_2 : PureA Tryz.prog 3 50 [.v (.string ⟨#[99]⟩)] (.tl [.string ⟨#[]⟩, .bool false]) := sure3.ans 1000000 1000 (by kernel_rfl)
theorem p50_3 : PureA Tryz.prog 3 50 [.v (.string ⟨#[97, 47, 100]⟩)] (.tl [.string ⟨#[97]⟩, .bool true]) := sure3.ans 1000000 1000 (by kernel_rfl)
theorem p50_4 : PureA Tryz.prog 3 50 [.v (.string ⟨#[101]⟩)] (.tl [.string ⟨#[]⟩, .bool false]) := sure3.ans 1000000 1000 (by kernel_rfl)
def t50 : List (List DV × Ans) := [([.v (.string ⟨#[97]⟩)], .tl [.string ⟨#[]⟩, .bool false]),
 ([.v (.string ⟨#[97, 47, 98]⟩)], .tl [.string ⟨#[97]⟩, .bool true]),
 ([.v (.string ⟨#[99]⟩)], .tl [.string ⟨#[]⟩, .bool false]),
 ([.v (.string ⟨#[97, 47, 100]⟩)], .tl [.string ⟨#[97]⟩, .bool true]),
 ([.v (.string ⟨#[101]⟩)], .tl [.string ⟨#[]⟩, .bool false])]
theorem e50 : EntsA Tryz.prog 3 50 t50 := .cons p50_0 <| .cons p50_1 <| .cons p50_2 <| .cons p50_3 <| .cons p50_4 <| .nil
def env4 : Env := env3.memoA 50 t50
theorem sure4 : Sure env4 Tryz.prog := sure3.memoA e50
theorem p81_0 : PureA Tryz.prog 3 81 [.v (.string ⟨#[97]⟩), .v (.string ⟨#[47]⟩)] (.sl 1 1 [.string ⟨#[97]⟩]) := sure4.ans 1000000 1000 (by kernel_rfl)
theorem p81_1 : PureA Tryz.prog 3 81 [.v (.string ⟨#[97, 47, 98]⟩), .v (.string ⟨#[47]⟩)] (.sl 1 2 [.string ⟨#[97]⟩, .string ⟨#[98]⟩]) := sure4.ans 1000000 1000 (by kernel_rfl)
theorem p81_2 : PureA Tryz.prog 3 81 [.v (.string ⟨#[99]⟩), .v (.string ⟨#[47]⟩)] (.sl 1 1 [.string ⟨#[99]⟩]) := sure4.ans 1000000 1000 (by kernel_rfl)
theorem p81_3 : PureA Tryz.prog 3 81 [.v (.string ⟨#[97, 47, 100]⟩), .v (.string ⟨#[47]⟩)] (.sl 1 2 [.string ⟨#[97]⟩, .string ⟨#[100]⟩]) := sure4.ans 1000000 1000 (by kernel_rfl)
theorem p81_4 : PureA Tryz.prog 3 81 [.v (.string ⟨#[101, 47, 98]⟩), .v (.string ⟨#[47]⟩)] (.sl 1 2 [.string ⟨#[101]⟩, .string ⟨#[98]⟩]) := sure4.ans 1000000 1000 (by kernel_rfl)
theorem p81_5 : PureA Tryz.prog 3 81 [.v (.string ⟨#[101]⟩), .v (.string ⟨#[47]⟩)] (.sl 1 1 [.string ⟨#[101]⟩]) := sure4.ans 1000000 1000 (by kernel_rfl)
def t81 : List (List DV × Ans) := [([.v (.string ⟨#[97]⟩), .v (.string ⟨#[47]⟩)], .sl 1 1 [.string ⟨#[97]⟩]),
 ([.v (.string ⟨#[97, 47, 98]⟩), .v (.string ⟨#[47]⟩)], .sl 1 2 [.string ⟨#[97]⟩, .string ⟨#[98]⟩]),
 ([.v (.string ⟨#[99]⟩), .v (.string ⟨#[47]⟩)], .sl 1 1 [.string ⟨#[99]⟩]),
 ([.v (.string ⟨#[97, 47, 100]⟩), .v (.string ⟨#[47]⟩)], .sl 1 2 [.string ⟨#[97]⟩, .string ⟨#[100]⟩]),
 ([.v (.string ⟨#[101, 47, 98]⟩), .v (.string ⟨#[47]⟩)], .sl 1 2 [.string ⟨#[101]⟩, .string ⟨#[98]⟩]),
 ([.v (.string ⟨#[101]⟩), .v (.string ⟨#[47]⟩)], .sl 1 1 [.string ⟨#[101]⟩])]
theorem e81 : EntsA Tryz.prog 3 81 t81 := .cons p81_0 <| .cons p81_1 <| .cons p81_2 <| .cons p81_3 <| .cons p81_4 <| .cons p81_5 <| .nil
def env5 : Env := env4.memoA 81 t81
theorem sure5 : Sure env5 Tryz.prog := sure4.memoA e81
theorem p36_0 : PureE Tryz.prog 3 36 [.v (.string ⟨#[97]⟩), .v (.string ⟨#[97, 47, 98]⟩)] (.bool true) := sure5.pure 1000000 1000 (by kernel_rfl)
theorem p36_1 : PureE Tryz.prog 3 36 [.v (.string ⟨#[97, 47, 98]⟩), .v (.string ⟨#[99]⟩)] (.bool true) := sure5.pure 1000000 1000 (by kernel_rfl)
theorem p36_2 : PureE Tryz.prog 3 36 [.v (.string ⟨#[97, 47, 98]⟩), .v (.string ⟨#[97, 47, 100]⟩)] (.bool true) := sure5.pure 1000000 1000 (by kernel_rfl)
theorem p36_3 : PureE Tryz.prog 3 36 [.v (.string ⟨#[99]⟩), .v (.string ⟨#[97, 47, 100]⟩)] (.bool false) := sure5.pure 1000000 1000 (by kernel_rfl)
theorem p36_4 : PureE Tryz.prog 3 36 [.v (.string ⟨#[97, 47, 100]⟩), .v (.string ⟨#[99]⟩)] (.bool true) := sure5.pure 1000000 1000 (by kernel_rfl)
theorem p36_5 : PureE Tryz.prog 3 36 [.v (.string ⟨#[101, 47, 98]⟩), .v (.string ⟨#[101]⟩)] (.bool false) := sure5.pure 1000000 1000 (by kernel_rfl)
theorem p36_6 : PureE Tryz.prog 3 36 [.v (.string ⟨#[101]⟩), .v (.string ⟨#[101, 47, 98]⟩)] (.bool true) := sure5.pure 1000000 1000 (by kernel_rfl)
theorem p36_7 : PureE Tryz.prog 3 36 [.v (.string ⟨#[99]⟩), .v (.string ⟨#[101, 47, 98]⟩)] (.bool true) := sure5.pure 1000000 1000 (by kernel_rfl)
theorem p36_8 : PureE Tryz.prog 3 36 [.v (.string ⟨#[99]⟩), .v (.string ⟨#[101]⟩)] (.bool true) := sure5.pure 1000000 1000 (by kernel_rfl)
def t36 : List (List DV × Value) := [([.v (.string ⟨#[97]⟩), .v (.string ⟨#[97, 47, 98]⟩)], .bool true),
 ([.v (.string ⟨#[97, 47, 98]⟩), .v (.string ⟨#[99]⟩)], .bool true),
 ([.v (.string ⟨#[97, 47, 98]⟩), .v (.string ⟨#[97, 47, 100]⟩)], .bool true),
 ([.v (.string ⟨#[99]⟩), .v (.string ⟨#[97, 47, 100]⟩)], .bool false),
 ([.v (.string ⟨#[97, 47, 100]⟩), .v (.string ⟨#[99]⟩)], .bool true),
 ([.v (.string ⟨#[101, 47, 98]⟩), .v (.string ⟨#[101]⟩)], .bool false),
 ([.v (.string ⟨#[101]⟩), .v (.string ⟨#[101, 47, 98]⟩)], .bool true),
 ([.v (.string ⟨#[99]⟩), .v (.string ⟨#[101, 47, 98]⟩)], .bool true),
 ([.v (.string ⟨#[99]⟩), .v (.string ⟨#[101]⟩)], .bool true)]
theorem e36 : Ents Tryz.prog 3 36 t36 := .cons p36_0 rfl <| .cons p36_1 rfl <| .cons p36_2 rfl <| .cons p36_3 rfl <| .cons p36_4 rfl <| .cons p36_5 rfl <| .cons p36_6 rfl <| .cons p36_7 rfl <| .cons p36_8 rfl <| .nil
def env6 : Env := env5.memo (tab1 36 t36)
theorem sure6 : Sure env6 Tryz.prog := sure5.memo e36
theorem p25_0 : PureA Tryz.prog 3 25 [.lst 4 3 [.v (.string ⟨#[97]⟩), .v (.int .i64 2), .v (.int .i64 0), .v (.slice none 0 0), .v (.string ⟨#[97, 47, 98]⟩), .v (.int .i64 1), .v (.int .i64 0), .lst 1 1 [.v (.int .u8 7)], .v (.string ⟨#[99]⟩), .v (.int .i64 1), .v (.int .i64 0), .lst 1 1 [.v (.int .u8 8)]], .v (.string ⟨#[97]⟩)] (.tl [.int .i64 0, .bool true]) := sure6.ans 1000000 1000 (by kernel_rfl)
theorem p25_1 : PureA Tryz.prog 3 25 [.lst 4 3 [.v (.string ⟨#[97]⟩), .v (.int .i64 2), .v (.int .i64 0), .v (.slice none 0 0), .v (.string ⟨#[97, 47, 98]⟩), .v (.int .i64 1), .v (.int .i64 0), .lst 1 1 [.v (.int .u8 7)], .v (.string ⟨#[99]⟩), .v (.int .i64 1), .v (.int .i64 0), .lst 1 1 [.v (.int .u8 8)]], .v (.string ⟨#[97, 47, 100]⟩)] (.tl [.int .i64 (-1), .bool false]) := sure6.ans 1000000 1000 (by kernel_rfl)
theorem p25_2 : PureA Tryz.prog 3 25 [.lst 4 3 [.v (.string ⟨#[97]⟩), .v (.int .i64 2), .v (.int .i64 0), .v (.slice none 0 0), .v (.string ⟨#[97, 47, 98]⟩), .v (.int .i64 1), .v (.int .i64 0), .lst 1 1 [.v (.int .u8 7)], .v (.string ⟨#[99]⟩), .v (.int .i64 1), .v (.int .i64 0), .lst 1 1 [.v (.int .u8 8)]], .v (.string ⟨#[101]⟩)] (.tl [.int .i64 (-1), .bool false]) := sure6.ans 1000000 1000 (by kernel_rfl)
theorem p25_3 : PureA Tryz.prog 3 25 [.lst 4 4 [.v (.string ⟨#[97]⟩), .v (.int .i64 2), .v (.int .i64 0), .v (.slice none 0 0), .v (.string ⟨#[97, 47, 98]⟩), .v (.int .i64 1), .v (.int .i64 0), .lst 1 1 [.v (.int .u8 7)], .v (.string ⟨#[97, 47, 100]⟩), .v (.int .i64 2), .v (.int .i64 0), .v (.slice none 0 0), .v (.string ⟨#[99]⟩), .v (.int .i64 1), .v (.int .i64 0), .lst 1 1 [.v (.int .u8 8)]], .v (.string ⟨#[97]⟩)] (.tl [.int .i64 0, .bool true]) := sure6.ans 1000000 1000 (by kernel_rfl)
def t25 : List (List DV × Ans) := [([.lst 4 3 [.v (.string ⟨#[97]⟩), .v (.int .i64 2), .v (.int .i64 0), .v (.slice none 0 0), .v (.string ⟨#[97, 47, 98]⟩), .v (.int .i64 1), .v (.int .i64 0), .lst 1 1 [.v (.int .u8 7)], .v (.string ⟨#[99]⟩), .v (.int .i64 1), .v (.int .i64 0), .lst 1 1 [.v (.int .u8 8)]], .v (.string ⟨#[97]⟩)], .tl [.int .i64 0, .bool true]),
 ([.lst 4 3 [.v (.string ⟨#[97]⟩), .v (.int .i64 2), .v (.int .i64 0), .v (.slice none 0 0), .v (.string ⟨#[97, 47, 98]⟩), .v (.int .i64 1), .v (.int .i64 0), .lst 1 1 [.v (.int .u8 7)], .v (.string ⟨#[99]⟩), .v (.int .i64 1), .v (.int .i64 0), .lst 1 1 [.v (.int .u8 8)]], .v (.string ⟨#[97, 47, 100]⟩)], .tl [.int .i64 (-1), .bool false]),
 ([.lst 4 3 [.v (.string ⟨#[97]⟩), .v (.int .i64 2), .v (.int .i64 0), .v (.slice none 0 0), .v (.string ⟨#[97, 47, 98]⟩), .v (.int .i64 1), .v (.int .i64 0), .lst 1 1 [.v (.int .u8 7)], .v (.string ⟨#[99]⟩), .v (.int .i64 1), .v (.int .i64 0), .lst 1 1 [.v (.int .u8 8)]], .v (.string ⟨#[101]⟩)], .tl [.int .i64 (-1), .bool false]),
 ([.lst 4 4 [.v (.string ⟨#[97]⟩), .v (.int .i64 2), .v (.int .i64 0), .v (.slice none 0 0), .v (.string ⟨#[97, 47, 98]⟩), .v (.int .i64 1), .v (.int .i64 0), .lst 1 1 [.v (.int .u8 7)], .v (.string ⟨#[97, 47, 100]⟩), .v (.int .i64 2), .v (.int .i64 0), .v (.slice none 0 0), .v (.string ⟨#[99]⟩), .v (.int .i64 1), .v (.int .i64 0), .lst 1 1 [.v (.int .u8 8)]], .v (.string ⟨#[97]⟩)], .tl [.int .i64 0, .bool true])]
theorem e25 : EntsA Tryz.prog 3 25 t25 := .cons p25_0 <| .cons p25_1 <| .cons p25_2 <| .cons p25_3 <| .nil
def env7 : Env := env6.memoA 25 t25
theorem sure7 : Sure env7 Tryz.prog := sure6.memoA e25
theorem p15_0 : PureE Tryz.prog 3 15 [.lst 4 3 [.v (.string ⟨#[97]⟩), .v (.int .i64 2), .v (.int .i64 0), .v (.slice none 0 0), .v (.string ⟨#[97, 47, 98]⟩), .v (.int .i64 1), .v (.int .i64 0), .lst 1 1 [.v (.int .u8 7)], .v (.string ⟨#[99]⟩), .v (.int .i64 1), .v (.int .i64 0), .lst 1 1 [.v (.int .u8 8)]]] (.int .i64 0) := sure7.pure 1000000 1000 (by kernel_rfl)
theorem p15_1 : PureE Tryz.prog 3 15 [.lst 4 4 [.v (.string ⟨#[97]⟩), .v (.int .i64 2), .v (.int .i64 0), .v (.slice none 0 0), .v (.string ⟨#[97, 47, 98]⟩), .v (.int .i64 1), .v (.int .i64 0), .lst 1 1 [.v (.int .u8 7)], .v (.string ⟨#[97, 47, 100]⟩), .v (.int .i64 2), .v (.int .i64 0), .v (.slice none 0 0), .v (.string ⟨#[99]⟩), .v (.int .i64 1), .v (.int .i64 0), .lst 1 1 [.v (.int .u8 8)]]] (.int .i64 0) := sure7.pure 1000000 1000 (by kernel_rfl)
def t15 : List (List DV × Value) := [([.lst 4 3 [.v (.string ⟨#[97]⟩), .v (.int .i64 2), .v (.int .i64 0), .v (.slice none 0 0), .v (.string ⟨#[97, 47, 98]⟩), .v (.int .i64 1), .v (.int .i64 0), .lst 1 1 [.v (.int .u8 7)], .v (.string ⟨#[99]⟩), .v (.int .i64 1), .v (.int .i64 0), .lst 1 1 [.v (.int .u8 8)]]], .int .i64 0),
 ([.lst 4 4 [.v (.string ⟨#[97]⟩), .v (.int .i64 2), .v (.int .i64 0), .v (.slice none 0 0), .v (.string ⟨#[97, 47, 98]⟩), .v (.int .i64 1), .v (.int .i64 0), .lst 1 1 [.v (.int .u8 7)], .v (.string ⟨#[97, 47, 100]⟩), .v (.int .i64 2), .v (.int .i64 0), .v (.slice none 0 0), .v (.string ⟨#[99]⟩), .v (.int .i64 1), .v (.int .i64 0), .lst 1 1 [.v (.int .u8 8)]]], .int .i64 0)]
theorem e15 : Ents Tryz.prog 3 15 t15 := .cons p15_0 rfl <| .cons p15_1 rfl <| .nil
def env8 : Env := env7.memo (tab1 15 t15)
theorem sure8 : Sure env8 Tryz.prog := sure7.memo e15
theorem p5_0 : PureE Tryz.prog 3 5 [] (.bool true) := sure8.pure 1000000 1000 (by kernel_rfl)
def t5 : List (List DV × Value) := [([], .bool true)]
theorem e5 : Ents Tryz.prog 3 5 t5 := .cons p5_0 rfl <| .nil
def env9 : Env := env8.memo (tab1 5 t5)
theorem sure9 : Sure env9 Tryz.prog := sure8.memo e5
theorem ran : isTrue (run env9 1000000 1000 (.call 5 []) (mem0 3)) = true := by kernel_rfl
theorem fn : (env.fn 5).isSome = true := by kernel_rfl
theorem calls (W : World) (hW : 3 <= W.heap.size) :
  Calls Tryz.prog 5 #[] W fun e W' => e = .returned (.bool true) /\ (∀ b, b < W.heap.size -> W'.heap[b]? = W.heap[b]?) /\ W.heap.size <= W'.heap.size /\ W'.os = W.os /\ W'.tape = W.tape /\ W'.output = W.output :=
 match Option.isSome_iff_exists.1 fn with
 | ⟨_, hx⟩ => closed_calls' (E := env9) (j := 1000000) (k := 1000) sure9.ok sure9.ext sure9.keep hx (show isTrue (run env9 1000000 1000 (.call 5 []) (mem0 env.ng)) = true from env_ng.symm ▸ ran) (show env.ng <= _ from env_ng.symm ▸ hW)
end awake
end Go.Proofs.YthjlhgjnjhmfbaaGreatDoor
end
namespace Go.Proofs.YthjlhgjnjhmfbaaGreatDoor
open Go Go.Am Go.Pm
set_option maxRecDepth 1000000
theorem awake5 : PTp env Tryz.prog 5 [] (bv true) := PTp.of_pure env_ok fn5 (show PureE Tryz.prog env.ng 5 [] (.bool true) from env_ng.symm ▸ awake.p5_0) rfl
theorem fit_of {l : List En} (h : longEns l = false) : Fit l := by
 obtain ⟨h1, h2⟩ := not_longE h
 exact ⟨by omega, fun x hx => by have := h2 x hx; omega, fun x hx => by have := h2 x hx; omega⟩
theorem mv_zero {t : List En} {a b : List UInt8} (h1 : Tree t) (h2 : pathOk a = true) (h3 : pathOk b = true) (h4 : ∃ x ∈ t, x.path = a) (h5 : ∀ x ∈ t, x.path ≠ b) (h6 : b ≠ a) (h7 : underB a b = false) (h8 : parI t b = 0) (h9 : ∀ x ∈ t, pathOk (rep a b x).path = true) : mvE t a b = 0 := by
 have g4 : ∃ z, getE' t a = some z := by
  obtain ⟨x, hx, rfl⟩ := h4
  exact ⟨x, getE_of h1.srt hx⟩
 obtain ⟨z, g4⟩ := g4
 have g5 : getE' t b = none := by
  cases h : getE' t b with
  | none => rfl
  | some y => exact absurd (getE_mem h).2 (h5 y (getE_mem h).1)
 have g6 : (b == a) = false := by simpa using h6
 have g9 : allOk t a b = true := List.all_eq_true.2 h9
 simp only [mvE, tree_iff.2 h1, h2, h3, g4, g5, g6, h7, h8, g9]
 rfl
theorem rep_len {t u : List En} {a b : List UInt8} (h : Mv t a b u) {n m : Nat} (ht : ∀ x ∈ t, x.path.length <= n) (hb : b.length <= m) : ∀ x ∈ u, x.path.length <= n + m := by
 intro y hy
 obtain ⟨x, hx, rfl⟩ := h.mem.1 hy
 have := ht x hx
 unfold rep
 split
 ·show (b ++ x.path.drop a.length).length <= n + m
  rw [List.length_append, List.length_drop]; omega
 ·omega
theorem rep_fit {t u : List En} {a b : List UInt8} (h : Mv t a b u) (ht : Fit t) (hp : ∀ x ∈ t, x.path.length <= 100) (hb : b.length <= 100) : Fit u := by
 refine ⟨by rw [h.len]; exact ht.len, fun x hx => ?_, fun y hy => ?_⟩
 ·have := rep_len h hp hb x hx; omega
 ·obtain ⟨x, hx, rfl⟩ := h.mem.1 hy
  rw [(rep_kind a b x).2.2]
  exact ht.bytes x hx
theorem moves3 (t : List En) (a b : List UInt8) : PTp env Tryz.prog 3 [encEns t, str a, str b] (bv true) := fun M => by
 refine PT.enterR env_ok fn3 (by simp) comp3 fun k hk hf => RX.of env_ok ?_
 simp only [G0, Z1, Z2, Z3, Z4, Z5, argsP]
 refine cp0 awake5 (by decide) ?_
 simp only [G0, Z1, Z2, Z3, Z4, Z5]
 refine cp0 (long5 t) (by decide) ?_
 cases hlt : longEns t with
 | true =>
  simp only [G0, Z1, Z2, Z3, Z4, Z5, cnd_t, cnd_f, Bool.not_true, Bool.not_false]
  exact end1 hf rfl ⟨rfl, rfl⟩
 | false =>
 cases hla : decide ((a.length : Int) > 100) with
 | true =>
  simp only [G0, Z1, Z2, Z3, Z4, Z5, cnd_t, cnd_f, Bool.not_true, Bool.not_false, hla]
  exact end1 hf rfl ⟨rfl, rfl⟩
 | false =>
 cases hlb : decide ((b.length : Int) > 100) with
 | true =>
  simp only [G0, Z1, Z2, Z3, Z4, Z5, cnd_t, cnd_f, Bool.not_true, Bool.not_false, hla, hlb]
  exact end1 hf rfl ⟨rfl, rfl⟩
 | false =>
 have ha : a.length <= 100 := by have := of_decide_eq_false hla; omega
 have hb : b.length <= 100 := by have := of_decide_eq_false hlb; omega
 have ft := fit_of hlt
 have hp : ∀ x ∈ t, x.path.length <= 100 := fun x hx => ((not_longE hlt).2 x hx).1
 have hl := ft.len
 simp only [G0, Z1, Z2, Z3, Z4, Z5, cnd_t, cnd_f, Bool.not_true, Bool.not_false, hla, hlb]
 refine cm (first := []) (cap := []) ((move7 ft (fun x hx => by have := hp x hx; omega) (by omega) (by omega) _).mono fun z M1 hz => ?_)
 obtain ⟨⟨u, rfl, hR1, hR2⟩, rfl⟩ := hz
 refine ⟨[], M, rfl, .refl _, by decide, ?_⟩
 by_cases he : mvE t a b = 0
 rotate_left
 ·have hne : (mvE t a b != 0) = true := by simpa using he
  have hu := hR1 he
  subst hu
  have e3 : (((0 : Nat) : Int) == 0) = true := rfl
  have hlen : lenL (encEns []) = some (iv (0 : Nat)) := rfl
  simp only [G0, Z1, Z2, Z3, Z4, Z5, hne, hlen, e3, cnd_t, Bool.and_self]
  exact end1 hf rfl ⟨rfl, rfl⟩
 have hm := hR2 he
 have fu := rep_fit hm ft hp hb
 have hpu := rep_len hm hp hb
 obtain ⟨x, y, gx, gy, k1, k2, k3⟩ := hm.get
 have z0 : ((0 : Int) != 0) = false := rfl
 rw [he]
 simp only [G0, Z1, Z2, Z3, Z4, Z5, z0]
 refine cp0 (get8 t (by omega) ft.bytes a) (by decide) ?_
 rw [gx]
 have hst1 := hstF x.kind x.mode x.bytes
 simp only [G0, Z1, Z2, Z3, Z4, Z5, effE, hst1]
 refine cp0 (get8 u (by have := fu.len; omega) fu.bytes b) (by decide) ?_
 rw [gy]
 have hst2 := hstF y.kind y.mode y.bytes
 have hs1 : (some x).isSome = true := rfl
 have hs2 : (some y).isSome = true := rfl
 simp only [G0, Z1, Z2, Z3, Z4, Z5, effE, hst2, hs1, hs2, Bool.not_true, Bool.not_false, Bool.or_self, cnd_t, cnd_f]
 refine cp0 (same_effect _ _ _ _ _ _) (by decide) ?_
 have hse : (x.kind == y.kind && x.mode == y.mode && x.bytes == y.bytes) = true := by rw [k1, k2, k3]; simp
 rw [hse]
 simp only [G0, Z1, Z2, Z3, Z4, Z5, Bool.not_true, Bool.not_false, Bool.or_self, cnd_t, cnd_f]
 refine cp0 (under_list ft a (by omega)) (by decide) ?_
 have hl1 : lenL (encEns (undL t a)) = some (iv ((undL t a).length : Nat)) := rfl
 simp only [G0, Z1, Z2, Z3, Z4, Z5, Bool.not_false, Bool.or_self, cnd_t, cnd_f, hl1]
 refine cp0 (under_list fu b (by omega)) (by decide) ?_
 have hl2 : lenL (encEns (undL u b)) = some (iv ((undL t a).length : Nat)) := by
  rw [show (undL t a).length = (undL u b).length from hm.under]; rfl
 have hl3 : lenL (encEns u) = some (iv (t.length : Nat)) := by rw [<- hm.len]; rfl
 have hl4 : lenL (encEns t) = some (iv (t.length : Nat)) := rfl
 simp only [G0, Z1, Z2, Z3, Z4, Z5, Bool.not_false, Bool.or_self, cnd_t, cnd_f, hl1, hl2, hl3, hl4, bne_self_eq_false]
 refine cm (first := []) (cap := []) ((move7 fu (fun x hx => by have := hpu x hx; omega) (by omega) (by omega) _).mono fun z M1 hz => ?_)
 obtain ⟨⟨v, rfl, hV1, hV2⟩, rfl⟩ := hz
 refine ⟨_, M, rfl, .refl _, by decide, ?_⟩
 obtain ⟨q1, q2, q3, q4, q5, q6, q7⟩ := hm.back
 have hz := mv_zero q1 hm.okb hm.oka q2 q3 q4 q5 q6 q7
 have hv := hm.same (hV2 hz)
 subst hv
 rw [hz]
 have z1 : ((0 : Int) == 0) = true := rfl
 simp only [G0, Z1, Z2, Z3, Z4, Z5, z1, cnd_t, cnd_f, Bool.and_self]
 refine cp0 (same13 v (by omega)) (by decide) ?_
 simp only [G0, Z1, Z2, Z3, Z4, Z5, cnd_t, cnd_f, Bool.and_self]
 exact end1 hf rfl ⟨rfl, rfl⟩
abbrev shEn : List Sh := [.str, .int .i64, .int .i64, .sl shB]
theorem en_dec {ds : List DV} (h : ShPs shEn ds) : ∃ e : En, pvs shEn ds = enCells e /\ True := by
 cases h with | cons h1 h =>
 cases h with | cons h2 h =>
 cases h with | cons h3 h =>
 cases h with | cons h4 h =>
 cases h
 obtain ⟨a, a1, a2⟩ := txt_dec h1
 obtain ⟨b, b1, b2⟩ := i_dec h2
 obtain ⟨c, c1, c2⟩ := i_dec h3
 obtain ⟨d, d1, d2⟩ := bytes_dec h4
 exact ⟨⟨a, b, c, d⟩, by simp only [pvs, a1, b1, c1, d1]; rfl, trivial⟩
theorem ens_dec {d : DV} (h : ShP (.sl shEn) d) : ∃ xs : List En, pvD (.sl shEn) d = encEns xs := by
 obtain ⟨xs, h1, h2, _⟩ := sl_dec (l := shEn) (enc := enCells) (B := fun _ => True) (by decide) (fun ds h => en_dec h) h
 exact ⟨xs, h1⟩
theorem moves_pt (ds : List DV) (h : ShAs [.one (.sl shEn), .one .str, .one .str] ds) : PTp env Tryz.prog 3 (pvAs [.one (.sl shEn), .one .str, .one .str] ds) (bv true) := by
 cases h with | cons h1 h =>
 cases h with | cons h2 h =>
 cases h with | cons h3 h =>
 cases h
 cases h1 with | one h1 =>
 cases h2 with | one h2 =>
 cases h3 with | one h3 =>
 obtain ⟨xs, hxs⟩ := ens_dec h1
 obtain ⟨p, p1, p2⟩ := txt_dec h2
 obtain ⟨q, q1, q2⟩ := txt_dec h3
 simp only [pvAs, pvA]
 rw [hxs, p1, q1]
 exact moves3 xs p q
end Go.Proofs.YthjlhgjnjhmfbaaGreatDoor