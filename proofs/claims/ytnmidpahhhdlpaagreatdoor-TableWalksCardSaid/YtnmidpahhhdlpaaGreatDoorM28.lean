/- TableWalks holds. Part 28 of 29; no condition. -/
import Derived.Test.YtnmidpahhhdlpaaGreatDoorM27
set_option linter.unusedVariables false
set_option linter.unusedSimpArgs false
set_option maxHeartbeats 4000000
set_option maxRecDepth 100000
open Nat renaming reduceLT → Z1, reduceEqDiff → Z2, reduceAdd → Z3, reduceLeDiff → Z4, reduceMul → Z5
noncomputable section
namespace Go.Proofs.YtnmidpahhhdlpaaGreatDoor
namespace awake
open Go Go.Am
set_option maxRecDepth 1000000
theorem bBG : y0 Tryz.prog 3 59 [.v (.string ⟨#[97]⟩)] (.bool true) := tI.pure 1000000 1000 (by kernel_rfl)
theorem bA6 : y0 Tryz.prog 3 59 [.v (.string ⟨#[98]⟩)] (.bool true) := tI.pure 1000000 1000 (by kernel_rfl)
theorem bAT : y0 Tryz.prog 3 59 [.v (.string ⟨#[99]⟩)] (.bool true) := tI.pure 1000000 1000 (by kernel_rfl)
theorem bAG : y0 Tryz.prog 3 59 [.v (.string ⟨#[100]⟩)] (.bool true) := tI.pure 1000000 1000 (by kernel_rfl)
theorem aYM : y0 Tryz.prog 3 59 [.v (.string ⟨#[101]⟩)] (.bool true) := tI.pure 1000000 1000 (by kernel_rfl)
def t59 : List (List DV × Value) := [([.v (.string ⟨#[97]⟩)], .bool true),
 ([.v (.string ⟨#[98]⟩)], .bool true),
 ([.v (.string ⟨#[99]⟩)], .bool true),
 ([.v (.string ⟨#[100]⟩)], .bool true),
 ([.v (.string ⟨#[101]⟩)], .bool true)]
theorem e59 : jX Tryz.prog 3 59 t59 := .cons bBG rfl <| .cons bA6 rfl <| .cons bAT rfl <| .cons bAG rfl <| .cons aYM rfl <| .nil
def bA9 : d9 := bB6.memo (uW 59 t59)
theorem oP : M7 bA9 Tryz.prog := tI.memo e59
theorem aZC : y0 Tryz.prog 3 36 [.v (.string ⟨#[97]⟩)] (.int .i64 0) := oP.pure 1000000 1000 (by kernel_rfl)
theorem aY3 : y0 Tryz.prog 3 36 [.v (.string ⟨#[97, 47, 98]⟩)] (.int .i64 0) := oP.pure 1000000 1000 (by kernel_rfl)
theorem aYF : y0 Tryz.prog 3 36 [.v (.string ⟨#[99]⟩)] (.int .i64 0) := oP.pure 1000000 1000 (by kernel_rfl)
theorem aYN : y0 Tryz.prog 3 36 [.v (.string ⟨#[97, 47, 100]⟩)] (.int .i64 0) := oP.pure 1000000 1000 (by kernel_rfl)
theorem aZD : y0 Tryz.prog 3 36 [.v (.string ⟨#[101]⟩)] (.int .i64 0) := oP.pure 1000000 1000 (by kernel_rfl)
theorem bAU : y0 Tryz.prog 3 36 [.v (.string ⟨#[101, 47, 98]⟩)] (.int .i64 0) := oP.pure 1000000 1000 (by kernel_rfl)
def t36 : List (List DV × Value) := [([.v (.string ⟨#[97]⟩)], .int .i64 0),
 ([.v (.string ⟨#[97, 47, 98]⟩)], .int .i64 0),
 ([.v (.string ⟨#[99]⟩)], .int .i64 0),
 ([.v (.string ⟨#[97, 47, 100]⟩)], .int .i64 0),
 ([.v (.string ⟨#[101]⟩)], .int .i64 0),
 ([.v (.string ⟨#[101, 47, 98]⟩)], .int .i64 0)]
theorem e36 : jX Tryz.prog 3 36 t36 := .cons aZC rfl <| .cons aY3 rfl <| .cons aYF rfl <| .cons aYN rfl <| .cons aZD rfl <| .cons bAU rfl <| .nil
def aY1 : d9 := bA9.memo (uW 36 t36)
theorem aEJ : M7 aY1 Tryz.prog := oP.memo e36
theorem aZI : y0 Tryz.prog 3 37 [.agg [.v (.int .i64 2), .v (.int .i64 0), .v (.slice none 0 0)]] (.int .i64 0) := aEJ.pure 1000000 1000 (by kernel_rfl)
theorem aZ1 : y0 Tryz.prog 3 37 [.agg [.v (.int .i64 1), .v (.int .i64 0), .lst 1 1 [.v (.int .u8 7)]]] (.int .i64 0) := aEJ.pure 1000000 1000 (by kernel_rfl)
theorem aYY : y0 Tryz.prog 3 37 [.agg [.v (.int .i64 1), .v (.int .i64 0), .lst 1 1 [.v (.int .u8 8)]]] (.int .i64 0) := aEJ.pure 1000000 1000 (by kernel_rfl)
def t37 : List (List DV × Value) := [([.agg [.v (.int .i64 2), .v (.int .i64 0), .v (.slice none 0 0)]], .int .i64 0),
 ([.agg [.v (.int .i64 1), .v (.int .i64 0), .lst 1 1 [.v (.int .u8 7)]]], .int .i64 0),
 ([.agg [.v (.int .i64 1), .v (.int .i64 0), .lst 1 1 [.v (.int .u8 8)]]], .int .i64 0)]
theorem e37 : jX Tryz.prog 3 37 t37 := .cons aZI rfl <| .cons aZ1 rfl <| .cons aYY rfl <| .nil
def bAX : d9 := aY1.memo (uW 37 t37)
theorem sE : M7 bAX Tryz.prog := aEJ.memo e37
theorem aX8 : L4 Tryz.prog 3 61 [.v (.string ⟨#[97]⟩)] (.tl [.string ⟨#[]⟩, .bool false]) := sE.ans 1000000 1000 (by kernel_rfl)
theorem bB1 : L4 Tryz.prog 3 61 [.v (.string ⟨#[97, 47, 98]⟩)] (.tl [.string ⟨#[97]⟩, .bool true]) := sE.ans 1000000 1000 (by kernel_rfl)
theorem bCA : L4 Tryz.prog 3 61 [.v (.string ⟨#[99]⟩)] (.tl [.string ⟨#[]⟩, .bool false]) := sE.ans 1000000 1000 (by kernel_rfl)
theorem aXY : L4 Tryz.prog 3 61 [.v (.string ⟨#[97, 47, 100]⟩)] (.tl [.string ⟨#[97]⟩, .bool true]) := sE.ans 1000000 1000 (by kernel_rfl)
theorem aYC : L4 Tryz.prog 3 61 [.v (.string ⟨#[101]⟩)] (.tl [.string ⟨#[]⟩, .bool false]) := sE.ans 1000000 1000 (by kernel_rfl)
def t61 : List (List DV × zZ) := [([.v (.string ⟨#[97]⟩)], .tl [.string ⟨#[]⟩, .bool false]),
 ([.v (.string ⟨#[97, 47, 98]⟩)], .tl [.string ⟨#[97]⟩, .bool true]),
 ([.v (.string ⟨#[99]⟩)], .tl [.string ⟨#[]⟩, .bool false]),
 ([.v (.string ⟨#[97, 47, 100]⟩)], .tl [.string ⟨#[97]⟩, .bool true]),
 ([.v (.string ⟨#[101]⟩)], .tl [.string ⟨#[]⟩, .bool false])]
theorem e61 : gL Tryz.prog 3 61 t61 := .cons aX8 <| .cons bB1 <| .cons bCA <| .cons aXY <| .cons aYC <| .nil
def bAE : d9 := bAX.memoA 61 t61
theorem pM : M7 bAE Tryz.prog := sE.memoA e61
theorem bA0 : L4 Tryz.prog 3 63 [.v (.string ⟨#[97]⟩), .v (.string ⟨#[47]⟩)] (.sl 1 1 [.string ⟨#[97]⟩]) := pM.ans 1000000 1000 (by kernel_rfl)
theorem aZ9 : L4 Tryz.prog 3 63 [.v (.string ⟨#[97, 47, 98]⟩), .v (.string ⟨#[47]⟩)] (.sl 1 2 [.string ⟨#[97]⟩, .string ⟨#[98]⟩]) := pM.ans 1000000 1000 (by kernel_rfl)
theorem bBW : L4 Tryz.prog 3 63 [.v (.string ⟨#[99]⟩), .v (.string ⟨#[47]⟩)] (.sl 1 1 [.string ⟨#[99]⟩]) := pM.ans 1000000 1000 (by kernel_rfl)
theorem bA3 : L4 Tryz.prog 3 63 [.v (.string ⟨#[97, 47, 100]⟩), .v (.string ⟨#[47]⟩)] (.sl 1 2 [.string ⟨#[97]⟩, .string ⟨#[100]⟩]) := pM.ans 1000000 1000 (by kernel_rfl)
theorem aZV : L4 Tryz.prog 3 63 [.v (.string ⟨#[101, 47, 98]⟩), .v (.string ⟨#[47]⟩)] (.sl 1 2 [.string ⟨#[101]⟩, .string ⟨#[98]⟩]) := pM.ans 1000000 1000 (by kernel_rfl)
theorem bBF : L4 Tryz.prog 3 63 [.v (.string ⟨#[101]⟩), .v (.string ⟨#[47]⟩)] (.sl 1 1 [.string ⟨#[101]⟩]) := pM.ans 1000000 1000 (by kernel_rfl)
def t63 : List (List DV × zZ) := [([.v (.string ⟨#[97]⟩), .v (.string ⟨#[47]⟩)], .sl 1 1 [.string ⟨#[97]⟩]),
 ([.v (.string ⟨#[97, 47, 98]⟩), .v (.string ⟨#[47]⟩)], .sl 1 2 [.string ⟨#[97]⟩, .string ⟨#[98]⟩]),
 ([.v (.string ⟨#[99]⟩), .v (.string ⟨#[47]⟩)], .sl 1 1 [.string ⟨#[99]⟩]),
 ([.v (.string ⟨#[97, 47, 100]⟩), .v (.string ⟨#[47]⟩)], .sl 1 2 [.string ⟨#[97]⟩, .string ⟨#[100]⟩]),
 ([.v (.string ⟨#[101, 47, 98]⟩), .v (.string ⟨#[47]⟩)], .sl 1 2 [.string ⟨#[101]⟩, .string ⟨#[98]⟩]),
 ([.v (.string ⟨#[101]⟩), .v (.string ⟨#[47]⟩)], .sl 1 1 [.string ⟨#[101]⟩])]
theorem e63 : gL Tryz.prog 3 63 t63 := .cons bA0 <| .cons aZ9 <| .cons bBW <| .cons bA3 <| .cons aZV <| .cons bBF <| .nil
def bBV : d9 := bAE.memoA 63 t63
theorem eT : M7 bBV Tryz.prog := pM.memoA e63
theorem bB9 : y0 Tryz.prog 3 15 [.v (.string ⟨#[97]⟩), .v (.string ⟨#[97, 47, 98]⟩)] (.bool true) := eT.pure 1000000 1000 (by kernel_rfl)
theorem bBP : y0 Tryz.prog 3 15 [.v (.string ⟨#[97, 47, 98]⟩), .v (.string ⟨#[99]⟩)] (.bool true) := eT.pure 1000000 1000 (by kernel_rfl)
theorem aX2 : y0 Tryz.prog 3 15 [.v (.string ⟨#[97, 47, 98]⟩), .v (.string ⟨#[97, 47, 100]⟩)] (.bool true) := eT.pure 1000000 1000 (by kernel_rfl)
theorem aYB : y0 Tryz.prog 3 15 [.v (.string ⟨#[99]⟩), .v (.string ⟨#[97, 47, 100]⟩)] (.bool false) := eT.pure 1000000 1000 (by kernel_rfl)
theorem bA2 : y0 Tryz.prog 3 15 [.v (.string ⟨#[97, 47, 100]⟩), .v (.string ⟨#[99]⟩)] (.bool true) := eT.pure 1000000 1000 (by kernel_rfl)
theorem bBM : y0 Tryz.prog 3 15 [.v (.string ⟨#[101, 47, 98]⟩), .v (.string ⟨#[101]⟩)] (.bool false) := eT.pure 1000000 1000 (by kernel_rfl)
theorem bBS : y0 Tryz.prog 3 15 [.v (.string ⟨#[101]⟩), .v (.string ⟨#[101, 47, 98]⟩)] (.bool true) := eT.pure 1000000 1000 (by kernel_rfl)
theorem bCH : y0 Tryz.prog 3 15 [.v (.string ⟨#[99]⟩), .v (.string ⟨#[101, 47, 98]⟩)] (.bool true) := eT.pure 1000000 1000 (by kernel_rfl)
theorem aXQ : y0 Tryz.prog 3 15 [.v (.string ⟨#[99]⟩), .v (.string ⟨#[101]⟩)] (.bool true) := eT.pure 1000000 1000 (by kernel_rfl)
def t15 : List (List DV × Value) := [([.v (.string ⟨#[97]⟩), .v (.string ⟨#[97, 47, 98]⟩)], .bool true),
 ([.v (.string ⟨#[97, 47, 98]⟩), .v (.string ⟨#[99]⟩)], .bool true),
 ([.v (.string ⟨#[97, 47, 98]⟩), .v (.string ⟨#[97, 47, 100]⟩)], .bool true),
 ([.v (.string ⟨#[99]⟩), .v (.string ⟨#[97, 47, 100]⟩)], .bool false),
 ([.v (.string ⟨#[97, 47, 100]⟩), .v (.string ⟨#[99]⟩)], .bool true),
 ([.v (.string ⟨#[101, 47, 98]⟩), .v (.string ⟨#[101]⟩)], .bool false),
 ([.v (.string ⟨#[101]⟩), .v (.string ⟨#[101, 47, 98]⟩)], .bool true),
 ([.v (.string ⟨#[99]⟩), .v (.string ⟨#[101, 47, 98]⟩)], .bool true),
 ([.v (.string ⟨#[99]⟩), .v (.string ⟨#[101]⟩)], .bool true)]
theorem e15 : jX Tryz.prog 3 15 t15 := .cons bB9 rfl <| .cons bBP rfl <| .cons aX2 rfl <| .cons aYB rfl <| .cons bA2 rfl <| .cons bBM rfl <| .cons bBS rfl <| .cons bCH rfl <| .cons aXQ rfl <| .nil
def aZ2 : d9 := bBV.memo (uW 15 t15)
theorem yU : M7 aZ2 Tryz.prog := eT.memo e15
theorem aZ4 : L4 Tryz.prog 3 40 [.lst 4 3 [.v (.string ⟨#[97]⟩), .v (.int .i64 2), .v (.int .i64 0), .v (.slice none 0 0), .v (.string ⟨#[97, 47, 98]⟩), .v (.int .i64 1), .v (.int .i64 0), .lst 1 1 [.v (.int .u8 7)], .v (.string ⟨#[99]⟩), .v (.int .i64 1), .v (.int .i64 0), .lst 1 1 [.v (.int .u8 8)]], .v (.string ⟨#[97]⟩)] (.tl [.int .i64 0, .bool true]) := yU.ans 1000000 1000 (by kernel_rfl)
theorem bB8 : L4 Tryz.prog 3 40 [.lst 4 3 [.v (.string ⟨#[97]⟩), .v (.int .i64 2), .v (.int .i64 0), .v (.slice none 0 0), .v (.string ⟨#[97, 47, 98]⟩), .v (.int .i64 1), .v (.int .i64 0), .lst 1 1 [.v (.int .u8 7)], .v (.string ⟨#[99]⟩), .v (.int .i64 1), .v (.int .i64 0), .lst 1 1 [.v (.int .u8 8)]], .v (.string ⟨#[97, 47, 100]⟩)] (.tl [.int .i64 (-1), .bool false]) := yU.ans 1000000 1000 (by kernel_rfl)
theorem aXN : L4 Tryz.prog 3 40 [.lst 4 3 [.v (.string ⟨#[97]⟩), .v (.int .i64 2), .v (.int .i64 0), .v (.slice none 0 0), .v (.string ⟨#[97, 47, 98]⟩), .v (.int .i64 1), .v (.int .i64 0), .lst 1 1 [.v (.int .u8 7)], .v (.string ⟨#[99]⟩), .v (.int .i64 1), .v (.int .i64 0), .lst 1 1 [.v (.int .u8 8)]], .v (.string ⟨#[101]⟩)] (.tl [.int .i64 (-1), .bool false]) := yU.ans 1000000 1000 (by kernel_rfl)
theorem aZA : L4 Tryz.prog 3 40 [.lst 4 4 [.v (.string ⟨#[97]⟩), .v (.int .i64 2), .v (.int .i64 0), .v (.slice none 0 0), .v (.string ⟨#[97, 47, 98]⟩), .v (.int .i64 1), .v (.int .i64 0), .lst 1 1 [.v (.int .u8 7)], .v (.string ⟨#[97, 47, 100]⟩), .v (.int .i64 2), .v (.int .i64 0), .v (.slice none 0 0), .v (.string ⟨#[99]⟩), .v (.int .i64 1), .v (.int .i64 0), .lst 1 1 [.v (.int .u8 8)]], .v (.string ⟨#[97]⟩)] (.tl [.int .i64 0, .bool true]) := yU.ans 1000000 1000 (by kernel_rfl)
def t40 : List (List DV × zZ) := [([.lst 4 3 [.v (.string ⟨#[97]⟩), .v (.int .i64 2), .v (.int .i64 0), .v (.slice none 0 0), .v (.string ⟨#[97, 47, 98]⟩), .v (.int .i64 1), .v (.int .i64 0), .lst 1 1 [.v (.int .u8 7)], .v (.string ⟨#[99]⟩), .v (.int .i64 1), .v (.int .i64 0), .lst 1 1 [.v (.int .u8 8)]], .v (.string ⟨#[97]⟩)], .tl [.int .i64 0, .bool true]),
 ([.lst 4 3 [.v (.string ⟨#[97]⟩), .v (.int .i64 2), .v (.int .i64 0), .v (.slice none 0 0), .v (.string ⟨#[97, 47, 98]⟩), .v (.int .i64 1), .v (.int .i64 0), .lst 1 1 [.v (.int .u8 7)], .v (.string ⟨#[99]⟩), .v (.int .i64 1), .v (.int .i64 0), .lst 1 1 [.v (.int .u8 8)]], .v (.string ⟨#[97, 47, 100]⟩)], .tl [.int .i64 (-1), .bool false]),
 ([.lst 4 3 [.v (.string ⟨#[97]⟩), .v (.int .i64 2), .v (.int .i64 0), .v (.slice none 0 0), .v (.string ⟨#[97, 47, 98]⟩), .v (.int .i64 1), .v (.int .i64 0), .lst 1 1 [.v (.int .u8 7)], .v (.string ⟨#[99]⟩), .v (.int .i64 1), .v (.int .i64 0), .lst 1 1 [.v (.int .u8 8)]], .v (.string ⟨#[101]⟩)], .tl [.int .i64 (-1), .bool false]),
 ([.lst 4 4 [.v (.string ⟨#[97]⟩), .v (.int .i64 2), .v (.int .i64 0), .v (.slice none 0 0), .v (.string ⟨#[97, 47, 98]⟩), .v (.int .i64 1), .v (.int .i64 0), .lst 1 1 [.v (.int .u8 7)], .v (.string ⟨#[97, 47, 100]⟩), .v (.int .i64 2), .v (.int .i64 0), .v (.slice none 0 0), .v (.string ⟨#[99]⟩), .v (.int .i64 1), .v (.int .i64 0), .lst 1 1 [.v (.int .u8 8)]], .v (.string ⟨#[97]⟩)], .tl [.int .i64 0, .bool true])]
theorem e40 : gL Tryz.prog 3 40 t40 := .cons aZ4 <| .cons bB8 <| .cons aXN <| .cons aZA <| .nil
def bAI : d9 := aZ2.memoA 40 t40
theorem aHE : M7 bAI Tryz.prog := yU.memoA e40
theorem aYV : y0 Tryz.prog 3 14 [.lst 4 3 [.v (.string ⟨#[97]⟩), .v (.int .i64 2), .v (.int .i64 0), .v (.slice none 0 0), .v (.string ⟨#[97, 47, 98]⟩), .v (.int .i64 1), .v (.int .i64 0), .lst 1 1 [.v (.int .u8 7)], .v (.string ⟨#[99]⟩), .v (.int .i64 1), .v (.int .i64 0), .lst 1 1 [.v (.int .u8 8)]]] (.int .i64 0) := aHE.pure 1000000 1000 (by kernel_rfl)
theorem aYG : y0 Tryz.prog 3 14 [.lst 4 4 [.v (.string ⟨#[97]⟩), .v (.int .i64 2), .v (.int .i64 0), .v (.slice none 0 0), .v (.string ⟨#[97, 47, 98]⟩), .v (.int .i64 1), .v (.int .i64 0), .lst 1 1 [.v (.int .u8 7)], .v (.string ⟨#[97, 47, 100]⟩), .v (.int .i64 2), .v (.int .i64 0), .v (.slice none 0 0), .v (.string ⟨#[99]⟩), .v (.int .i64 1), .v (.int .i64 0), .lst 1 1 [.v (.int .u8 8)]]] (.int .i64 0) := aHE.pure 1000000 1000 (by kernel_rfl)
def t14 : List (List DV × Value) := [([.lst 4 3 [.v (.string ⟨#[97]⟩), .v (.int .i64 2), .v (.int .i64 0), .v (.slice none 0 0), .v (.string ⟨#[97, 47, 98]⟩), .v (.int .i64 1), .v (.int .i64 0), .lst 1 1 [.v (.int .u8 7)], .v (.string ⟨#[99]⟩), .v (.int .i64 1), .v (.int .i64 0), .lst 1 1 [.v (.int .u8 8)]]], .int .i64 0),
 ([.lst 4 4 [.v (.string ⟨#[97]⟩), .v (.int .i64 2), .v (.int .i64 0), .v (.slice none 0 0), .v (.string ⟨#[97, 47, 98]⟩), .v (.int .i64 1), .v (.int .i64 0), .lst 1 1 [.v (.int .u8 7)], .v (.string ⟨#[97, 47, 100]⟩), .v (.int .i64 2), .v (.int .i64 0), .v (.slice none 0 0), .v (.string ⟨#[99]⟩), .v (.int .i64 1), .v (.int .i64 0), .lst 1 1 [.v (.int .u8 8)]]], .int .i64 0)]
theorem e14 : jX Tryz.prog 3 14 t14 := .cons aYV rfl <| .cons aYG rfl <| .nil
def aY2 : d9 := bAI.memo (uW 14 t14)
theorem aQT : M7 aY2 Tryz.prog := aHE.memo e14
theorem p6_0 : y0 Tryz.prog 3 6 [] (.bool true) := aQT.pure 1000000 1000 (by kernel_rfl)
def t6 : List (List DV × Value) := [([], .bool true)]
theorem e6 : jX Tryz.prog 3 6 t6 := .cons p6_0 rfl <| .nil
def aOV : d9 := aY2.memo (uW 6 t6)
theorem aKD : M7 aOV Tryz.prog := aQT.memo e6
theorem ran : nW (run aOV 1000000 1000 (.call 6 []) (qI 3)) = true := by kernel_rfl
theorem fn : (env.fn 6).isSome = true := by kernel_rfl
theorem bEN (W : World) (hW : 3 <= W.heap.size) :
  Calls Tryz.prog 6 #[] W fun e W' => e = .returned (.bool true) /\ (∀ b, b < W.heap.size -> W'.heap[b]? = W.heap[b]?) /\ W.heap.size <= W'.heap.size /\ W'.os = W.os /\ W'.tape = W.tape /\ W'.output = W.output :=
 match Option.isSome_iff_exists.1 fn with
 | ⟨_, hx⟩ => rF (E := aOV) (j := 1000000) (k := 1000) aKD.ok aKD.ext aKD.keep hx (show nW (run aOV 1000000 1000 (.call 6 []) (qI env.ng)) = true from uD.symm ▸ ran) (show env.ng <= _ from uD.symm ▸ hW)
end awake
end Go.Proofs.YtnmidpahhhdlpaaGreatDoor
end
namespace Go.Proofs.YtnmidpahhhdlpaaGreatDoor
open Go Go.Am Go.Pm
set_option maxRecDepth 1000000
theorem aBX : r8 env Tryz.prog 6 [] (bv true) := r8.of_pure a6 fn6 (show y0 Tryz.prog env.ng 6 [] (.bool true) from uD.symm ▸ awake.p6_0) rfl
theorem uH {l : List En} (h : H6 l = false) : qN l := by
 obtain ⟨h1, h2⟩ := jW h
 exact ⟨by omega, fun x hx => by have := h2 x hx; omega, fun x hx => by have := h2 x hx; omega⟩
abbrev uU : List Sh := [.str, .int .i64, .int .i64, .sl shB]
theorem aSQ {ds : List DV} (h : Q9 uU ds) : ∃ e : En, pvs uU ds = d6 e /\ True := by
 cases h with | cons h1 h =>
 cases h with | cons h2 h =>
 cases h with | cons h3 h =>
 cases h with | cons h4 h =>
 cases h
 obtain ⟨a, a1, a2⟩ := aO9 h1
 obtain ⟨b, b1, b2⟩ := aR0 h2
 obtain ⟨c, c1, c2⟩ := aR0 h3
 obtain ⟨d, d1, d2⟩ := aE4 h4
 exact ⟨⟨a, b, c, d⟩, by simp only [pvs, a1, b1, c1, d1]; rfl, trivial⟩
theorem aCX {d : DV} (h : zY (.sl uU) d) : ∃ xs : List En, qL (.sl uU) d = d7 xs := by
 obtain ⟨xs, h1, h2, _⟩ := aMP (l := uU) (enc := d6) (B := fun _ => True) (by decide) (fun ds h => aSQ h) h
 exact ⟨xs, h1⟩
end Go.Proofs.YtnmidpahhhdlpaaGreatDoor
namespace Go.Proofs.YtnmidpahhhdlpaaGreatDoor
open Go Go.Am Go.Pm
theorem aU3 (x m y p : Int) (a b : List UInt8) : r8 env Tryz.prog 34 [.agg [iv x, iv m, a8 a], .agg [iv y, iv p, a8 b]] (bv (x == y && m == p && a == b)) := fun M => by
 refine PT.enterR a6 bCY (by simp) aVX fun k hk hf => RX.of a6 ?_
 cases h1 : (x == y) with
 | false =>
  simp only [G0, Z1, Z2, Z3, Z4, Z5, d5, a8, dI, H7, h1, aTL, aJL, aI2, i7, j0, Bool.false_and]
  exact i9 hf rfl ⟨rfl, rfl⟩
 | true =>
  cases h2 : (m == p) with
  | false =>
   simp only [G0, Z1, Z2, Z3, Z4, Z5, d5, a8, dI, H7, h1, h2, aTL, aJL, aI2, i7, j0, Bool.false_and, Bool.true_and]
   exact i9 hf rfl ⟨rfl, rfl⟩
  | true =>
   simp only [G0, Z1, Z2, Z3, Z4, Z5, d5, a8, dI, H7, h1, h2, aTL, aJL, aI2, i7, j0, Bool.false_and, Bool.true_and]
   exact i9 hf rfl ⟨rfl, rfl⟩
theorem aWJ {R : List Pr} (hR : R.length <= 200000) {M : b7} {k : Nat} {Q : c9 -> c5 -> Prop} {w : PV}
  (q : ∀ tm os j v, B2 b9 7 k os j v (I2 L8 R) -> a7 tm 7 = w -> a7 tm 8 = v -> Q (.exit 0) ⟨tm, 43, k, os, M⟩) :
  ∀ d i os j v tm, R.length - i = d -> i <= R.length -> B2 b9 7 k os j v (I2 L8 (R.take i)) -> a7 tm 6 = G6 R -> a7 tm 7 = w -> a7 tm 8 = v -> a7 tm 9 = iv i -> u0 env Tryz.prog none aM5 ⟨tm, 43, k, os, M⟩ Q := by
 intro d
 induction d with
 | zero =>
  intro i os j v tm hd hi hO t6 t7 t8 t9
  have : i = R.length := by omega
  subst this
  have h6 : a7 tm 6 = .lst .no 7 R.length (R.flatMap b9) := t6
  rw [List.take_length] at hO
  refine u0.round (RX.of a6 ?_)
  simp only [G0, Z1, Z2, Z3, Z4, Z5, h6, t9, Int.lt_irrefl, decide_false]
  exact q _ _ _ _ hO t7 t8
 | succ d ih =>
  intro i os j v tm hd hi hO t6 t7 t8 t9
  have hi' : i < R.length := by omega
  have hii : (i : Int) < R.length := by omega
  obtain ⟨p, hp, -⟩ := E6 hi'
  have h6 : a7 tm 6 = .lst .no 7 R.length (R.flatMap b9) := t6
  have ha := aCL hp
  have hb := aEG hp
  have hld : o9 true 7 (R.flatMap b9) (i * 7) = some (K2 p) := gQ (f := b9) (n := 7) (fun _ => rfl) hp
  have hw : IntKind.i64.wrap ((i : Int) + 1) = ((i + 1 : Nat) : Int) := by rw [d3 (by omega) (by omega)]; rfl
  have hln : (I2 L8 (R.take i)).length <= 200000 := by
   have := List.length_filter_le (fun x => !L8 x) (R.take i)
   rw [List.length_take] at this
   unfold I2; omega
  have hsn : I2 L8 (R.take (i + 1)) = I2 L8 (R.take i) ++ (if L8 p then [] else [p]) := by
   rw [N7 hp]
   unfold I2
   rw [List.filter_append]
   congr 1
   rw [List.filter_cons]
   cases L8 p <;> rfl
  refine u0.round (RX.of a6 ?_)
  simp only [G0, Z1, Z2, Z3, Z4, Z5, h6, t9, hii, decide_true, hi', ha, hb, aT9]
  refine y7 (aU3 _ _ _ _ _ _) (by decide) ?_
  rw [<- aG4]
  cases hs : L8 p with
  | true =>
   simp only [G0, Z1, Z2, Z3, Z4, Z5, Bool.not_true, t9, hw]
   refine ih (i + 1) os j v _ (by omega) (by omega) ?_ t6 t7 t8 rfl
   rw [hsn, hs, if_pos rfl, List.append_nil]; exact hO
  | false =>
   obtain ⟨v', os', j', h1, h2⟩ := hO.push (by_ := 96) (by omega) (by omega) (by decide) p rfl .full
   have hF := aSL p
   simp only [G0, Z1, Z2, Z3, Z4, Z5, h6, t8, t9, hi', hld, Bool.not_false, hF]
   refine aL ?_
   rw [h1]
   simp only [G0, Z1, Z2, Z3, Z4, Z5, t9, hw]
   refine ih (i + 1) os' j' v' _ (by omega) (by omega) ?_ t6 t7 rfl rfl
   rw [hsn, hs, if_neg (by decide)]; exact h2
theorem aR8 {args : List PV} {A B : PV} {R : List Pr} {e : Int} (hR : R.length <= 200000) (hw : r8 env Tryz.prog 9 [A, B] (.tup [G6 R, iv e])) : r8 env Tryz.prog 11 [A, B] (.tup [G6 (I2 L8 R), iv e]) := r8.of fun M => by
 refine PT.enterR a6 bEB (by simp) aVZ fun k hk hf => RX.of a6 ?_
 simp only [G0, Z1, Z2, Z3, Z4, Z5, d5]
 refine y7 hw (by decide) ?_
 simp only [G0, Z1, Z2, Z3, Z4, Z5]
 refine RX.loop (aWJ (R := R) hR (w := iv e) (fun tm os j v hO t7 t8 => ?_) R.length 0 [] none _ _ rfl (Nat.zero_le _) (.nil 0) (by rfl) (by rfl) (by rfl) (by rfl))
 simp only [G0, Z1, Z2, Z3, Z4, Z5, t7, t8]
 exact cR hf rfl rfl ⟨.tup (.cons hO.le (.cons (.refl _) .nil)), rfl⟩
theorem aV4 (R : List Pr) (hl : R.length <= 1000000) (M : b7) (k : Nat) (Q : c9 -> c5 -> Prop) (q : ∀ tm, Q (.exit 0) ⟨tm, 56, k, [], M⟩) :
    ∀ d i tm, R.length - i = d -> i <= R.length -> a7 tm 0 = G6 R -> a7 tm 1 = G6 R -> a7 tm 5 = iv i -> u0 env Tryz.prog none aLQ ⟨tm, 56, k, [], M⟩ Q := by
  intro d
  induction d with
  | zero =>
    intro i tm hd hi t0 t1 t5
    have : i = R.length := by omega
    subst this
    have h0 : a7 tm 0 = .lst .no 7 R.length (R.flatMap b9) := t0
    refine u0.round (RX.of a6 ?_)
    simp only [G0, Z1, Z2, Z3, Z4, Z5, h0, t5, Int.lt_irrefl, decide_false]
    exact q _
  | succ d ih =>
    intro i tm hd hi t0 t1 t5
    have h0 : a7 tm 0 = .lst .no 7 R.length (R.flatMap b9) := t0
    have h1 : a7 tm 1 = .lst .no 7 R.length (R.flatMap b9) := t1
    have hi' : i < R.length := by omega
    obtain ⟨x, hx, hdx⟩ := E6 hi'
    have hii : (i : Int) < R.length := by omega
    have cp := aOF hx
    have ca := aCL hx
    have cb := aEG hx
    have hw : IntKind.i64.wrap ((i : Int) + 1) = ((i + 1 : Nat) : Int) := by rw [d3 (by omega) (by omega)]; rfl
    refine u0.round (RX.of a6 ?_)
    simp only [G0, Z1, Z2, Z3, Z4, Z5, h0, h1, t5, hii, decide_true, hi', cp, ca, cb, R8, beq_self_eq_true, Bool.not_true, I7]
    refine y7 (bM _ _ _ _ _ _) (by decide) ?_
    simp only [G0, Z1, Z2, Z3, Z4, Z5, h0, h1, t5, hi', cp, ca, cb, beq_self_eq_true, Bool.and_self, Bool.not_true, Bool.not_false, Bool.or_self, i7, j0, I7]
    refine y7 (bM _ _ _ _ _ _) (by decide) ?_
    simp only [G0, Z1, Z2, Z3, Z4, Z5, t5, hw, beq_self_eq_true, Bool.and_self, Bool.not_true, Bool.not_false, Bool.or_self, i7, j0]
    exact ih (i + 1) _ (by omega) (by omega) t0 t1 rfl
theorem aIZ (R : List Pr) (hl : R.length <= 1000000) : r8 env Tryz.prog 12 [G6 R, G6 R] (bv true) := fun M => by
 refine PT.enterR a6 bC5 (by simp) aVT fun k hk hf => RX.of a6 ?_
 have hlen : T7 (G6 R) = some (iv (R.length : Nat)) := rfl
 simp only [G0, Z1, Z2, Z3, Z4, Z5, d5, hlen, bne_self_eq_false]
 refine RX.loop (aV4 R hl M k _ (fun tm => ?_) R.length 0 _ rfl (Nat.zero_le _) rfl rfl rfl)
 simp only [G0, Z1, Z2, Z3, Z4, Z5]
 exact i9 hf rfl ⟨rfl, rfl⟩
theorem aVI (l : List UInt8) (hl : l.length <= 1000000) : r8 env Tryz.prog 50 [a8 l] (a8 l) := r8.of fun M => by
 refine PT.enterR a6 bDS (by simp) aSW fun k hk hf => RX.of a6 ?_
 have hfill : T6 1 [] [] = some [] := rfl
 obtain ⟨t, os', h1, h2⟩ := mS l hl k []
 simp only [G0, Z1, Z2, Z3, Z4, Z5, d5, hfill]
 refine aL ?_
 rw [h1]
 simp only [G0, Z1, Z2, Z3, Z4, Z5]
 exact i9 hf rfl ⟨Q2.no _ _ _ _, rfl⟩
theorem aSR (x m : Int) (b : List UInt8) (hb : b.length <= 1000000) : r8 env Tryz.prog 23 [.agg [iv x, iv m, a8 b]] (.agg [iv x, iv m, a8 b]) := fun M => by
 refine PT.enterR a6 bDX (by simp) aXI fun k hk hf => RX.of a6 ?_
 simp only [G0, Z1, Z2, Z3, Z4, Z5, d5]
 refine y7 (aVI _ hb) (by decide) ?_
 simp only [G0, Z1, Z2, Z3, Z4, Z5, aF8]
 refine aWB (ag := true) (n := 3) hf (by kernel_rfl) ?_ ⟨rfl, rfl⟩
 simp only [G0, Z1, Z2, Z3, Z4, Z5]
theorem aZG {l : List En} (hl : l.length <= 100000) (hb : ∀ x ∈ l, x.bytes.length <= 1000000) {M : b7} {k : Nat} {Q : c9 -> c5 -> Prop} (q : ∀ tm os j v, B2 d6 4 k os j v l -> a7 tm 3 = v -> Q (.exit 0) ⟨tm, 27, k, os, M⟩) :
  ∀ d i os j v tm, l.length - i = d -> i <= l.length -> B2 d6 4 k os j v (l.take i) -> a7 tm 0 = d7 l -> a7 tm 3 = v -> a7 tm 4 = iv i -> u0 env Tryz.prog none aR5 ⟨tm, 27, k, os, M⟩ Q := by
 intro d
 induction d with
 | zero =>
  intro i os j v tm hd hi hO t0 t3 t4
  have : i = l.length := by omega
  subst this
  have h0 : a7 tm 0 = .lst .no 4 l.length (l.flatMap d6) := t0
  rw [List.take_length] at hO
  refine u0.round (RX.of a6 ?_)
  simp only [G0, Z1, Z2, Z3, Z4, Z5, h0, t4, Int.lt_irrefl, decide_false]
  exact q _ _ _ _ hO t3
 | succ d ih =>
  intro i os j v tm hd hi hO t0 t3 t4
  have hi' : i < l.length := by omega
  have hii : (i : Int) < l.length := by omega
  obtain ⟨x, hx, -⟩ := E6 hi'
  have h0 : a7 tm 0 = .lst .no 4 l.length (l.flatMap d6) := t0
  have cp := aF hx
  have ce := mG hx
  have hw : IntKind.i64.wrap ((i : Int) + 1) = ((i + 1 : Nat) : Int) := by rw [d3 (by omega) (by omega)]; rfl
  have hln : (l.take i).length <= 100000 := by rw [List.length_take]; omega
  obtain ⟨v', os', j', h1, h2⟩ := hO.push (by_ := 56) (by omega) (by omega) (by decide) x rfl .full
  have h1' : ∀ {tm : List (Nat × PV)} {nt : Nat} {M : b7}, W7 ⟨tm, nt, k, os, M⟩ 4 56 4 v (.lst .full 4 1 [str x.path, iv x.kind, iv x.mode, a8 x.bytes]) = some (v', ⟨tm, nt, k, os', M⟩) := h1
  refine u0.round (RX.of a6 ?_)
  simp only [G0, Z1, Z2, Z3, Z4, Z5, h0, t3, t4, hii, decide_true, hi', cp, ce]
  refine cq0 (aSR _ _ _ (hb x (List.mem_of_getElem? hx))) (by decide) ?_
  simp only [G0, Z1, Z2, Z3, Z4, Z5]
  refine aL ?_
  rw [h1']
  simp only [G0, Z1, Z2, Z3, Z4, Z5, t4, hw]
  refine ih (i + 1) os' j' v' _ (by omega) (by omega) ?_ t0 rfl rfl
  rw [N7 hx]; exact h2
theorem aSH (l : List En) (hl : l.length <= 100000) (hb : ∀ x ∈ l, x.bytes.length <= 1000000) : r8 env Tryz.prog 7 [d7 l] (d7 l) := r8.of fun M => by
 refine PT.enterR a6 fn7 (by simp) aX6 fun k hk hf => RX.of a6 ?_
 simp only [G0, Z1, Z2, Z3, Z4, Z5, d5]
 refine RX.loop (aZG hl hb (fun tm os j v hO t3 => ?_) l.length 0 [] none _ _ rfl (Nat.zero_le _) (.nil 0) (by rfl) (by rfl) (by rfl))
 simp only [G0, Z1, Z2, Z3, Z4, Z5, t3]
 exact i9 hf rfl ⟨hO.le, rfl⟩
theorem aPK {A B : List En} (hA : qN A) (hB : qN B) (h : (r5 A && r5 B) = false) : r8 env Tryz.prog 10 [d7 A, d7 B] (.tup [.lst .full 0 0 [], iv 2]) := fun M => by
 refine PT.enterR a6 aY4 (by simp) aI6 fun k hk hf => RX.of a6 ?_
 simp only [G0, Z1, Z2, Z3, Z4, Z5, d5]
 refine y7 (aCV hA hB h) (by decide) ?_
 simp only [G0, Z1, Z2, Z3, Z4, Z5]
 refine y7 (aMU 0 32 [] []) (by decide) ?_
 simp only [G0, Z1, Z2, Z3, Z4, Z5]
 exact cR hf rfl rfl ⟨rfl, rfl⟩
theorem r8.nil1 {f : Nat} {args : List PV} {e : Int} (h : r8 env Tryz.prog f args (.tup [.lst .full 0 0 [], iv e])) : r8 env Tryz.prog f args (.tup [G6 [], iv e]) := h.weak (.tup (.cons (Q2.nil_no _ _ _ rfl) (.cons (.refl _) .nil)))
theorem xW (A B : List En) (R S : List Pr) (e : Int) (hR : R.length <= 200000) (hS : S.length <= 200000) (ha : H6 A = false) (hb : H6 B = false)
  (h8 : r8 env Tryz.prog 8 [d7 A, d7 B] (.tup [G6 R, iv e])) (h9 : r8 env Tryz.prog 9 [d7 A, d7 B] (.tup [G6 R, iv e])) (h10 : r8 env Tryz.prog 10 [d7 A, d7 B] (.tup [G6 S, iv e])) (h11 : r8 env Tryz.prog 11 [d7 A, d7 B] (.tup [G6 S, iv e])) :
  r8 env Tryz.prog 3 [d7 A, d7 B] (bv true) := fun M => by
 have fA := uH ha
 have fB := uH hb
 have l1 := fA.len
 have l2 := fB.len
 refine PT.enterR a6 fn3 (by simp) aQG fun k hk hf => RX.of a6 ?_
 simp only [G0, Z1, Z2, Z3, Z4, Z5, d5]
 refine y7 (aDU A) (by decide) ?_
 rw [ha]
 simp only [G0, Z1, Z2, Z3, Z4, Z5, i7, j0, Bool.not_true, Bool.not_false]
 refine y7 (aDU B) (by decide) ?_
 rw [hb]
 simp only [G0, Z1, Z2, Z3, Z4, Z5, i7, j0, Bool.not_true, Bool.not_false, Bool.or_self]
 refine y7 (aSH A fA.len fA.bytes) (by decide) ?_
 simp only [G0, Z1, Z2, Z3, Z4, Z5]
 refine y7 (aSH B fB.len fB.bytes) (by decide) ?_
 simp only [G0, Z1, Z2, Z3, Z4, Z5]
 refine y7 h8 (by decide) ?_
 simp only [G0, Z1, Z2, Z3, Z4, Z5]
 refine y7 h9 (by decide) ?_
 simp only [G0, Z1, Z2, Z3, Z4, Z5]
 refine y7 h10 (by decide) ?_
 simp only [G0, Z1, Z2, Z3, Z4, Z5]
 refine y7 h11 (by decide) ?_
 simp only [G0, Z1, Z2, Z3, Z4, Z5]
 refine y7 (aIZ R (by omega)) (by decide) ?_
 simp only [G0, Z1, Z2, Z3, Z4, Z5, beq_self_eq_true, i7, j0, Bool.and_self]
 refine y7 (aIZ S (by omega)) (by decide) ?_
 simp only [G0, Z1, Z2, Z3, Z4, Z5, beq_self_eq_true, i7, j0, Bool.and_self]
 refine y7 (aMY A (by omega)) (by decide) ?_
 simp only [G0, Z1, Z2, Z3, Z4, Z5, beq_self_eq_true, i7, j0, Bool.and_self]
 refine y7 (aMY B (by omega)) (by decide) ?_
 simp only [G0, Z1, Z2, Z3, Z4, Z5, beq_self_eq_true, i7, j0, Bool.and_self]
 refine y7 aBX (by decide) ?_
 simp only [G0, Z1, Z2, Z3, Z4, Z5, beq_self_eq_true, i7, j0, Bool.and_self]
 exact i9 hf rfl ⟨rfl, rfl⟩
theorem aBY (A B : List En) (h : (H6 A || H6 B) = true) : r8 env Tryz.prog 3 [d7 A, d7 B] (bv true) := fun M => by
 refine PT.enterR a6 fn3 (by simp) aQG fun k hk hf => RX.of a6 ?_
 simp only [G0, Z1, Z2, Z3, Z4, Z5, d5]
 refine y7 (aDU A) (by decide) ?_
 cases ha : H6 A with
 | true =>
  simp only [G0, Z1, Z2, Z3, Z4, Z5, i7, j0, Bool.not_true, Bool.not_false]
  refine y7 aBX (by decide) ?_
  simp only [G0, Z1, Z2, Z3, Z4, Z5]
  exact i9 hf rfl ⟨rfl, rfl⟩
 | false =>
  simp only [G0, Z1, Z2, Z3, Z4, Z5, i7, j0, Bool.not_true, Bool.not_false]
  refine y7 (aDU B) (by decide) ?_
  rw [ha, Bool.false_or] at h
  rw [h]
  simp only [G0, Z1, Z2, Z3, Z4, Z5, i7, j0, Bool.not_true, Bool.not_false, Bool.or_true]
  refine y7 aBX (by decide) ?_
  simp only [G0, Z1, Z2, Z3, Z4, Z5]
  exact i9 hf rfl ⟨rfl, rfl⟩
theorem aVL (A B : List En) : r8 env Tryz.prog 3 [d7 A, d7 B] (bv true) := by
 cases h : H6 A || H6 B with
 | true => exact aBY A B h
 | false =>
  rw [Bool.or_eq_false_iff] at h
  have fA := uH h.1
  have fB := uH h.2
  have l1 := (jW h.1).1
  have l2 := (jW h.2).1
  cases h2 : r5 A && r5 B with
  | false =>
   have h9 := r8.nil1 (aKL fA fB h2)
   exact xW A B [] [] 2 (Nat.zero_le _) (Nat.zero_le _) h.1 h.2 (r8.nil1 (aCV fA fB h2)) h9 (r8.nil1 (aPK fA fB h2)) (aR8 (args := []) (R := []) (Nat.zero_le _) h9)
  | true =>
   rw [Bool.and_eq_true] at h2
   have h9 := aE2 fA fB (by omega) (by omega) h2.1 h2.2
   have hl := H2 (A.length + B.length) A B
   have hk : (I2 L8 (n6 (A.length + B.length) A B)).length <= (n6 (A.length + B.length) A B).length := List.length_filter_le _ _
   exact xW A B _ _ 0 (by omega) (by omega) h.1 h.2 (aFB fA fB h2.1 h2.2) h9 (aFV fA fB h2.1 h2.2) (aR8 (args := []) (by omega) h9)
theorem aNA (ds : List DV) (h : aAI [.one (.sl uU), .one (.sl uU)] ds) : r8 env Tryz.prog 3 (aFW [.one (.sl uU), .one (.sl uU)] ds) (bv true) := by
 cases h with | cons h1 h =>
 cases h with | cons h2 h =>
 cases h
 cases h1 with | one h1 =>
 cases h2 with | one h2 =>
 obtain ⟨xs, hxs⟩ := aCX h1
 obtain ⟨ys, hys⟩ := aCX h2
 simp only [aFW, pvA, hxs, hys]
 exact aVL xs ys
end Go.Proofs.YtnmidpahhhdlpaaGreatDoor