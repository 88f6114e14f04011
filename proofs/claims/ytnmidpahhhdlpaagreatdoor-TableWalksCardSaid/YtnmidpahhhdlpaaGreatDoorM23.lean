/- TableWalks holds. Part 23 of 29; no condition. -/
import Derived.Test.YtnmidpahhhdlpaaGreatDoorM22
import Derived.ChangeArms
set_option linter.unusedVariables false
set_option linter.unusedSimpArgs false
set_option maxHeartbeats 4000000
set_option maxRecDepth 100000
noncomputable section
namespace Go.Proofs.YtnmidpahhhdlpaaGreatDoor
noncomputable section
open Go Go.Am Go.Pm
abbrev mv (d n : Nat) : RI := oV d (d8 (T n))
abbrev mw (d n : Nat) : RD := dV d (d8 (T n))
abbrev zE7 : List PV := [.v (.int .i64 0), .v (.int .i64 0), .v (.string ⟨#[]⟩), .v (.int .i64 0), .v (.int .i64 0), .lst .full 0 0 [], .lst .full 0 0 []]
def U8 : Code := match Tryz.f3.body with | some c => c | none => .skip
abbrev aYI : RC := .seq (.ops [oV 4 (d8 (.const (.bool false)))]) (.seq (.seq (.ops [mv 15 0,oC 16 (.func 5) [(T 15)],mv 17 16,oG 18 17 false (d8 (T 1)),oCG 19 17 false (.func 5) [(T 18)],oV 20 (j9 (T 17) (.const (.bool true)) (T 19))]) (.cond (rX 20) (.seq (.ops [oC 21 (.func 6) [],mv 4 21]) .ret) .skip)) (.seq (.ops [mv 22 0,oC 23 (.func 7) [(T 22)],mv 24 1,oC 25 (.func 7) [(T 24)],mv 5 23,mv 6 25]) (.seq (.ops [mv 27 5,mv 28 6,oC 29 (.func 8) [(T 27), (T 28)],mv 26 29,oV 30 (E3 (T 26) 0),oV 31 (E3 (T 26) 1),mv 7 30,mv 8 31]) (.seq (.ops [mv 33 0,mv 34 1,oC 35 (.func 9) [(T 33), (T 34)],mv 32 35,oV 36 (E3 (T 32) 0),oV 37 (E3 (T 32) 1),mv 9 36,mv 10 37]) (.seq (.ops [mv 39 5,mv 40 6,oC 41 (.func 10) [(T 39), (T 40)],mv 38 41,oV 42 (E3 (T 38) 0),oV 43 (E3 (T 38) 1),mv 11 42,mv 12 43]) (.seq (.ops [mv 45 0,mv 46 1,oC 47 (.func 11) [(T 45), (T 46)],mv 44 47,oV 48 (E3 (T 44) 0),oV 49 (E3 (T 44) 1),mv 13 48,mv 14 49]) (.seq (.ops [mv 50 7,mv 51 9,oC 52 (.func 12) [(T 50), (T 51)],mv 53 52,oG 54 53 true (d8 (T 8)),oG 55 53 true (d8 (T 10)),oG 56 53 true (a9 env .eql 27 false false (T 54) (T 55)),oV 57 (j9 (T 53) (T 56) (.const (.bool false))),mv 58 57,oG 59 58 true (d8 (T 11)),oG 60 58 true (d8 (T 13)),oCG 61 58 true (.func 12) [(T 59), (T 60)],oV 62 (j9 (T 58) (T 61) (.const (.bool false))),mv 63 62,oG 64 63 true (d8 (T 12)),oG 65 63 true (d8 (T 14)),oG 66 63 true (a9 env .eql 27 false false (T 64) (T 65)),oV 67 (j9 (T 63) (T 66) (.const (.bool false))),mv 68 67,oG 69 68 true (d8 (T 5)),oG 70 68 true (d8 (T 0)),oCG 71 68 true (.func 13) [(T 69), (T 70)],oV 72 (j9 (T 68) (T 71) (.const (.bool false))),mv 73 72,oG 74 73 true (d8 (T 6)),oG 75 73 true (d8 (T 1)),oCG 76 73 true (.func 13) [(T 74), (T 75)],oV 77 (j9 (T 73) (T 76) (.const (.bool false))),mv 78 77,oCG 79 78 true (.func 6) [],oV 80 (j9 (T 78) (T 79) (.const (.bool false))),mv 4 80]) .ret)))))))
theorem fn3 : env.fn 3 = some ⟨81, [.tmp 4], U8⟩ := by kernel_rfl
theorem aQG : i5 env U8 = aYI := by kernel_rfl
def aQO : Code := match Tryz.f5.body with | some c => c | none => .skip
abbrev aQH : RC := .seq (.seq (.ops [mv 4 3,mv 5 0,oV 6 (y6 (T 5)),oV 7 (a9 env .lss 3 false false (T 4) (T 6)),mv 8 7,oG 9 8 true (d8 (T 3)),oG 10 8 true (a9 env .lss 3 false true (T 9) (K 61)),oV 11 (j9 (T 8) (T 10) (.const (.bool false)))]) (.cond (rX 11) .skip (.exit 0))) (.seq (.block 1 (.seq (.ops [mv 14 0,mv 15 3,oV 16 (i3 4 (T 14) (T 15)),oV 17 (c6 0 (T 16)),oV 18 (c4 false 1 (T 17)),oV 19 (E2 (T 18)),oV 20 (a9 env .gtr 3 false true (T 19) (K 100)),mv 21 20,oG 22 21 false (d8 (T 0)),oG 23 21 false (d8 (T 3)),oG 24 21 false (i3 4 (T 22) (T 23)),oG 25 21 false (c6 1 (T 24)),oG 26 21 false (c4 true 3 (T 25)),oCG 27 21 false (.func 16) [(T 26)],oV 28 (j9 (T 21) (.const (.bool true)) (T 27))]) (.cond (rX 28) (.seq (.ops [oV 2 (d8 (.const (.bool true)))]) .ret) .skip))) (.ops [mv 12 3,oV 13 (a9 env .add 3 false true (T 12) (K 1)),mv 3 13]))
abbrev bCB : RC := .seq (.ops [oV 2 (d8 (.const (.bool false)))]) (.seq (.seq (.ops [oV 3 (d8 (K 0))]) (.block 0 (.loop aQH))) (.seq (.ops [mv 29 0,oV 30 (y6 (T 29)),oV 31 (a9 env .gtr 3 false true (T 30) (K 60)),mv 2 31]) .ret))
theorem fn5 : env.fn 5 = some ⟨32, [.tmp 2], aQO⟩ := by kernel_rfl
theorem bBY : i5 env aQO = bCB := by kernel_rfl
def aXU : Code := match Tryz.f6.body with | some c => c | none => .skip
theorem fn6 : env.fn 6 = some ⟨53, [.tmp 0], aXU⟩ := by kernel_rfl
def aR2 : Code := match Tryz.f7.body with | some c => c | none => .skip
abbrev aR5 : RC := .seq (.seq (.ops [mv 5 4,mv 6 0,oV 7 (y6 (T 6)),oV 8 (a9 env .lss 3 false false (T 5) (T 7))]) (.cond (rX 8) .skip (.exit 0))) (.seq (.block 1 (.drawn true [mw 11 3,mw 12 0,mw 13 4,dV 14 (i3 4 (T 12) (T 13)),dV 15 (c6 0 (T 14)),dV 16 (c4 false 1 (T 15)),mw 17 0,mw 18 4,dV 19 (i3 4 (T 17) (T 18)),dV 20 (c6 1 (T 19)),dV 21 (c4 true 3 (T 20)),dC false 22 (.func 23) [(T 21)],dV 23 (dE [.v (.string ⟨#[]⟩), .v (.int .i64 0), .v (.int .i64 0), .lst .full 0 0 []] [(0, 1), (1, 3)] [(0, (T 16)), (1, (T 22))]),dU 24 (C0 4 1 [.v (.string ⟨#[]⟩), .v (.int .i64 0), .v (.int .i64 0), .lst .full 0 0 []] [(0, (T 23))]),dA 25 4 56 4 (T 11) (T 24),mw 3 25])) (.ops [mv 9 4,oV 10 (a9 env .add 3 false true (T 9) (K 1)),mv 4 10]))
abbrev bBC : RC := .seq (.ops [oV 2 (d8 (.const (.slice none 0 0)))]) (.seq (.ops [oV 3 (d8 (.const (.slice none 0 0)))]) (.seq (.seq (.ops [oV 4 (d8 (K 0))]) (.block 0 (.loop aR5))) (.seq (.ops [mv 26 3,mv 2 26]) .ret)))
theorem fn7 : env.fn 7 = some ⟨27, [.tmp 2], aR2⟩ := by kernel_rfl
theorem aX6 : i5 env aR2 = bBC := by kernel_rfl
def aQC : Code := match Tryz.f8.body with | some c => c | none => .skip
abbrev aZ7 : RC := .seq (.ops [oV 4 (d8 (.const (.slice none 0 0))),oV 5 (d8 (K 0))]) (.seq (.seq (.ops [mv 7 0,oC 8 (.func 14) [(T 7)],oV 9 (a9 env .neq 27 false true (T 8) (K 0)),mv 10 9,oG 11 10 false (d8 (T 1)),oCG 12 10 false (.func 14) [(T 11)],oG 13 10 false (a9 env .neq 27 false true (T 12) (K 0)),oV 14 (j9 (T 10) (.const (.bool true)) (T 13))]) (.cond (rX 14) (.seq (.ops [oV 4 (d8 (.const (.slice none 0 0))),oV 5 (d8 (K 2))]) .ret) .skip)) (.seq (.ops [oU 6 (Y1 [.lst .full 0 0 []])]) (.seq (.ops [mv 15 0,oC 16 (.func 25) [(T 15)],mv 17 1,oC 18 (.func 25) [(T 17)],oV 19 (rfn 27 [] [(T 6)]),oC 20 (.func 24) [(T 16), (T 18), (.func 26), (T 19)]]) (.seq (.ops [oV 21 (c4 false 1 (T 6)),mv 4 21,oV 5 (d8 (K 0))]) .ret))))
theorem fn8 : env.fn 8 = some ⟨22, [.tmp 4, .tmp 5], aQC⟩ := by kernel_rfl
theorem aQJ : i5 env aQC = aZ7 := by kernel_rfl
def aSB : Code := match Tryz.f9.body with | some c => c | none => .skip
abbrev aQP : RC := .seq (.seq (.ops [mv 23 7,mv 24 0,oV 25 (y6 (T 24)),oV 26 (a9 env .lss 3 false false (T 23) (T 25))]) (.cond (rX 26) .skip (.exit 0))) (.seq (.block 1 (.ops [mv 29 6,mv 30 0,mv 31 7,oV 32 (i3 4 (T 30) (T 31)),oV 33 (c6 0 (T 32)),oV 34 (c4 false 1 (T 33)),oU 35 (C0 1 1 [.v (.string ⟨#[]⟩)] [(0, (T 34))]),oA 36 1 16 1 (T 29) (T 35),mv 6 36])) (.ops [mv 27 7,oV 28 (a9 env .add 3 false true (T 27) (K 1)),mv 7 28]))
abbrev aRE : RC := .seq (.seq (.ops [mv 37 8,mv 38 1,oV 39 (y6 (T 38)),oV 40 (a9 env .lss 3 false false (T 37) (T 39))]) (.cond (rX 40) .skip (.exit 2))) (.seq (.block 3 (.ops [mv 43 6,mv 44 1,mv 45 8,oV 46 (i3 4 (T 44) (T 45)),oV 47 (c6 0 (T 46)),oV 48 (c4 false 1 (T 47)),oU 49 (C0 1 1 [.v (.string ⟨#[]⟩)] [(0, (T 48))]),oA 50 1 16 1 (T 43) (T 49),mv 6 50])) (.ops [mv 41 8,oV 42 (a9 env .add 3 false true (T 41) (K 1)),mv 8 42]))
abbrev aRM : RC := .seq (.ops [mv 53 10,mv 54 6,oV 55 (y6 (T 54)),oV 56 (a9 env .lss 3 false false (T 53) (T 55))]) (.cond (rX 56) .skip (.exit 4))
abbrev aQN : RC := .ops [mv 60 0,mv 61 6,mv 62 10,oV 63 (i3 1 (T 61) (T 62)),oV 64 (c4 false 1 (T 63)),oC 65 (.func 30) [(T 60), (T 64)],mv 59 65,oV 66 (E3 (T 59) 0),oV 67 (E3 (T 59) 1),oU 11 (Y1 [.v (.int .i64 0), .v (.int .i64 0), .lst .full 0 0 []]),oS (m7 3 (T 11) (T 66)),mv 12 67]
abbrev aQD : RC := .ops [mv 69 1,mv 70 6,mv 71 10,oV 72 (i3 1 (T 70) (T 71)),oV 73 (c4 false 1 (T 72)),oC 74 (.func 30) [(T 69), (T 73)],mv 68 74,oV 75 (E3 (T 68) 0),oV 76 (E3 (T 68) 1),oU 13 (Y1 [.v (.int .i64 0), .v (.int .i64 0), .lst .full 0 0 []]),oS (m7 3 (T 13) (T 75)),mv 14 76]
abbrev aHT : RC := .ops [oU 77 (C0 1 0 [] []),oV 78 (c6 2 (T 11)),oV 79 (c4 false 1 (T 78)),oA 80 1 1 1 (T 77) (T 79),oV 81 (c6 2 (T 11)),oS (m7 1 (T 81) (T 80))]
abbrev aKH : RC := .ops [oU 82 (C0 1 0 [] []),oV 83 (c6 2 (T 13)),oV 84 (c4 false 1 (T 83)),oA 85 1 1 1 (T 82) (T 84),oV 86 (c6 2 (T 13)),oS (m7 1 (T 86) (T 85))]
abbrev aI5 : RC := .drawn true [mw 87 9,mw 88 6,mw 89 10,dV 90 (i3 1 (T 88) (T 89)),dV 91 (c4 false 1 (T 90)),dV 92 (c4 true 3 (T 11)),dV 93 (c4 true 3 (T 13)),dV 94 (dE [.v (.string ⟨#[]⟩), .v (.int .i64 0), .v (.int .i64 0), .lst .full 0 0 [], .v (.int .i64 0), .v (.int .i64 0), .lst .full 0 0 []] [(0, 1), (1, 3), (4, 3)] [(0, (T 91)), (1, (T 92)), (2, (T 93))]),dU 95 (C0 7 1 [.v (.string ⟨#[]⟩), .v (.int .i64 0), .v (.int .i64 0), .lst .full 0 0 [], .v (.int .i64 0), .v (.int .i64 0), .lst .full 0 0 []] [(0, (T 94))]),dA 96 7 96 7 (T 87) (T 95),mw 9 96]
abbrev aQB : RC := .seq aKH aI5
abbrev aQI : RC := .seq aHT aQB
abbrev aRY : RC := .seq aQD aQI
abbrev aRV : RC := .block 5 (.seq aQN aRY)
abbrev aRU : RC := .ops [mv 57 10,oV 58 (a9 env .add 3 false true (T 57) (K 1)),mv 10 58]
abbrev aSM : RC := .seq aRV aRU
abbrev aQQ : RC := .seq aRM aSM
abbrev bAA : RC := .seq (.ops [oV 4 (d8 (.const (.slice none 0 0))),oV 5 (d8 (K 0))]) (.seq (.seq (.ops [mv 15 0,oC 16 (.func 28) [(T 15)],oV 17 (a9 env .neq 27 false true (T 16) (K 0)),mv 18 17,oG 19 18 false (d8 (T 1)),oCG 20 18 false (.func 28) [(T 19)],oG 21 18 false (a9 env .neq 27 false true (T 20) (K 0)),oV 22 (j9 (T 18) (.const (.bool true)) (T 21))]) (.cond (rX 22) (.seq (.ops [oV 4 (d8 (.const (.slice none 0 0))),oV 5 (d8 (K 2))]) .ret) .skip)) (.seq (.ops [oV 6 (d8 (.const (.slice none 0 0)))]) (.seq (.seq (.ops [oV 7 (d8 (K 0))]) (.block 0 (.loop aQP))) (.seq (.seq (.ops [oV 8 (d8 (K 0))]) (.block 2 (.loop aRE))) (.seq (.ops [mv 51 6,oC 52 (.func 29) [(T 51)],mv 6 52]) (.seq (.ops [oV 9 (d8 (.const (.slice none 0 0)))]) (.seq (.seq (.ops [oV 10 (d8 (K 0))]) (.block 4 (.loop aQQ))) (.seq (.ops [mv 97 9,mv 4 97,oV 5 (d8 (K 0))]) .ret))))))))
theorem fn9 : env.fn 9 = some ⟨98, [.tmp 4, .tmp 5], aSB⟩ := by kernel_rfl
theorem aRW : i5 env aSB = bAA := by kernel_rfl
def aH0 : Code := match Tryz.f10.body with | some c => c | none => .skip
abbrev aZJ : RC := .seq (.ops [oV 4 (d8 (.const (.slice none 0 0))),oV 5 (d8 (K 0))]) (.seq (.ops [mv 9 0,mv 10 1,oC 11 (.func 8) [(T 9), (T 10)],mv 8 11,oV 12 (E3 (T 8) 0),oV 13 (E3 (T 8) 1),mv 6 12,mv 7 13]) (.seq (.ops [mv 14 6,oC 15 (.func 31) [(T 14), (.func 32)],mv 16 7,mv 4 15,mv 5 16]) .ret))
theorem aY4 : env.fn 10 = some ⟨17, [.tmp 4, .tmp 5], aH0⟩ := by kernel_rfl
theorem aI6 : i5 env aH0 = aZJ := by kernel_rfl
def aHQ : Code := match Tryz.f11.body with | some c => c | none => .skip
abbrev aM5 : RC := .seq (.seq (.ops [mv 16 9,mv 17 6,oV 18 (y6 (T 17)),oV 19 (a9 env .lss 3 false false (T 16) (T 18))]) (.cond (rX 19) .skip (.exit 0))) (.seq (.block 1 (.seq (.drawn true [mw 22 6,mw 23 9,dV 24 (i3 7 (T 22) (T 23)),dV 25 (c6 1 (T 24)),dV 26 (c4 true 3 (T 25)),mw 27 6,mw 28 9,dV 29 (i3 7 (T 27) (T 28)),dV 30 (c6 4 (T 29)),dV 31 (c4 true 3 (T 30)),dC true 32 (.func 34) [(T 26), (T 31)],dV 33 (V3 .not (T 32))]) (.cond (rX 33) (.ops [mv 34 8,mv 35 6,mv 36 9,oV 37 (i3 7 (T 35) (T 36)),oV 38 (c4 true 7 (T 37)),oU 39 (C0 7 1 [.v (.string ⟨#[]⟩), .v (.int .i64 0), .v (.int .i64 0), .lst .full 0 0 [], .v (.int .i64 0), .v (.int .i64 0), .lst .full 0 0 []] [(0, (T 38))]),oA 40 7 96 7 (T 34) (T 39),mv 8 40]) .skip))) (.ops [mv 20 9,oV 21 (a9 env .add 3 false true (T 20) (K 1)),mv 9 21]))
abbrev aT8 : RC := .seq (.ops [oV 4 (d8 (.const (.slice none 0 0))),oV 5 (d8 (K 0))]) (.seq (.ops [mv 11 0,mv 12 1,oC 13 (.func 9) [(T 11), (T 12)],mv 10 13,oV 14 (E3 (T 10) 0),oV 15 (E3 (T 10) 1),mv 6 14,mv 7 15]) (.seq (.ops [oV 8 (d8 (.const (.slice none 0 0)))]) (.seq (.seq (.ops [oV 9 (d8 (K 0))]) (.block 0 (.loop aM5))) (.seq (.ops [mv 41 8,mv 42 7,mv 4 41,mv 5 42]) .ret))))
theorem bEB : env.fn 11 = some ⟨43, [.tmp 4, .tmp 5], aHQ⟩ := by kernel_rfl
theorem aVZ : i5 env aHQ = aT8 := by kernel_rfl
def aM1 : Code := match Tryz.f12.body with | some c => c | none => .skip
abbrev aLQ : RC := .seq (.seq (.ops [mv 11 5,mv 12 0,oV 13 (y6 (T 12)),oV 14 (a9 env .lss 3 false false (T 11) (T 13))]) (.cond (rX 14) .skip (.exit 0))) (.seq (.block 1 (.seq (.drawn true [mw 17 0,mw 18 5,dV 19 (i3 7 (T 17) (T 18)),dV 20 (c6 0 (T 19)),dV 21 (c4 false 1 (T 20)),mw 22 1,mw 23 5,dV 24 (i3 7 (T 22) (T 23)),dV 25 (c6 0 (T 24)),dV 26 (c4 false 1 (T 25)),dV 27 (a9 env .neq 9 false false (T 21) (T 26)),mw 28 27,dG 29 28 false (d8 (T 0)),dG 30 28 false (d8 (T 5)),dG 31 28 false (i3 7 (T 29) (T 30)),dG 32 28 false (c6 1 (T 31)),dG 33 28 false (c4 true 3 (T 32)),dG 34 28 false (d8 (T 1)),dG 35 28 false (d8 (T 5)),dG 36 28 false (i3 7 (T 34) (T 35)),dG 37 28 false (c6 1 (T 36)),dG 38 28 false (c4 true 3 (T 37)),dCG true 39 28 false (.func 35) [(T 33), (T 38)],dG 40 28 false (V3 .not (T 39)),dV 41 (j9 (T 28) (.const (.bool true)) (T 40)),mw 42 41,dG 43 42 false (d8 (T 0)),dG 44 42 false (d8 (T 5)),dG 45 42 false (i3 7 (T 43) (T 44)),dG 46 42 false (c6 4 (T 45)),dG 47 42 false (c4 true 3 (T 46)),dG 48 42 false (d8 (T 1)),dG 49 42 false (d8 (T 5)),dG 50 42 false (i3 7 (T 48) (T 49)),dG 51 42 false (c6 4 (T 50)),dG 52 42 false (c4 true 3 (T 51)),dCG true 53 42 false (.func 35) [(T 47), (T 52)],dG 54 42 false (V3 .not (T 53)),dV 55 (j9 (T 42) (.const (.bool true)) (T 54))]) (.cond (rX 55) (.seq (.ops [oV 4 (d8 (.const (.bool false)))]) .ret) .skip))) (.ops [mv 15 5,oV 16 (a9 env .add 3 false true (T 15) (K 1)),mv 5 16]))
abbrev aWE : RC := .seq (.ops [oV 4 (d8 (.const (.bool false)))]) (.seq (.seq (.ops [mv 6 0,oV 7 (y6 (T 6)),mv 8 1,oV 9 (y6 (T 8)),oV 10 (a9 env .neq 3 false false (T 7) (T 9))]) (.cond (rX 10) (.seq (.ops [oV 4 (d8 (.const (.bool false)))]) .ret) .skip)) (.seq (.seq (.ops [oV 5 (d8 (K 0))]) (.block 0 (.loop aLQ))) (.seq (.ops [oV 4 (d8 (.const (.bool true)))]) .ret)))
theorem bC5 : env.fn 12 = some ⟨56, [.tmp 4], aM1⟩ := by kernel_rfl
theorem aVT : i5 env aM1 = aWE := by kernel_rfl
def aMM : Code := match Tryz.f13.body with | some c => c | none => .skip
abbrev aKX : RC := .seq (.seq (.ops [mv 11 5,mv 12 0,oV 13 (y6 (T 12)),oV 14 (a9 env .lss 3 false false (T 11) (T 13))]) (.cond (rX 14) .skip (.exit 0))) (.seq (.block 1 (.seq (.drawn true [mw 17 0,mw 18 5,dV 19 (i3 4 (T 17) (T 18)),dV 20 (c6 0 (T 19)),dV 21 (c4 false 1 (T 20)),mw 22 1,mw 23 5,dV 24 (i3 4 (T 22) (T 23)),dV 25 (c6 0 (T 24)),dV 26 (c4 false 1 (T 25)),dV 27 (a9 env .neq 9 false false (T 21) (T 26)),mw 28 27,dG 29 28 false (d8 (T 0)),dG 30 28 false (d8 (T 5)),dG 31 28 false (i3 4 (T 29) (T 30)),dG 32 28 false (c6 1 (T 31)),dG 33 28 false (c4 true 3 (T 32)),dG 34 28 false (d8 (T 1)),dG 35 28 false (d8 (T 5)),dG 36 28 false (i3 4 (T 34) (T 35)),dG 37 28 false (c6 1 (T 36)),dG 38 28 false (c4 true 3 (T 37)),dCG true 39 28 false (.func 35) [(T 33), (T 38)],dG 40 28 false (V3 .not (T 39)),dV 41 (j9 (T 28) (.const (.bool true)) (T 40))]) (.cond (rX 41) (.seq (.ops [oV 4 (d8 (.const (.bool false)))]) .ret) .skip))) (.ops [mv 15 5,oV 16 (a9 env .add 3 false true (T 15) (K 1)),mv 5 16]))
abbrev aWF : RC := .seq (.ops [oV 4 (d8 (.const (.bool false)))]) (.seq (.seq (.ops [mv 6 0,oV 7 (y6 (T 6)),mv 8 1,oV 9 (y6 (T 8)),oV 10 (a9 env .neq 3 false false (T 7) (T 9))]) (.cond (rX 10) (.seq (.ops [oV 4 (d8 (.const (.bool false)))]) .ret) .skip)) (.seq (.seq (.ops [oV 5 (d8 (K 0))]) (.block 0 (.loop aKX))) (.seq (.ops [oV 4 (d8 (.const (.bool true)))]) .ret)))
theorem bDI : env.fn 13 = some ⟨42, [.tmp 4], aMM⟩ := by kernel_rfl
theorem aXF : i5 env aMM = aWF := by kernel_rfl
def aKI : Code := match Tryz.f14.body with | some c => c | none => .skip
abbrev aHU : RC := .seq (.ops [oV 11 (a9 env .lss 3 false false (T 10) (T 9))]) (.seq (.cond (rX 11) .skip (.exit 0)) (.seq (.block 1 (.seq (.ops [mv 12 10,oV 13 (i3 4 (T 8) (T 10)),oV 14 (c4 true 4 (T 13)),oU 4 (Y1 [.v (.string ⟨#[]⟩), .v (.int .i64 0), .v (.int .i64 0), .lst .full 0 0 []]),mv 3 12,oS (m7 4 (T 4) (T 14))]) (.seq (.drawn true [dV 15 (c6 0 (T 4)),dV 16 (c4 false 1 (T 15)),dC true 17 (.func 36) [(T 16)],dV 18 (a9 env .neq 27 false true (T 17) (K 0)),mw 19 18,dG 20 19 false (c6 1 (T 4)),dG 21 19 false (c4 true 3 (T 20)),dCG true 22 19 false (.func 37) [(T 21)],dG 23 19 false (a9 env .neq 27 false true (T 22) (K 0)),dV 24 (j9 (T 19) (.const (.bool true)) (T 23)),mw 25 24,dG 26 25 false (c6 1 (T 4)),dG 27 25 false (c6 0 (T 26)),dG 28 25 false (c4 false 1 (T 27)),dG 29 25 false (a9 env .eql 3 false true (T 28) (K 3)),dV 30 (j9 (T 25) (.const (.bool true)) (T 29)),mw 31 30,dG 32 31 false (d8 (T 3)),dG 33 31 false (a9 env .gtr 3 false true (T 32) (K 0)),dG 34 31 false (d8 (T 33)),dG 35 34 true (d8 (T 0)),dG 36 34 true (d8 (T 3)),dG 37 34 true (a9 env .sub 3 false true (T 36) (K 1)),dG 38 34 true (i3 4 (T 35) (T 37)),dG 39 34 true (c6 0 (T 38)),dG 40 34 true (c4 false 1 (T 39)),dG 41 34 true (c6 0 (T 4)),dG 42 34 true (c4 false 1 (T 41)),dCG true 43 34 true (.func 15) [(T 40), (T 42)],dG 44 34 true (V3 .not (T 43)),dG 45 31 false (j9 (T 34) (T 44) (.const (.bool false))),dV 46 (j9 (T 31) (.const (.bool true)) (T 45)),mw 47 46,dG 48 47 false (d8 (T 0)),dG 49 47 false (c6 0 (T 4)),dG 50 47 false (c4 false 1 (T 49)),dCG true 51 47 false (.func 38) [(T 48), (T 50)],dG 52 47 false (a9 env .neq 27 false true (T 51) (K 0)),dV 53 (j9 (T 47) (.const (.bool true)) (T 52))]) (.cond (rX 53) (.seq (.ops [oV 2 (d8 (K 2))]) .ret) .skip)))) (.ops [oV 54 (a9 env .add 3 false true (T 10) (K 1)),mv 10 54])))
abbrev aVH : RC := .seq (.ops [oV 2 (d8 (K 0))]) (.seq (.seq (.ops [mv 5 0,oV 6 (y6 (T 5)),oV 7 (a9 env .gtr 3 false true (T 6) (K 200))]) (.cond (rX 7) (.seq (.ops [oV 2 (d8 (K 2))]) .ret) .skip)) (.seq (.seq (.ops [mv 8 0,oV 9 (y6 (T 8)),oV 10 (d8 (K 0))]) (.block 0 (.loop aHU))) (.seq (.ops [oV 2 (d8 (K 0))]) .ret)))
theorem bC2 : env.fn 14 = some ⟨55, [.tmp 2], aKI⟩ := by kernel_rfl
theorem aTT : i5 env aKI = aVH := by kernel_rfl
def aIT : Code := match Tryz.f15.body with | some c => c | none => .skip
abbrev aYO : RC := .seq (.ops [oV 4 (d8 (.const (.bool false)))]) (.seq (.ops [mv 5 0,mv 6 1,oC 7 (.func 39) [(T 5), (T 6)],oV 8 (a9 env .lss 3 false true (T 7) (K 0)),mv 4 8]) .ret)
theorem bDT : env.fn 15 = some ⟨9, [.tmp 4], aIT⟩ := by kernel_rfl
theorem aWD : i5 env aIT = aYO := by kernel_rfl
def aJ3 : Code := match Tryz.f16.body with | some c => c | none => .skip
abbrev aZW : RC := .seq (.ops [oU 1 (V1 (T 0)),oV 2 (d8 (.const (.bool false)))]) (.seq (.ops [oV 3 (c6 2 (T 1)),oV 4 (c4 false 1 (T 3)),oV 5 (y6 (T 4)),oV 6 (a9 env .gtr 3 false true (T 5) (K 1200)),mv 2 6]) .ret)
theorem bC8 : env.fn 16 = some ⟨7, [.tmp 2], aJ3⟩ := by kernel_rfl
theorem aUL : i5 env aJ3 = aZW := by kernel_rfl
def aLS : Code := match Tryz.f23.body with | some c => c | none => .skip
abbrev bBK : RC := .seq (.ops [oU 1 (V1 (T 0)),oU 2 (Y1 [.v (.int .i64 0), .v (.int .i64 0), .lst .full 0 0 []])]) (.seq (.ops [oV 3 (c6 2 (T 1)),oV 4 (c4 false 1 (T 3)),oC 5 (.func 50) [(T 4)],oV 6 (c6 2 (T 1)),oS (m7 1 (T 6) (T 5))]) (.seq (.ops [oV 7 (c4 true 3 (T 1)),oS (m7 3 (T 2) (T 7))]) .ret))
theorem bDX : env.fn 23 = some ⟨8, [.cell 2 36], aLS⟩ := by kernel_rfl
theorem aXI : i5 env aLS = bBK := by kernel_rfl
def vJ : Code := match Tryz.f24.body with | some c => c | none => .skip
abbrev aHK : RC := .seq (.seq (.ops [mv 10 8,mv 11 0,oV 12 (y6 (T 11)),oV 13 (a9 env .lss 3 false false (T 10) (T 12)),mv 14 13,oG 15 14 false (d8 (T 9)),oG 16 14 false (d8 (T 1)),oG 17 14 false (y6 (T 16)),oG 18 14 false (a9 env .lss 3 false false (T 15) (T 17)),oV 19 (j9 (T 14) (.const (.bool true)) (T 18))]) (.cond (rX 19) .skip (.exit 0))) (.block 1 (.seq (.block 2 (.seq (.drawn true [mw 21 9,mw 22 1,dV 23 (y6 (T 22)),dV 24 (a9 env .eql 3 false false (T 21) (T 23)),mw 25 24,dG 26 25 false (d8 (T 8)),dG 27 25 false (d8 (T 0)),dG 28 25 false (y6 (T 27)),dG 29 25 false (a9 env .lss 3 false false (T 26) (T 28)),dG 30 25 false (d8 (T 29)),dG 31 30 true (d8 (T 2)),dG 32 30 true (d8 (T 0)),dG 33 30 true (d8 (T 8)),dG 34 30 true (i3 4 (T 32) (T 33)),dG 35 30 true (c4 true 4 (T 34)),dG 36 30 true (d8 (T 1)),dG 37 30 true (d8 (T 9)),dG 38 30 true (i3 4 (T 36) (T 37)),dG 39 30 true (c4 true 4 (T 38)),dCG true 40 30 true (T 31) [(T 35), (T 39)],dG 41 30 true (a9 env .lss 3 false true (T 40) (K 0)),dG 42 25 false (j9 (T 30) (T 41) (.const (.bool false))),dV 43 (j9 (T 25) (.const (.bool true)) (T 42)),mw 20 43]) (.cond (rX 20) (.seq (.ops [mv 44 3,mv 45 0,mv 46 8,oV 47 (i3 4 (T 45) (T 46)),oC 48 (T 44) [(T 47), (.const (.pointer none))]]) (.seq (.ops [mv 49 8,oV 50 (a9 env .add 3 false true (T 49) (K 1)),mv 8 50]) (.exit 1))) (.seq (.drawn true [mw 52 8,mw 53 0,dV 54 (y6 (T 53)),dV 55 (a9 env .eql 3 false false (T 52) (T 54)),mw 56 55,dG 57 56 false (d8 (T 2)),dG 58 56 false (d8 (T 1)),dG 59 56 false (d8 (T 9)),dG 60 56 false (i3 4 (T 58) (T 59)),dG 61 56 false (c4 true 4 (T 60)),dG 62 56 false (d8 (T 0)),dG 63 56 false (d8 (T 8)),dG 64 56 false (i3 4 (T 62) (T 63)),dG 65 56 false (c4 true 4 (T 64)),dCG true 66 56 false (T 57) [(T 61), (T 65)],dG 67 56 false (a9 env .lss 3 false true (T 66) (K 0)),dV 68 (j9 (T 56) (.const (.bool true)) (T 67)),mw 51 68]) (.cond (rX 51) (.seq (.ops [mv 69 3,mv 70 1,mv 71 9,oV 72 (i3 4 (T 70) (T 71)),oC 73 (T 69) [(.const (.pointer none)), (T 72)]]) (.seq (.ops [mv 74 9,oV 75 (a9 env .add 3 false true (T 74) (K 1)),mv 9 75]) (.exit 1))) .skip))))) (.seq (.drawn true [mw 76 3,mw 77 0,mw 78 8,dV 79 (i3 4 (T 77) (T 78)),mw 80 1,mw 81 9,dV 82 (i3 4 (T 80) (T 81)),dC true 83 (T 76) [(T 79), (T 82)]]) (.ops [mv 84 8,oV 85 (a9 env .add 3 false true (T 84) (K 1)),mv 86 9,oV 87 (a9 env .add 3 false true (T 86) (K 1)),mv 8 85,mv 9 87]))))
abbrev aSX : RC := .seq (.ops [oV 8 (d8 (K 0)),oV 9 (d8 (K 0))]) (.seq .skip (.block 0 (.loop aHK)))
abbrev aWU : RC := .scope (Q8 [0] vJ)
theorem bEM : env.fn 24 = some ⟨88, [], vJ⟩ := by kernel_rfl
theorem aUI : i5 env vJ = aWU := by kernel_rfl
theorem aFL : i5 env (Q8 [0] vJ) = aSX := by kernel_rfl
def aKN : Code := match Tryz.f25.body with | some c => c | none => .skip
abbrev aJB : RC := .seq (.ops [oV 9 (a9 env .lss 3 false false (T 8) (T 7))]) (.seq (.cond (rX 9) .skip (.exit 0)) (.seq (.block 1 (.seq (.ops [oV 10 (i3 4 (T 6) (T 8)),oV 11 (c4 true 4 (T 10)),oU 5 (Y1 [.v (.string ⟨#[]⟩), .v (.int .i64 0), .v (.int .i64 0), .lst .full 0 0 []]),oS (m7 4 (T 5) (T 11))]) (.ops [mv 12 3,oV 13 (c4 true 4 (T 5)),oC 14 (.func 42) [(T 13)],oU 15 (C0 4 1 [.v (.string ⟨#[]⟩), .v (.int .i64 0), .v (.int .i64 0), .lst .full 0 0 []] [(0, (T 14))]),oA 16 4 56 4 (T 12) (T 15),mv 3 16]))) (.ops [oV 17 (a9 env .add 3 false true (T 8) (K 1)),mv 8 17])))
abbrev aVY : RC := .seq (.ops [oV 2 (d8 (.const (.slice none 0 0)))]) (.seq (.ops [oV 3 (d8 (.const (.slice none 0 0)))]) (.seq (.seq (.ops [mv 6 0,oV 7 (y6 (T 6)),oV 8 (d8 (K 0))]) (.block 0 (.loop aJB))) (.seq (.ops [mv 18 3,mv 2 18]) .ret)))
theorem bEC : env.fn 25 = some ⟨19, [.tmp 2], aKN⟩ := by kernel_rfl
theorem aUR : i5 env aKN = aVY := by kernel_rfl
def aKG : Code := match Tryz.f26.body with | some c => c | none => .skip
abbrev aWT : RC := .seq (.ops [oU 2 (V1 (T 0)),oU 3 (V1 (T 1)),oV 4 (d8 (K 0))]) (.seq (.block 0 (.seq (.ops [oV 6 (c6 0 (T 2)),oV 7 (c4 false 1 (T 6)),oV 8 (c6 0 (T 3)),oV 9 (c4 false 1 (T 8)),oC 10 (.func 15) [(T 7), (T 9)],mv 5 10]) (.cond (rX 5) (.seq (.ops [oV 4 (d8 (K (-1)))]) .ret) (.seq (.ops [oV 12 (c6 0 (T 3)),oV 13 (c4 false 1 (T 12)),oV 14 (c6 0 (T 2)),oV 15 (c4 false 1 (T 14)),oC 16 (.func 15) [(T 13), (T 15)],mv 11 16]) (.cond (rX 11) (.seq (.ops [oV 4 (d8 (K 1))]) .ret) .skip))))) (.seq (.ops [oV 4 (d8 (K 0))]) .ret))
theorem bC1 : env.fn 26 = some ⟨17, [.tmp 4], aKG⟩ := by kernel_rfl
theorem aS8 : i5 env aKG = aWT := by kernel_rfl
def aIY : Code := match Tryz.f27.body with | some c => c | none => .skip
abbrev aQZ : RC := .seq (.ops [mv 6 0,oV 7 (a9 env .neq 52 false true (T 6) (.const (.pointer none)))]) (.cond (rX 7) (.drawn true [mw 8 0,dV 9 (aAC (T 8)),dV 10 (c6 0 (T 9)),dV 11 (c4 false 1 (T 10)),mw 12 0,dV 13 (aAC (T 12)),dV 14 (c6 1 (T 13)),dV 15 (c4 true 3 (T 14)),dV 16 (c6 0 (T 5)),.sto (rI none none (m7 1 (T 16) (T 11))) (fun s => g7 s.tm (T 16)) (fun s => [(T 14)].map (g7 s.tm)),dV 17 (c6 1 (T 5)),dS (m7 3 (T 17) (T 15))]) .skip)
abbrev aQ5 : RC := .seq (.ops [mv 18 1,oV 19 (a9 env .neq 52 false true (T 18) (.const (.pointer none)))]) (.cond (rX 19) (.drawn true [mw 20 1,dV 21 (aAC (T 20)),dV 22 (c6 0 (T 21)),dV 23 (c4 false 1 (T 22)),mw 24 1,dV 25 (aAC (T 24)),dV 26 (c6 1 (T 25)),dV 27 (c4 true 3 (T 26)),dV 28 (c6 0 (T 5)),.sto (rI none none (m7 1 (T 28) (T 23))) (fun s => g7 s.tm (T 28)) (fun s => [(T 26)].map (g7 s.tm)),dV 29 (c6 4 (T 5)),dS (m7 3 (T 29) (T 27))]) .skip)
abbrev aTU : RC := .seq (.ops [oU 5 (Y1 [.v (.string ⟨#[]⟩), .v (.int .i64 0), .v (.int .i64 0), .lst .full 0 0 [], .v (.int .i64 0), .v (.int .i64 0), .lst .full 0 0 []])]) (.seq aQZ (.seq aQ5 (.ops [oV 30 (c4 false 1 (T 2)),oV 31 (c4 true 7 (T 5)),oU 32 (C0 7 1 [.v (.string ⟨#[]⟩), .v (.int .i64 0), .v (.int .i64 0), .lst .full 0 0 [], .v (.int .i64 0), .v (.int .i64 0), .lst .full 0 0 []] [(0, (T 31))]),oA 33 7 96 7 (T 30) (T 32),oS (m7 1 (T 2) (T 33))])))
theorem bEK : env.fn 27 = some ⟨34, [], aIY⟩ := by kernel_rfl
theorem aVD : i5 env aIY = aTU := by kernel_rfl
def aJ0 : Code := match Tryz.f28.body with | some c => c | none => .skip
abbrev aH8 : RC := .seq (.seq (.ops [mv 8 3,mv 9 0,oV 10 (y6 (T 9)),oV 11 (a9 env .lss 3 false false (T 8) (T 10))]) (.cond (rX 11) .skip (.exit 0))) (.seq (.block 1 (.seq (.ops [mv 14 0,mv 15 3,oV 16 (i3 4 (T 14) (T 15)),oV 17 (c4 true 4 (T 16)),oU 4 (Y1 [.v (.string ⟨#[]⟩), .v (.int .i64 0), .v (.int .i64 0), .lst .full 0 0 []]),oS (m7 4 (T 4) (T 17))]) (.seq (.seq (.ops [oV 18 (c6 0 (T 4)),oV 19 (c4 false 1 (T 18)),oC 20 (.func 51) [(T 19)],oV 21 (a9 env .neq 27 false true (T 20) (K 0)),mv 22 21,oG 23 22 false (c6 1 (T 4)),oG 24 22 false (c4 true 3 (T 23)),oCG 25 22 false (.func 52) [(T 24)],oG 26 22 false (a9 env .neq 27 false true (T 25) (K 0)),oV 27 (j9 (T 22) (.const (.bool true)) (T 26)),mv 28 27,oG 29 28 false (c6 1 (T 4)),oG 30 28 false (c6 0 (T 29)),oG 31 28 false (c4 false 1 (T 30)),oG 32 28 false (a9 env .eql 3 false true (T 31) (K 3)),oV 33 (j9 (T 28) (.const (.bool true)) (T 32))]) (.cond (rX 33) (.seq (.ops [oV 2 (d8 (K 2))]) .ret) .skip)) (.seq (.drawn true [mw 34 3,dV 35 (a9 env .gtr 3 false true (T 34) (K 0)),mw 36 35,dG 37 36 true (d8 (T 0)),dG 38 36 true (d8 (T 3)),dG 39 36 true (a9 env .sub 3 false true (T 38) (K 1)),dG 40 36 true (i3 4 (T 37) (T 39)),dG 41 36 true (c6 0 (T 40)),dG 42 36 true (c4 false 1 (T 41)),dG 43 36 true (c6 0 (T 4)),dG 44 36 true (c4 false 1 (T 43)),dCG true 45 36 true (.func 53) [(T 42), (T 44)],dG 46 36 true (V3 .not (T 45)),dV 47 (j9 (T 36) (T 46) (.const (.bool false))),mw 48 47,dG 49 48 false (d8 (T 0)),dG 50 48 false (c6 0 (T 4)),dG 51 48 false (c4 false 1 (T 50)),dCG true 52 48 false (.func 54) [(T 49), (T 51)],dG 53 48 false (a9 env .neq 27 false true (T 52) (K 0)),dV 54 (j9 (T 48) (.const (.bool true)) (T 53))]) (.cond (rX 54) (.seq (.ops [oV 2 (d8 (K 2))]) .ret) .skip))))) (.ops [mv 12 3,oV 13 (a9 env .add 3 false true (T 12) (K 1)),mv 3 13]))
abbrev aVB : RC := .seq (.ops [oV 2 (d8 (K 0))]) (.seq (.seq (.ops [mv 5 0,oV 6 (y6 (T 5)),oV 7 (a9 env .gtr 3 false true (T 6) (K 200))]) (.cond (rX 7) (.seq (.ops [oV 2 (d8 (K 2))]) .ret) .skip)) (.seq (.seq (.ops [oV 3 (d8 (K 0))]) (.block 0 (.loop aH8))) (.seq (.ops [oV 2 (d8 (K 0))]) .ret)))
theorem bEA : env.fn 28 = some ⟨55, [.tmp 2], aJ0⟩ := by kernel_rfl
theorem aUW : i5 env aJ0 = aVB := by kernel_rfl
def aJE : Code := match Tryz.f29.body with | some c => c | none => .skip
abbrev aRR : RC := .seq (.ops [mv 6 4,mv 7 0,oV 8 (y6 (T 7)),oV 9 (a9 env .lss 3 false false (T 6) (T 8))]) (.cond (rX 9) .skip (.exit 0))
abbrev aQ7 : RC := .ops [oV 5 (d8 (K 0))]
abbrev aJJ : RC := .seq (.seq (.drawn true [mw 12 5,mw 13 3,dV 14 (y6 (T 13)),dV 15 (a9 env .lss 3 false false (T 12) (T 14)),mw 16 15,dG 17 16 true (d8 (T 3)),dG 18 16 true (d8 (T 5)),dG 19 16 true (i3 1 (T 17) (T 18)),dG 20 16 true (c4 false 1 (T 19)),dG 21 16 true (d8 (T 0)),dG 22 16 true (d8 (T 4)),dG 23 16 true (i3 1 (T 21) (T 22)),dG 24 16 true (c4 false 1 (T 23)),dCG true 25 16 true (.func 53) [(T 20), (T 24)],dV 26 (j9 (T 16) (T 25) (.const (.bool false)))]) (.cond (rX 26) .skip (.exit 2))) (.block 3 (.ops [mv 27 5,oV 28 (a9 env .add 3 false true (T 27) (K 1)),mv 5 28]))
abbrev aJS : RC := .block 2 (.loop aJJ)
abbrev aIB : RC := .drawn true [mw 29 5,mw 30 3,dV 31 (y6 (T 30)),dV 32 (a9 env .eql 3 false false (T 29) (T 31)),mw 33 32,dG 34 33 false (d8 (T 3)),dG 35 33 false (d8 (T 5)),dG 36 33 false (i3 1 (T 34) (T 35)),dG 37 33 false (c4 false 1 (T 36)),dG 38 33 false (d8 (T 0)),dG 39 33 false (d8 (T 4)),dG 40 33 false (i3 1 (T 38) (T 39)),dG 41 33 false (c4 false 1 (T 40)),dG 42 33 false (a9 env .neq 9 false false (T 37) (T 41)),dV 43 (j9 (T 33) (.const (.bool true)) (T 42))]
abbrev aJH : RC := .drawn true [dU 44 (C0 1 0 [] []),mw 45 3,mw 46 5,dV 47 (aB 1 (T 45) none (some (T 46)) none),mw 49 0,mw 50 4,dV 51 (i3 1 (T 49) (T 50)),dV 52 (c4 false 1 (T 51)),dU 53 (C0 1 1 [.v (.string ⟨#[]⟩)] [(0, (T 52))]),mw 55 3,mw 56 5,dV 57 (aB 1 (T 55) (some (T 56)) none none),dQ 48 1 16 1 (T 44) (T 47),dA 54 1 16 1 (T 48) (T 53),dA 58 1 16 1 (T 54) (T 57),mw 3 58]
abbrev aL4 : RC := .cond (rX 43) aJH .skip
abbrev aG3 : RC := .seq aIB aL4
abbrev aLC : RC := .seq aJS aG3
abbrev aMZ : RC := .block 1 (.seq aQ7 aLC)
abbrev aI1 : RC := .ops [mv 10 4,oV 11 (a9 env .add 3 false true (T 10) (K 1)),mv 4 11]
abbrev aGY : RC := .seq aMZ aI1
abbrev aHZ : RC := .seq aRR aGY
abbrev aWQ : RC := .seq (.ops [oV 2 (d8 (.const (.slice none 0 0)))]) (.seq (.ops [oV 3 (d8 (.const (.slice none 0 0)))]) (.seq (.seq (.ops [oV 4 (d8 (K 0))]) (.block 0 (.loop aHZ))) (.seq (.ops [mv 59 3,mv 2 59]) .ret)))
theorem bD7 : env.fn 29 = some ⟨60, [.tmp 2], aJE⟩ := by kernel_rfl
theorem aTS : i5 env aJE = aWQ := by kernel_rfl
def aLI : Code := match Tryz.f30.body with | some c => c | none => .skip
abbrev aNB : RC := .seq (.seq (.ops [mv 7 6,mv 8 0,oV 9 (y6 (T 8)),oV 10 (a9 env .lss 3 false false (T 7) (T 9))]) (.cond (rX 10) .skip (.exit 0))) (.seq (.block 1 (.seq (.ops [mv 13 0,mv 14 6,oV 15 (i3 4 (T 13) (T 14)),oV 16 (c6 0 (T 15)),oV 17 (c4 false 1 (T 16)),mv 18 1,oV 19 (a9 env .eql 9 false false (T 17) (T 18))]) (.cond (rX 19) (.seq (.ops [mv 20 0,mv 21 6,oV 22 (i3 4 (T 20) (T 21)),oV 23 (c6 1 (T 22)),oV 24 (c4 true 3 (T 23)),oS (m7 3 (T 4) (T 24)),oV 5 (d8 (.const (.bool true)))]) .ret) .skip))) (.ops [mv 11 6,oV 12 (a9 env .add 3 false true (T 11) (K 1)),mv 6 12]))
abbrev aT1 : RC := .seq (.ops [oU 4 (Y1 [.v (.int .i64 0), .v (.int .i64 0), .lst .full 0 0 []]),oV 5 (d8 (.const (.bool false)))]) (.seq (.seq (.ops [oV 6 (d8 (K 0))]) (.block 0 (.loop aNB))) (.seq (.ops [oV 25 (dE [.v (.int .i64 0), .v (.int .i64 0), .lst .full 0 0 []] [(0, 1), (1, 1), (2, 1)] []),oS (m7 3 (T 4) (T 25)),oV 5 (d8 (.const (.bool false)))]) .ret))
theorem bDD : env.fn 30 = some ⟨26, [.cell 4 36, .tmp 5], aLI⟩ := by kernel_rfl
theorem aT7 : i5 env aLI = aT1 := by kernel_rfl
def aI3 : Code := match Tryz.f31.body with | some c => c | none => .skip
abbrev aKA : RC := .seq (.seq (.ops [mv 16 6,mv 17 0,oV 18 (y6 (T 17)),oV 19 (a9 env .lss 3 false false (T 16) (T 18))]) (.cond (rX 19) .skip (.exit 0))) (.seq (.block 1 (.seq (.ops [mv 22 0,mv 23 6,oV 24 (i3 7 (T 22) (T 23)),oV 25 (c4 true 7 (T 24)),oU 7 (Y1 [.v (.string ⟨#[]⟩), .v (.int .i64 0), .v (.int .i64 0), .lst .full 0 0 [], .v (.int .i64 0), .v (.int .i64 0), .lst .full 0 0 []]),oS (m7 7 (T 7) (T 25))]) (.seq (.ops [mv 26 1,oV 27 (c4 true 7 (T 7)),oC 28 (T 26) [(T 27)],oV 29 (V3 .not (T 28))]) (.cond (rX 29) (.seq (.ops [mv 30 0,mv 31 5,oV 32 (c4 true 7 (T 7)),oV 33 (i3 7 (T 30) (T 31)),oS (m7 7 (T 33) (T 32))]) (.ops [mv 34 5,oV 35 (a9 env .add 3 false true (T 34) (K 1)),mv 5 35])) .skip)))) (.ops [mv 20 6,oV 21 (a9 env .add 3 false true (T 20) (K 1)),mv 6 21]))
abbrev aVK : RC := .seq (.ops [oV 4 (d8 (.const (.slice none 0 0)))]) (.seq (.ops [mv 8 0,mv 9 1,oC 10 (.func 55) [(T 8), (T 9)],mv 5 10]) (.seq (.seq (.ops [mv 11 5,oV 12 (a9 env .eql 3 false true (T 11) (K (-1)))]) (.cond (rX 12) (.seq (.ops [mv 13 0,mv 4 13]) .ret) .skip)) (.seq (.seq (.ops [mv 14 5,oV 15 (a9 env .add 3 false true (T 14) (K 1)),mv 6 15]) (.block 0 (.loop aKA))) (.seq (.ops [mv 36 0,mv 37 5,oV 38 (aB 7 (T 36) (some (T 37)) none none),oS (aKO 7 [.v (.string ⟨#[]⟩), .v (.int .i64 0), .v (.int .i64 0), .lst .full 0 0 [], .v (.int .i64 0), .v (.int .i64 0), .lst .full 0 0 []] (T 38))]) (.seq (.ops [mv 39 0,mv 40 5,oV 41 (aB 7 (T 39) none (some (T 40)) none),mv 4 41]) .ret)))))
theorem aZL : env.fn 31 = some ⟨42, [.tmp 4], aI3⟩ := by kernel_rfl
theorem aJV : i5 env aI3 = aVK := by kernel_rfl
def aL3 : Code := match Tryz.f32.body with | some c => c | none => .skip
abbrev aZT : RC := .seq (.ops [oU 1 (V1 (T 0)),oV 2 (d8 (.const (.bool false)))]) (.seq (.ops [oV 3 (c6 1 (T 1)),oV 4 (c4 true 3 (T 3)),oV 5 (c6 4 (T 1)),oV 6 (c4 true 3 (T 5)),oC 7 (.func 33) [(T 4), (T 6)],mv 2 7]) .ret)
theorem bC0 : env.fn 32 = some ⟨8, [.tmp 2], aL3⟩ := by kernel_rfl
theorem aWY : i5 env aL3 = aZT := by kernel_rfl
def aLV : Code := match Tryz.f33.body with | some c => c | none => .skip
abbrev aYZ : RC := .seq (.ops [oU 2 (V1 (T 0)),oU 3 (V1 (T 1)),oV 4 (d8 (.const (.bool false)))]) (.seq (.ops [oV 5 (c4 true 3 (T 2)),oV 6 (c4 true 3 (T 3)),oC 7 (.func 56) [(T 5), (T 6)],oV 8 (a9 env .eql 3 false true (T 7) (K 0)),mv 4 8]) .ret)
theorem bDK : env.fn 33 = some ⟨9, [.tmp 4], aLV⟩ := by kernel_rfl
theorem aUU : i5 env aLV = aYZ := by kernel_rfl
def aI9 : Code := match Tryz.f34.body with | some c => c | none => .skip
abbrev aYD : RC := .seq (.ops [oU 2 (V1 (T 0)),oU 3 (V1 (T 1)),oV 4 (d8 (.const (.bool false)))]) (.seq (.ops [oV 5 (c6 0 (T 2)),oV 6 (c4 false 1 (T 5)),oV 7 (c6 0 (T 3)),oV 8 (c4 false 1 (T 7)),oV 9 (a9 env .eql 3 false false (T 6) (T 8)),mv 10 9,oG 11 10 true (c6 1 (T 2)),oG 12 10 true (c4 false 1 (T 11)),oG 13 10 true (c6 1 (T 3)),oG 14 10 true (c4 false 1 (T 13)),oG 15 10 true (a9 env .eql 3 false false (T 12) (T 14)),oV 16 (j9 (T 10) (T 15) (.const (.bool false))),mv 17 16,oG 18 17 true (c6 2 (T 2)),oG 19 17 true (c4 false 1 (T 18)),oH 20 17 true (jT (T 19)),oG 21 17 true (c6 2 (T 3)),oG 22 17 true (c4 false 1 (T 21)),oH 23 17 true (jT (T 22)),oG 24 17 true (a9 env .eql 9 false false (T 20) (T 23)),oV 25 (j9 (T 17) (T 24) (.const (.bool false))),mv 4 25]) .ret)
theorem bCY : env.fn 34 = some ⟨26, [.tmp 4], aI9⟩ := by kernel_rfl
theorem aVX : i5 env aI9 = aYD := by kernel_rfl
def aKB : Code := match Tryz.f35.body with | some c => c | none => .skip
abbrev aX7 : RC := .seq (.ops [oU 2 (V1 (T 0)),oU 3 (V1 (T 1)),oV 4 (d8 (.const (.bool false)))]) (.seq (.ops [oV 5 (c6 0 (T 2)),oV 6 (c4 false 1 (T 5)),oV 7 (c6 0 (T 3)),oV 8 (c4 false 1 (T 7)),oV 9 (a9 env .eql 3 false false (T 6) (T 8)),mv 10 9,oG 11 10 true (c6 1 (T 2)),oG 12 10 true (c4 false 1 (T 11)),oG 13 10 true (c6 1 (T 3)),oG 14 10 true (c4 false 1 (T 13)),oG 15 10 true (a9 env .eql 3 false false (T 12) (T 14)),oV 16 (j9 (T 10) (T 15) (.const (.bool false))),mv 17 16,oG 18 17 true (c6 2 (T 2)),oG 19 17 true (c4 false 1 (T 18)),oG 20 17 true (c6 2 (T 3)),oG 21 17 true (c4 false 1 (T 20)),oCG 22 17 true (.func 57) [(T 19), (T 21)],oV 23 (j9 (T 17) (T 22) (.const (.bool false))),mv 4 23]) .ret)
theorem bC9 : env.fn 35 = some ⟨24, [.tmp 4], aKB⟩ := by kernel_rfl
theorem aT5 : i5 env aKB = aX7 := by kernel_rfl
def M4 : Code := match Tryz.f36.body with | some c => c | none => .skip
abbrev aXW : RC := .ops [mv 5 8]
abbrev aXG : RC := .block 1 (.seq (.ops [oV 9 (c4 false 1 (T 3)),oV 10 (a9 env .add 3 false true (T 9) (K 1)),oS (m7 1 (T 3) (T 10))]) (.block 2 (.seq (.seq (.ops [oV 12 (c4 false 1 (T 3)),oV 13 (a9 env .gtr 3 false true (T 12) (K 6)),mv 11 13]) (.cond (rX 11) .skip (.ops [mv 14 5,oC 15 (.func 59) [(T 14)],oV 16 (V3 .not (T 15)),mv 11 16]))) (.cond (rX 11) (.seq (.ops [oS (m7 1 (T 4) (K 2))]) (.exit 0)) .skip))))
abbrev aV1 : RC := .seq (.ops [oU 3 (Y1 [.v (.int .i64 0)]),oU 4 (Y1 [.v (.int .i64 0)]),oS (m7 1 (T 3) (K 0)),oS (m7 1 (T 4) (K 0))]) (.seq .skip (.seq (.seq (.ops [mv 6 0,oC 7 (.func 58) [(T 6), (.const (.string ⟨#[47]⟩))]]) (.block 0 (.range (fun s => g7 s.tm (T 7)) [8] (Q8 [1, 0, 1, 1, 0, 1, 0, 0] M4) (Q8 [1, 0, 1, 1, 0, 1, 0, 1] M4)))) (.seq (.ops [oV 17 (c4 false 1 (T 4)),mv 2 17]) .ret)))
abbrev aWL : RC := .seq (.ops [oV 2 (d8 (K 0))]) (.scope (Q8 [1, 0] M4))
theorem bDJ : env.fn 36 = some ⟨18, [.tmp 2], M4⟩ := by kernel_rfl
theorem aV9 : i5 env M4 = aWL := by kernel_rfl
theorem aGT : i5 env (Q8 [1, 0, 1, 1, 0, 1, 0, 0] M4) = aXW := by kernel_rfl
theorem aGF : i5 env (Q8 [1, 0, 1, 1, 0, 1, 0, 1] M4) = aXG := by kernel_rfl
theorem aGB : i5 env (Q8 [1, 0] M4) = aV1 := by kernel_rfl
def aJQ : Code := match Tryz.f37.body with | some c => c | none => .skip
abbrev aUS : RC := .seq (.ops [oU 1 (V1 (T 0)),oV 2 (d8 (K 0))]) (.seq (.seq (.ops [oV 4 (c6 0 (T 1)),oV 5 (c4 false 1 (T 4)),oV 6 (a9 env .lss 3 false true (T 5) (K 1)),mv 7 6,oG 8 7 false (c6 0 (T 1)),oG 9 7 false (c4 false 1 (T 8)),oG 10 7 false (a9 env .gtr 3 false true (T 9) (K 3)),oV 11 (j9 (T 7) (.const (.bool true)) (T 10))]) (.cond (rX 11) (.seq (.ops [oV 2 (d8 (K 2))]) .ret) .skip)) (.seq (.seq (.drawn true [dV 13 (c6 0 (T 1)),dV 14 (c4 false 1 (T 13)),dU 3 (Y1 [.v (.int .i64 0), .v (.int .i64 0)]),dC false 12 (.func 60) [],dV 15 (aM9 4 true 2 (T 12) (T 14)),dS (m7 2 (T 3) (T 15))]) (.seq (.ops [oV 16 (c6 1 (T 1)),oV 17 (c4 false 1 (T 16)),oV 18 (a9 env .lss 3 false true (T 17) (K 0)),mv 19 18,oG 20 19 false (c6 1 (T 1)),oG 21 19 false (c4 false 1 (T 20)),oG 22 19 false (c6 0 (T 3)),oG 23 19 false (c4 false 1 (T 22)),oG 24 19 false (a9 env .gtr 3 false false (T 21) (T 23)),oV 25 (j9 (T 19) (.const (.bool true)) (T 24)),mv 26 25,oG 27 26 false (c6 2 (T 1)),oG 28 26 false (c4 false 1 (T 27)),oG 29 26 false (y6 (T 28)),oG 30 26 false (c6 1 (T 3)),oG 31 26 false (c4 false 1 (T 30)),oG 32 26 false (a9 env .gtr 3 false false (T 29) (T 31)),oV 33 (j9 (T 26) (.const (.bool true)) (T 32))]) (.cond (rX 33) (.seq (.ops [oV 2 (d8 (K 2))]) .ret) .skip))) (.seq (.ops [oV 2 (d8 (K 0))]) .ret)))
theorem bDG : env.fn 37 = some ⟨34, [.tmp 2], aJQ⟩ := by kernel_rfl
theorem aU0 : i5 env aJQ = aUS := by kernel_rfl
def aME : Code := match Tryz.f38.body with | some c => c | none => .skip
abbrev aTA : RC := .seq (.ops [oV 4 (d8 (K 0))]) (.seq (.ops [mv 10 1,oC 11 (.func 61) [(T 10)],mv 9 11,oV 12 (E3 (T 9) 0),oV 13 (E3 (T 9) 1),mv 5 12,mv 6 13]) (.seq (.seq (.ops [mv 14 6,oV 15 (V3 .not (T 14))]) (.cond (rX 15) (.seq (.ops [oV 4 (d8 (K 0))]) .ret) .skip)) (.seq (.ops [mv 17 0,mv 18 5,oC 19 (.func 40) [(T 17), (T 18)],mv 16 19,oV 20 (E3 (T 16) 0),oV 21 (E3 (T 16) 1),mv 7 20,mv 8 21]) (.seq (.block 0 (.seq (.ops [mv 23 8,oV 24 (V3 .not (T 23)),mv 22 24]) (.cond (rX 22) (.seq (.ops [oV 4 (d8 (K 6))]) .ret) (.seq (.ops [mv 26 0,mv 27 7,oV 28 (i3 4 (T 26) (T 27)),oV 29 (c6 1 (T 28)),oV 30 (c6 0 (T 29)),oV 31 (c4 false 1 (T 30)),oV 32 (a9 env .neq 3 false true (T 31) (K 2)),mv 25 32]) (.cond (rX 25) (.seq (.ops [oV 4 (d8 (K 12))]) .ret) .skip))))) (.seq (.ops [oV 4 (d8 (K 0))]) .ret)))))
theorem bDO : env.fn 38 = some ⟨33, [.tmp 4], aME⟩ := by kernel_rfl
theorem aSU : i5 env aME = aTA := by kernel_rfl
def aH1 : Code := match Tryz.f39.body with | some c => c | none => .skip
abbrev aX3 : RC := .seq (.ops [oV 4 (d8 (K 0))]) (.seq (.ops [mv 5 0,oC 6 (.func 63) [(T 5), (.const (.string ⟨#[47]⟩))],mv 7 1,oC 8 (.func 63) [(T 7), (.const (.string ⟨#[47]⟩))],oC 9 (.func 62) [(T 6), (T 8), (.func 64)],mv 4 9]) .ret)
theorem bDU : env.fn 39 = some ⟨10, [.tmp 4], aH1⟩ := by kernel_rfl
theorem aUE : i5 env aH1 = aX3 := by kernel_rfl
def aKC : Code := match Tryz.f40.body with | some c => c | none => .skip
abbrev bAM : RC := .seq (.ops [oU 3 (V1 (T 1)),oV 4 (d8 (K 0)),oV 5 (d8 (.const (.bool false)))]) (.seq (.ops [mv 7 0,oV 8 (rfn 67 [] [(T 3)]),oC 9 (.func 66) [(T 7), (T 8)],mv 6 9]) (.seq (.ops [mv 10 6,mv 11 6,oV 12 (a9 env .geq 3 false true (T 11) (K 0)),mv 4 10,mv 5 12]) .ret))
theorem bC3 : env.fn 40 = some ⟨13, [.tmp 4, .tmp 5], aKC⟩ := by kernel_rfl
theorem aUJ : i5 env aKC = bAM := by kernel_rfl
def aM0 : Code := match Tryz.f42.body with | some c => c | none => .skip
abbrev bAK : RC := .seq (.ops [oU 1 (V1 (T 0)),oU 2 (Y1 [.v (.string ⟨#[]⟩), .v (.int .i64 0), .v (.int .i64 0), .lst .full 0 0 []])]) (.seq (.ops [oV 3 (c6 1 (T 1)),oV 4 (c6 2 (T 3)),oV 5 (c4 false 1 (T 4)),oC 6 (.func 69) [(T 5)],oV 7 (c6 1 (T 1)),oV 8 (c6 2 (T 7)),oS (m7 1 (T 8) (T 6))]) (.seq (.ops [oV 9 (c4 true 4 (T 1)),oS (m7 4 (T 2) (T 9))]) .ret))
theorem bD1 : env.fn 42 = some ⟨10, [.cell 2 40], aM0⟩ := by kernel_rfl
theorem aTQ : i5 env aM0 = bAK := by kernel_rfl
def aLZ : Code := match Tryz.f50.body with | some c => c | none => .skip
abbrev aYR : RC := .seq (.ops [oV 2 (d8 (.const (.slice none 0 0)))]) (.seq (.ops [oU 3 (C0 1 0 [] []),mv 4 0,oA 5 1 1 1 (T 3) (T 4),mv 2 5]) .ret)
theorem bDS : env.fn 50 = some ⟨6, [.tmp 2], aLZ⟩ := by kernel_rfl
theorem aSW : i5 env aLZ = aYR := by kernel_rfl
def aJT : Code := match Tryz.f51.body with | some c => c | none => .skip
abbrev aHF : RC := .seq (.seq (.ops [mv 10 4,mv 11 3,oV 12 (y6 (T 11)),oV 13 (a9 env .lss 3 false false (T 10) (T 12))]) (.cond (rX 13) .skip (.exit 0))) (.seq (.block 1 (.seq (.ops [mv 16 3,mv 17 4,oV 18 (i3 1 (T 16) (T 17)),oV 19 (c4 false 1 (T 18)),oC 20 (.func 77) [(T 19)],oV 21 (V3 .not (T 20))]) (.cond (rX 21) (.seq (.ops [oV 2 (d8 (K 2))]) .ret) .skip))) (.ops [mv 14 4,oV 15 (a9 env .add 3 false true (T 14) (K 1)),mv 4 15]))
abbrev aTX : RC := .seq (.ops [oV 2 (d8 (K 0))]) (.seq (.ops [mv 5 0,oC 6 (.func 76) [(T 5)],mv 3 6]) (.seq (.seq (.ops [mv 7 3,oV 8 (y6 (T 7)),oV 9 (a9 env .gtr 3 false true (T 8) (K 6))]) (.cond (rX 9) (.seq (.ops [oV 2 (d8 (K 2))]) .ret) .skip)) (.seq (.seq (.ops [oV 4 (d8 (K 0))]) (.block 0 (.loop aHF))) (.seq (.ops [oV 2 (d8 (K 0))]) .ret))))
theorem bDP : env.fn 51 = some ⟨22, [.tmp 2], aJT⟩ := by kernel_rfl
theorem aU7 : i5 env aJT = aTX := by kernel_rfl
def aJP : Code := match Tryz.f52.body with | some c => c | none => .skip
abbrev aXJ : RC := .seq (.ops [oU 1 (V1 (T 0)),oV 2 (d8 (K 0))]) (.seq (.ops [oV 3 (d8 (.const (.bool false)))]) (.seq (.seq (.ops [oV 4 (c6 0 (T 1)),oV 5 (c4 false 1 (T 4))]) (.block 0 (.seq (.ops [oV 7 (a9 env .eql 3 false true (T 5) (K 1)),mv 6 7]) (.cond (rX 6) (.ops [oV 8 (c6 1 (T 1)),oV 9 (c4 false 1 (T 8)),oV 10 (a9 env .geq 3 false true (T 9) (K 0)),mv 11 10,oG 12 11 true (c6 1 (T 1)),oG 13 11 true (c4 false 1 (T 12)),oG 14 11 true (a9 env .leq 3 false true (T 13) (K 511)),oV 15 (j9 (T 11) (T 14) (.const (.bool false))),mv 16 15,oG 17 16 true (c6 2 (T 1)),oG 18 16 true (c4 false 1 (T 17)),oG 19 16 true (y6 (T 18)),oG 20 16 true (a9 env .leq 3 false true (T 19) (K 1000)),oV 21 (j9 (T 16) (T 20) (.const (.bool false))),mv 3 21]) (.seq (.ops [oV 23 (a9 env .eql 3 false true (T 5) (K 2)),mv 22 23]) (.cond (rX 22) (.ops [oV 24 (c6 1 (T 1)),oV 25 (c4 false 1 (T 24)),oV 26 (a9 env .geq 3 false true (T 25) (K 0)),mv 27 26,oG 28 27 true (c6 1 (T 1)),oG 29 27 true (c4 false 1 (T 28)),oG 30 27 true (a9 env .leq 3 false true (T 29) (K 511)),oV 31 (j9 (T 27) (T 30) (.const (.bool false))),mv 32 31,oG 33 32 true (c6 2 (T 1)),oG 34 32 true (c4 false 1 (T 33)),oG 35 32 true (y6 (T 34)),oG 36 32 true (a9 env .eql 3 false true (T 35) (K 0)),oV 37 (j9 (T 32) (T 36) (.const (.bool false))),mv 3 37]) (.seq (.ops [oV 39 (a9 env .eql 3 false true (T 5) (K 3)),mv 38 39]) (.cond (rX 38) (.ops [oV 40 (c6 1 (T 1)),oV 41 (c4 false 1 (T 40)),oV 42 (a9 env .eql 3 false true (T 41) (K 0)),mv 43 42,oG 44 43 true (c6 2 (T 1)),oG 45 43 true (c4 false 1 (T 44)),oG 46 43 true (y6 (T 45)),oG 47 43 true (a9 env .eql 3 false true (T 46) (K 0)),oV 48 (j9 (T 43) (T 47) (.const (.bool false))),mv 3 48]) .skip)))))))) (.seq (.seq (.ops [mv 49 3,oV 50 (V3 .not (T 49))]) (.cond (rX 50) (.seq (.ops [oV 2 (d8 (K 2))]) .ret) .skip)) (.seq (.ops [oV 2 (d8 (K 0))]) .ret))))
theorem bD9 : env.fn 52 = some ⟨51, [.tmp 2], aJP⟩ := by kernel_rfl
theorem aUD : i5 env aJP = aXJ := by kernel_rfl
def aMO : Code := match Tryz.f53.body with | some c => c | none => .skip
abbrev aG7 : RC := .seq (.seq (.ops [mv 12 7,mv 13 5,oV 14 (y6 (T 13)),oV 15 (a9 env .lss 3 false false (T 12) (T 14)),mv 16 15,oG 17 16 true (d8 (T 7)),oG 18 16 true (d8 (T 6)),oG 19 16 true (y6 (T 18)),oG 20 16 true (a9 env .lss 3 false false (T 17) (T 19)),oV 21 (j9 (T 16) (T 20) (.const (.bool false)))]) (.cond (rX 21) .skip (.exit 0))) (.seq (.block 1 (.seq (.drawn true [mw 24 5,mw 25 7,dV 26 (i3 1 (T 24) (T 25)),dV 27 (c4 false 1 (T 26)),mw 28 6,mw 29 7,dV 30 (i3 1 (T 28) (T 29)),dV 31 (c4 false 1 (T 30)),dV 32 (a9 env .neq 9 false false (T 27) (T 31))]) (.cond (rX 32) (.seq (.drawn true [mw 33 5,mw 34 7,dV 35 (i3 1 (T 33) (T 34)),dV 36 (c4 false 1 (T 35)),mw 37 6,mw 38 7,dV 39 (i3 1 (T 37) (T 38)),dV 40 (c4 false 1 (T 39)),dV 41 (a9 env .lss 9 false false (T 36) (T 40)),mw 4 41]) .ret) .skip))) (.ops [mv 22 7,oV 23 (a9 env .add 3 false true (T 22) (K 1)),mv 7 23]))
abbrev aUF : RC := .seq (.ops [oV 4 (d8 (.const (.bool false)))]) (.seq (.ops [mv 8 0,oC 9 (.func 76) [(T 8)],mv 10 1,oC 11 (.func 76) [(T 10)],mv 5 9,mv 6 11]) (.seq (.seq (.ops [oV 7 (d8 (K 0))]) (.block 0 (.loop aG7))) (.seq (.ops [mv 42 5,oV 43 (y6 (T 42)),mv 44 6,oV 45 (y6 (T 44)),oV 46 (a9 env .lss 3 false false (T 43) (T 45)),mv 4 46]) .ret)))
theorem bEJ : env.fn 53 = some ⟨47, [.tmp 4], aMO⟩ := by kernel_rfl
theorem aW6 : i5 env aMO = aUF := by kernel_rfl
def aLO : Code := match Tryz.f54.body with | some c => c | none => .skip
abbrev aVO : RC := .seq (.ops [oV 4 (d8 (K 0))]) (.seq (.ops [mv 10 1,oC 11 (.func 78) [(T 10)],mv 9 11,oV 12 (E3 (T 9) 0),oV 13 (E3 (T 9) 1),mv 5 12,mv 6 13]) (.seq (.seq (.ops [mv 14 6,oV 15 (V3 .not (T 14))]) (.cond (rX 15) (.seq (.ops [oV 4 (d8 (K 0))]) .ret) .skip)) (.seq (.ops [mv 17 0,mv 18 5,oC 19 (.func 30) [(T 17), (T 18)],mv 16 19,oV 20 (E3 (T 16) 0),oV 21 (E3 (T 16) 1),oU 7 (Y1 [.v (.int .i64 0), .v (.int .i64 0), .lst .full 0 0 []]),oS (m7 3 (T 7) (T 20)),mv 8 21]) (.seq (.seq (.ops [mv 22 8,oV 23 (V3 .not (T 22))]) (.cond (rX 23) (.seq (.ops [oV 4 (d8 (K 6))]) .ret) .skip)) (.seq (.seq (.ops [oV 24 (c6 0 (T 7)),oV 25 (c4 false 1 (T 24)),oV 26 (a9 env .neq 3 false true (T 25) (K 2))]) (.cond (rX 26) (.seq (.ops [oV 4 (d8 (K 12))]) .ret) .skip)) (.seq (.ops [oV 4 (d8 (K 0))]) .ret))))))
theorem bC4 : env.fn 54 = some ⟨27, [.tmp 4], aLO⟩ := by kernel_rfl
theorem aWG : i5 env aLO = aVO := by kernel_rfl
def aIN : Code := match Tryz.f55.body with | some c => c | none => .skip
abbrev aK4 : RC := .seq (.ops [oV 9 (a9 env .lss 3 false false (T 8) (T 7))]) (.seq (.cond (rX 9) .skip (.exit 0)) (.seq (.block 1 (.seq (.ops [mv 10 8,mv 5 10]) (.seq (.ops [mv 11 1,mv 12 0,mv 13 5,oV 14 (i3 7 (T 12) (T 13)),oV 15 (c4 true 7 (T 14)),oC 16 (T 11) [(T 15)]]) (.cond (rX 16) (.seq (.ops [mv 17 5,mv 4 17]) .ret) .skip)))) (.ops [oV 18 (a9 env .add 3 false true (T 8) (K 1)),mv 8 18])))
abbrev aWK : RC := .seq (.ops [oV 4 (d8 (K 0))]) (.seq (.seq (.ops [mv 6 0,oV 7 (y6 (T 6)),oV 8 (d8 (K 0))]) (.block 0 (.loop aK4))) (.seq (.ops [oV 4 (d8 (K (-1)))]) .ret))
theorem bDB : env.fn 55 = some ⟨19, [.tmp 4], aIN⟩ := by kernel_rfl
theorem aWN : i5 env aIN = aWK := by kernel_rfl
def aIG : Code := match Tryz.f56.body with | some c => c | none => .skip
abbrev bBI : RC := .seq (.ops [oU 2 (V1 (T 0)),oU 3 (V1 (T 1)),oV 4 (d8 (K 0))]) (.seq (.drawn true [dV 6 (c6 0 (T 2)),dV 7 (c4 false 1 (T 6)),dV 8 (c6 0 (T 3)),dV 9 (c4 false 1 (T 8)),dV 11 (c6 1 (T 2)),dV 12 (c4 false 1 (T 11)),dV 13 (c6 1 (T 3)),dV 14 (c4 false 1 (T 13)),dV 16 (c6 2 (T 2)),dV 17 (c4 false 1 (T 16)),dV 18 (c6 2 (T 3)),dV 19 (c4 false 1 (T 18)),dU 5 (Y1 [.v (.int .i64 0), .v (.int .i64 0), .v (.int .i64 0)]),dC false 10 (.func 79) [(T 7), (T 9)],dC false 15 (.func 79) [(T 12), (T 14)],dC false 20 (.func 80) [(T 17), (T 19)],dV 21 (mO 1 [.v (.int .i64 0), .v (.int .i64 0), .v (.int .i64 0)] [(0, (T 10)), (1, (T 15)), (2, (T 20))]),dS (m7 3 (T 5) (T 21))]) (.seq (.ops [oV 22 (aEB 3 (T 5)),oC 23 (.func 81) [(T 22)],mv 4 23]) .ret))
theorem bC6 : env.fn 56 = some ⟨24, [.tmp 4], aIG⟩ := by kernel_rfl
theorem aS9 : i5 env aIG = bBI := by kernel_rfl
def aLG : Code := match Tryz.f57.body with | some c => c | none => .skip
abbrev bB0 : RC := .seq (.ops [oV 4 (d8 (.const (.bool false)))]) (.seq (.ops [mv 5 0,oU 6 (jT (T 5)),mv 7 1,oU 8 (jT (T 7)),oV 9 (a9 env .eql 9 false false (T 6) (T 8)),mv 4 9]) .ret)
theorem bD8 : env.fn 57 = some ⟨10, [.tmp 4], aLG⟩ := by kernel_rfl
theorem aW5 : i5 env aLG = bB0 := by kernel_rfl
def aJN : Code := match Tryz.f58.body with | some c => c | none => .skip
abbrev aZ0 : RC := .seq (.ops [oV 4 (d8 (.const (.nilFunc)))]) (.seq (.ops [mv 5 0,mv 6 1,oC 7 (.func 82) [(T 5), (T 6), (K 0)],mv 4 7]) .ret)
theorem bDN : env.fn 58 = some ⟨8, [.tmp 4], aJN⟩ := by kernel_rfl
theorem aUZ : i5 env aJN = aZ0 := by kernel_rfl
def aMH : Code := match Tryz.f59.body with | some c => c | none => .skip
abbrev aY8 : RC := .seq (.ops [oV 2 (d8 (.const (.bool false)))]) (.seq (.ops [mv 3 0,oV 4 (a9 env .neq 9 false true (T 3) (.const (.string ⟨#[]⟩))),mv 5 4,oG 6 5 true (d8 (T 0)),oG 7 5 true (E2 (T 6)),oG 8 5 true (a9 env .leq 3 false true (T 7) (K 12)),oV 9 (j9 (T 5) (T 8) (.const (.bool false))),mv 10 9,oG 11 10 true (d8 (T 0)),oG 12 10 true (a9 env .neq 9 false true (T 11) (.const (.string ⟨#[46]⟩))),oV 13 (j9 (T 10) (T 12) (.const (.bool false))),mv 14 13,oG 15 14 true (d8 (T 0)),oG 16 14 true (a9 env .neq 9 false true (T 15) (.const (.string ⟨#[46, 46]⟩))),oV 17 (j9 (T 14) (T 16) (.const (.bool false))),mv 18 17,oG 19 18 true (d8 (T 0)),oCG 20 18 true (.func 83) [(T 19), (.const (.string ⟨#[97, 98, 99, 100, 101, 102, 103, 104, 105, 106, 107, 108, 109, 110, 111, 112, 113, 114, 115, 116, 117, 118, 119, 120, 121, 122, 48, 49, 50, 51, 52, 53, 54, 55, 56, 57, 46, 95, 45]⟩))],oG 21 18 true (a9 env .eql 9 false true (T 20) (.const (.string ⟨#[]⟩))),oV 22 (j9 (T 18) (T 21) (.const (.bool false))),mv 23 22,oG 24 23 true (d8 (T 0)),oCG 25 23 true (.func 84) [(T 24), (.func 85)],oG 26 23 true (V3 .not (T 25)),oV 27 (j9 (T 23) (T 26) (.const (.bool false))),mv 2 27]) .ret)
theorem bDY : env.fn 59 = some ⟨28, [.tmp 2], aMH⟩ := by kernel_rfl
theorem aUN : i5 env aMH = aY8 := by kernel_rfl
def aHI : Code := match Tryz.f60.body with | some c => c | none => .skip
abbrev bCC : RC := .seq (.ops [oU 0 (Y1 [.v (.int .i64 0), .v (.int .i64 0), .v (.int .i64 0), .v (.int .i64 0), .v (.int .i64 0), .v (.int .i64 0), .v (.int .i64 0), .v (.int .i64 0)])]) (.seq (.ops [oV 1 (dE [.v (.int .i64 0), .v (.int .i64 0)] [(0, 1), (1, 1)] [(0, (K 511)), (1, (K 1000))]),oV 2 (dE [.v (.int .i64 0), .v (.int .i64 0)] [(0, 1), (1, 1)] [(0, (K 511))]),oV 3 (dE [.v (.int .i64 0), .v (.int .i64 0)] [(0, 1), (1, 1)] []),oV 4 (mO 2 [.v (.int .i64 0), .v (.int .i64 0), .v (.int .i64 0), .v (.int .i64 0), .v (.int .i64 0), .v (.int .i64 0), .v (.int .i64 0), .v (.int .i64 0)] [(1, (T 1)), (2, (T 2)), (3, (T 3))]),oS (m7 8 (T 0) (T 4))]) .ret)
theorem bDV : env.fn 60 = some ⟨5, [.cell 0 85], aHI⟩ := by kernel_rfl
theorem aS4 : i5 env aHI = bCC := by kernel_rfl
def aG8 : Code := match Tryz.f61.body with | some c => c | none => .skip
abbrev aZR : RC := .seq (.ops [oV 2 (d8 (.const (.string ⟨#[]⟩))),oV 3 (d8 (.const (.bool false)))]) (.seq (.ops [mv 7 0,oC 8 (.func 87) [(T 7)],mv 6 8,oV 9 (E3 (T 6) 0),oV 10 (E3 (T 6) 1),mv 4 9,mv 5 10]) (.seq (.ops [mv 11 4,mv 12 4,oV 13 (a9 env .neq 9 false true (T 12) (.const (.string ⟨#[]⟩))),mv 2 11,mv 3 13]) .ret))
theorem bCX : env.fn 61 = some ⟨14, [.tmp 2, .tmp 3], aG8⟩ := by kernel_rfl
theorem aWP : i5 env aG8 = aZR := by kernel_rfl
def aIJ : Code := match Tryz.f62.body with | some c => c | none => .skip
abbrev aIF : RC := .seq (.ops [oV 14 (a9 env .lss 3 false false (T 13) (T 12))]) (.seq (.cond (rX 14) .skip (.exit 0)) (.seq (.block 1 (.seq (.ops [mv 15 13,oV 16 (i3 1 (T 11) (T 13)),oV 17 (c4 false 1 (T 16)),mv 7 15,mv 8 17]) (.seq (.seq (.ops [mv 18 7,mv 19 1,oV 20 (y6 (T 19)),oV 21 (a9 env .geq 3 false false (T 18) (T 20))]) (.cond (rX 21) (.seq (.ops [oV 6 (d8 (K 1))]) .ret) .skip)) (.seq (.ops [mv 22 1,mv 23 7,oV 24 (i3 1 (T 22) (T 23)),oV 25 (c4 false 1 (T 24)),mv 9 25]) (.seq (.ops [mv 26 2,mv 27 8,mv 28 9,oC 29 (T 26) [(T 27), (T 28)],mv 10 29]) (.seq (.ops [mv 30 10,oV 31 (a9 env .neq 3 false true (T 30) (K 0))]) (.cond (rX 31) (.seq (.ops [mv 32 10,mv 6 32]) .ret) .skip))))))) (.ops [oV 33 (a9 env .add 3 false true (T 13) (K 1)),mv 13 33])))
abbrev aS1 : RC := .seq (.ops [oV 6 (d8 (K 0))]) (.seq (.seq (.ops [mv 11 0,oV 12 (y6 (T 11)),oV 13 (d8 (K 0))]) (.block 0 (.loop aIF))) (.seq (.seq (.ops [mv 34 0,oV 35 (y6 (T 34)),mv 36 1,oV 37 (y6 (T 36)),oV 38 (a9 env .lss 3 false false (T 35) (T 37))]) (.cond (rX 38) (.seq (.ops [oV 6 (d8 (K (-1)))]) .ret) .skip)) (.seq (.ops [oV 6 (d8 (K 0))]) .ret)))
theorem bCL : env.fn 62 = some ⟨39, [.tmp 6], aIJ⟩ := by kernel_rfl
theorem aUV : i5 env aIJ = aS1 := by kernel_rfl
def aMD : Code := match Tryz.f63.body with | some c => c | none => .skip
abbrev bBN : RC := .seq (.ops [oV 4 (d8 (.const (.slice none 0 0)))]) (.seq (.ops [mv 5 0,mv 6 1,oC 7 (.func 88) [(T 5), (T 6), (K 0), (K (-1))],mv 4 7]) .ret)
theorem bCO : env.fn 63 = some ⟨8, [.tmp 4], aMD⟩ := by kernel_rfl
theorem aVV : i5 env aMD = bBN := by kernel_rfl
def aG0 : Code := match Tryz.f64.body with | some c => c | none => .skip
abbrev aZZ : RC := .seq (.ops [oV 4 (d8 (K 0))]) (.seq (.ops [mv 5 0,mv 6 1,oC 7 (.func 65) [(T 5), (T 6)],mv 4 7]) .ret)
theorem bCV : env.fn 64 = some ⟨8, [.tmp 4], aG0⟩ := by kernel_rfl
theorem aTC : i5 env aG0 = aZZ := by kernel_rfl
def aL1 : Code := match Tryz.f65.body with | some c => c | none => .skip
abbrev aUT : RC := .seq (.ops [oV 4 (d8 (K 0))]) (.seq (.ops [mv 7 0,oC 8 (.func 89) [(T 7)],mv 5 8]) (.seq (.ops [mv 9 1,oC 10 (.func 89) [(T 9)],mv 6 10]) (.seq (.seq (.ops [mv 11 5]) (.cond (rX 11) (.seq (.seq (.ops [mv 12 6]) (.cond (rX 12) (.seq (.ops [oV 4 (d8 (K 0))]) .ret) .skip)) (.seq (.ops [oV 4 (d8 (K (-1)))]) .ret)) .skip)) (.seq (.seq (.ops [mv 13 6]) (.cond (rX 13) (.seq (.ops [oV 4 (d8 (K 1))]) .ret) .skip)) (.seq (.seq (.ops [mv 14 0,mv 15 1,oV 16 (a9 env .lss 9 false false (T 14) (T 15))]) (.cond (rX 16) (.seq (.ops [oV 4 (d8 (K (-1)))]) .ret) .skip)) (.seq (.seq (.ops [mv 17 0,mv 18 1,oV 19 (a9 env .gtr 9 false false (T 17) (T 18))]) (.cond (rX 19) (.seq (.ops [oV 4 (d8 (K 1))]) .ret) .skip)) (.seq (.ops [oV 4 (d8 (K 0))]) .ret)))))))
theorem bD5 : env.fn 65 = some ⟨20, [.tmp 4], aL1⟩ := by kernel_rfl
theorem aVS : i5 env aL1 = aUT := by kernel_rfl
def aJG : Code := match Tryz.f66.body with | some c => c | none => .skip
abbrev aJX : RC := .seq (.ops [oV 9 (a9 env .lss 3 false false (T 8) (T 7))]) (.seq (.cond (rX 9) .skip (.exit 0)) (.seq (.block 1 (.seq (.ops [mv 10 8,mv 5 10]) (.seq (.ops [mv 11 1,mv 12 0,mv 13 5,oV 14 (i3 4 (T 12) (T 13)),oV 15 (c4 true 4 (T 14)),oC 16 (T 11) [(T 15)]]) (.cond (rX 16) (.seq (.ops [mv 17 5,mv 4 17]) .ret) .skip)))) (.ops [oV 18 (a9 env .add 3 false true (T 8) (K 1)),mv 8 18])))
abbrev aVM : RC := .seq (.ops [oV 4 (d8 (K 0))]) (.seq (.seq (.ops [mv 6 0,oV 7 (y6 (T 6)),oV 8 (d8 (K 0))]) (.block 0 (.loop aJX))) (.seq (.ops [oV 4 (d8 (K (-1)))]) .ret))
theorem bEE : env.fn 66 = some ⟨19, [.tmp 4], aJG⟩ := by kernel_rfl
theorem aWM : i5 env aJG = aVM := by kernel_rfl
def aJW : Code := match Tryz.f67.body with | some c => c | none => .skip
abbrev aYH : RC := .seq (.ops [oU 2 (V1 (T 0)),oV 3 (d8 (.const (.bool false)))]) (.seq (.ops [oV 4 (c6 0 (T 2)),oV 5 (c4 false 1 (T 4)),oV 6 (c4 false 1 (T 1)),oV 7 (a9 env .eql 9 false false (T 5) (T 6)),mv 3 7]) .ret)
theorem bDM : env.fn 67 = some ⟨8, [.tmp 3], aJW⟩ := by kernel_rfl
theorem aU9 : i5 env aJW = aYH := by kernel_rfl
def aH3 : Code := match Tryz.f69.body with | some c => c | none => .skip
abbrev aZM : RC := .seq (.ops [oV 2 (d8 (.const (.slice none 0 0)))]) (.seq (.seq (.ops [mv 3 0,oL 4 false (T 3)]) (.cond (rX 4) (.seq (.ops [oV 2 (d8 (.const (.slice none 0 0)))]) .ret) .skip)) (.seq (.ops [oU 5 (C0 1 0 [] []),mv 6 0,oA 7 1 1 1 (T 5) (T 6),mv 2 7]) .ret))
theorem bDC : env.fn 69 = some ⟨8, [.tmp 2], aH3⟩ := by kernel_rfl
theorem aW1 : i5 env aH3 = aZM := by kernel_rfl
def aHP : Code := match Tryz.f76.body with | some c => c | none => .skip
abbrev aGX : RC := .seq (.seq (.ops [mv 6 5,mv 7 0,oV 8 (E2 (T 7)),oV 9 (a9 env .lss 3 false false (T 6) (T 8))]) (.cond (rX 9) .skip (.exit 0))) (.seq (.block 1 (.seq (.ops [mv 12 0,mv 13 5,oV 14 (Q6 (T 12) (T 13)),oV 15 (a9 env .eql 5 false true (T 14) (.const (.int .u8 47)))]) (.cond (rX 15) (.seq (.ops [mv 16 3,mv 17 0,mv 18 4,mv 19 5,oV 20 (B1 (T 17) (some (T 18)) (some (T 19))),oU 21 (C0 1 1 [.v (.string ⟨#[]⟩)] [(0, (T 20))]),oA 22 1 16 1 (T 16) (T 21),mv 3 22]) (.ops [mv 23 5,oV 24 (a9 env .add 3 false true (T 23) (K 1)),mv 4 24])) .skip))) (.ops [mv 10 5,oV 11 (a9 env .add 3 false true (T 10) (K 1)),mv 5 11]))
abbrev aWV : RC := .seq (.ops [oV 2 (d8 (.const (.slice none 0 0)))]) (.seq (.ops [oV 3 (d8 (.const (.slice none 0 0)))]) (.seq (.ops [oV 4 (d8 (K 0))]) (.seq (.seq (.ops [oV 5 (d8 (K 0))]) (.block 0 (.loop aGX))) (.seq (.ops [mv 25 3,mv 26 0,mv 27 4,oV 28 (B1 (T 26) (some (T 27)) none),oU 29 (C0 1 1 [.v (.string ⟨#[]⟩)] [(0, (T 28))]),oA 30 1 16 1 (T 25) (T 29),mv 2 30]) .ret))))
theorem bCM : env.fn 76 = some ⟨31, [.tmp 2], aHP⟩ := by kernel_rfl
theorem aWW : i5 env aHP = aWV := by kernel_rfl
def aI8 : Code := match Tryz.f77.body with | some c => c | none => .skip
abbrev aK8 : RC := .seq (.seq (.ops [mv 5 3,mv 6 0,oV 7 (E2 (T 6)),oV 8 (a9 env .lss 3 false false (T 5) (T 7))]) (.cond (rX 8) .skip (.exit 0))) (.seq (.block 1 (.seq (.ops [mv 11 0,mv 12 3,oV 13 (Q6 (T 11) (T 12)),mv 4 13]) (.seq (.ops [mv 14 4,oV 15 (a9 env .lss 5 false true (T 14) (.const (.int .u8 97))),mv 16 15,oG 17 16 false (d8 (T 4)),oG 18 16 false (a9 env .gtr 5 false true (T 17) (.const (.int .u8 122))),oV 19 (j9 (T 16) (.const (.bool true)) (T 18)),mv 20 19,oG 21 20 true (d8 (T 4)),oG 22 20 true (a9 env .lss 5 false true (T 21) (.const (.int .u8 48))),oG 23 20 true (d8 (T 22)),oG 24 23 false (d8 (T 4)),oG 25 23 false (a9 env .gtr 5 false true (T 24) (.const (.int .u8 57))),oG 26 20 true (j9 (T 23) (.const (.bool true)) (T 25)),oV 27 (j9 (T 20) (T 26) (.const (.bool false))),mv 28 27,oG 29 28 true (d8 (T 4)),oG 30 28 true (a9 env .neq 5 false true (T 29) (.const (.int .u8 46))),oV 31 (j9 (T 28) (T 30) (.const (.bool false))),mv 32 31,oG 33 32 true (d8 (T 4)),oG 34 32 true (a9 env .neq 5 false true (T 33) (.const (.int .u8 95))),oV 35 (j9 (T 32) (T 34) (.const (.bool false))),mv 36 35,oG 37 36 true (d8 (T 4)),oG 38 36 true (a9 env .neq 5 false true (T 37) (.const (.int .u8 45))),oV 39 (j9 (T 36) (T 38) (.const (.bool false)))]) (.cond (rX 39) (.seq (.ops [oV 2 (d8 (.const (.bool false)))]) .ret) .skip)))) (.ops [mv 9 3,oV 10 (a9 env .add 3 false true (T 9) (K 1)),mv 3 10]))
abbrev aV5 : RC := .seq (.ops [oV 2 (d8 (.const (.bool false)))]) (.seq (.seq (.ops [oV 3 (d8 (K 0))]) (.block 0 (.loop aK8))) (.seq (.ops [mv 40 0,oV 41 (E2 (T 40)),oV 42 (a9 env .geq 3 false true (T 41) (K 1)),mv 43 42,oG 44 43 true (d8 (T 0)),oG 45 43 true (E2 (T 44)),oG 46 43 true (a9 env .leq 3 false true (T 45) (K 12)),oV 47 (j9 (T 43) (T 46) (.const (.bool false))),mv 48 47,oG 49 48 true (d8 (T 0)),oG 50 48 true (a9 env .neq 9 false true (T 49) (.const (.string ⟨#[46]⟩))),oV 51 (j9 (T 48) (T 50) (.const (.bool false))),mv 52 51,oG 53 52 true (d8 (T 0)),oG 54 52 true (a9 env .neq 9 false true (T 53) (.const (.string ⟨#[46, 46]⟩))),oV 55 (j9 (T 52) (T 54) (.const (.bool false))),mv 2 55]) .ret))
theorem bDE : env.fn 77 = some ⟨56, [.tmp 2], aI8⟩ := by kernel_rfl
theorem aWA : i5 env aI8 = aV5 := by kernel_rfl
def aMN : Code := match Tryz.f78.body with | some c => c | none => .skip
abbrev aW2 : RC := .seq (.ops [oV 2 (d8 (.const (.string ⟨#[]⟩))),oV 3 (d8 (.const (.bool false)))]) (.seq (.ops [mv 7 0,oC 8 (.func 103) [(T 7)],mv 6 8,oV 9 (E3 (T 6) 0),oV 10 (E3 (T 6) 1),mv 4 9,mv 5 10]) (.seq (.seq (.ops [mv 11 5,oV 12 (a9 env .neq 27 false true (T 11) (K 0)),mv 13 12,oG 14 13 false (d8 (T 4)),oG 15 13 false (y6 (T 14)),oG 16 13 false (a9 env .lss 3 false true (T 15) (K 2)),oV 17 (j9 (T 13) (.const (.bool true)) (T 16))]) (.cond (rX 17) (.seq (.ops [oV 2 (d8 (.const (.string ⟨#[]⟩))),oV 3 (d8 (.const (.bool false)))]) .ret) .skip)) (.seq (.ops [mv 18 4,mv 19 4,oV 20 (y6 (T 19)),oV 21 (a9 env .sub 3 false true (T 20) (K 1)),oV 22 (aB 1 (T 18) none (some (T 21)) none),oC 23 (.func 104) [(T 22)],mv 2 23,oV 3 (d8 (.const (.bool true)))]) .ret)))
theorem bDR : env.fn 78 = some ⟨24, [.tmp 2, .tmp 3], aMN⟩ := by kernel_rfl
theorem aTM : i5 env aMN = aW2 := by kernel_rfl
def aIV : Code := match Tryz.f79.body with | some c => c | none => .skip
abbrev aVA : RC := .seq (.ops [oV 4 (d8 (K 0))]) (.seq (.ops [mv 7 0,oC 8 (.func 105) [(T 7)],mv 5 8]) (.seq (.ops [mv 9 1,oC 10 (.func 105) [(T 9)],mv 6 10]) (.seq (.seq (.ops [mv 11 5]) (.cond (rX 11) (.seq (.seq (.ops [mv 12 6]) (.cond (rX 12) (.seq (.ops [oV 4 (d8 (K 0))]) .ret) .skip)) (.seq (.ops [oV 4 (d8 (K (-1)))]) .ret)) .skip)) (.seq (.seq (.ops [mv 13 6]) (.cond (rX 13) (.seq (.ops [oV 4 (d8 (K 1))]) .ret) .skip)) (.seq (.seq (.ops [mv 14 0,mv 15 1,oV 16 (a9 env .lss 3 false false (T 14) (T 15))]) (.cond (rX 16) (.seq (.ops [oV 4 (d8 (K (-1)))]) .ret) .skip)) (.seq (.seq (.ops [mv 17 0,mv 18 1,oV 19 (a9 env .gtr 3 false false (T 17) (T 18))]) (.cond (rX 19) (.seq (.ops [oV 4 (d8 (K 1))]) .ret) .skip)) (.seq (.ops [oV 4 (d8 (K 0))]) .ret)))))))
theorem bDH : env.fn 79 = some ⟨20, [.tmp 4], aIV⟩ := by kernel_rfl
theorem aW8 : i5 env aIV = aVA := by kernel_rfl
def aLW : Code := match Tryz.f80.body with | some c => c | none => .skip
abbrev bB3 : RC := .seq (.ops [oV 4 (d8 (K 0))]) (.seq (.ops [mv 5 0,mv 6 1,oC 7 (.func 106) [(T 5), (T 6)],mv 4 7]) .ret)
theorem bDZ : env.fn 80 = some ⟨8, [.tmp 4], aLW⟩ := by kernel_rfl
theorem aWZ : i5 env aLW = bB3 := by kernel_rfl
def aG2 : Code := match Tryz.f81.body with | some c => c | none => .skip
abbrev aIH : RC := .seq (.ops [oV 9 (a9 env .lss 3 false false (T 8) (T 7))]) (.seq (.cond (rX 9) .skip (.exit 0)) (.seq (.block 1 (.seq (.ops [oV 10 (i3 1 (T 6) (T 8)),oV 11 (c4 false 1 (T 10)),mv 5 11]) (.seq (.ops [mv 12 5,mv 13 3,oV 14 (a9 env .neq 3 false false (T 12) (T 13))]) (.cond (rX 14) (.seq (.ops [mv 15 5,mv 2 15]) .ret) .skip)))) (.ops [oV 16 (a9 env .add 3 false true (T 8) (K 1)),mv 8 16])))
abbrev aS7 : RC := .seq (.ops [oV 2 (d8 (K 0))]) (.seq (.ops [oV 3 (d8 (K 0))]) (.seq (.seq (.ops [mv 6 0,oV 7 (y6 (T 6)),oV 8 (d8 (K 0))]) (.block 0 (.loop aIH))) (.seq (.ops [mv 17 3,mv 2 17]) .ret)))
theorem bCU : env.fn 81 = some ⟨18, [.tmp 2], aG2⟩ := by kernel_rfl
theorem aXK : i5 env aG2 = aS7 := by kernel_rfl
def aJA : Code := match Tryz.f82.body with | some c => c | none => .skip
abbrev aX0 : RC := .seq (.ops [oU 3 (V1 (T 0)),oU 4 (V1 (T 1)),oU 5 (V1 (T 2)),oV 6 (d8 (.const (.nilFunc)))]) (.seq (.ops [oV 7 (rfn 107 [] [(T 4), (T 3), (T 5)]),mv 6 7]) .ret)
theorem bD0 : env.fn 82 = some ⟨8, [.tmp 6], aJA⟩ := by kernel_rfl
theorem aVP : i5 env aJA = aX0 := by kernel_rfl
def aIE : Code := match Tryz.f83.body with | some c => c | none => .skip
abbrev aTE : RC := .seq (.ops [oV 4 (d8 (.const (.string ⟨#[]⟩)))]) (.seq (.seq (.ops [mv 7 0,oV 8 (a9 env .eql 9 false true (T 7) (.const (.string ⟨#[]⟩))),mv 9 8,oG 10 9 false (d8 (T 1)),oG 11 9 false (a9 env .eql 9 false true (T 10) (.const (.string ⟨#[]⟩))),oV 12 (j9 (T 9) (.const (.bool true)) (T 11))]) (.cond (rX 12) (.seq (.ops [mv 13 0,mv 4 13]) .ret) .skip)) (.seq (.seq (.ops [mv 14 1,oV 15 (E2 (T 14)),oV 16 (a9 env .eql 3 false true (T 15) (K 1)),mv 17 16,oG 18 17 true (d8 (T 1)),oG 19 17 true (Q6 (T 18) (K 0)),oG 20 17 true (a9 env .lss 5 false true (T 19) (.const (.int .u8 128))),oV 21 (j9 (T 17) (T 20) (.const (.bool false)))]) (.cond (rX 21) (.seq (.drawn true [mw 22 0,mw 23 1,dV 24 (Q6 (T 23) (K 0)),mw 26 1,dV 27 (Q6 (T 26) (K 0)),dC true 25 (.func 111) [(T 22), (T 24)],dC true 28 (.func 110) [(T 25), (T 27)],mw 4 28]) .ret) .skip)) (.seq (.seq (.ops [mv 30 1,oC 31 (.func 112) [(T 30)],mv 29 31,oV 32 (E3 (T 29) 0),oV 33 (E3 (T 29) 1),oU 5 (Y1 [.v (.bool false), .v (.bool false), .v (.bool false), .v (.bool false), .v (.bool false), .v (.bool false), .v (.bool false), .v (.bool false), .v (.bool false), .v (.bool false), .v (.bool false), .v (.bool false), .v (.bool false), .v (.bool false), .v (.bool false), .v (.bool false), .v (.bool false), .v (.bool false), .v (.bool false), .v (.bool false), .v (.bool false), .v (.bool false), .v (.bool false), .v (.bool false), .v (.bool false), .v (.bool false), .v (.bool false), .v (.bool false), .v (.bool false), .v (.bool false), .v (.bool false), .v (.bool false), .v (.bool false), .v (.bool false), .v (.bool false), .v (.bool false), .v (.bool false), .v (.bool false), .v (.bool false), .v (.bool false), .v (.bool false), .v (.bool false), .v (.bool false), .v (.bool false), .v (.bool false), .v (.bool false), .v (.bool false), .v (.bool false), .v (.bool false), .v (.bool false), .v (.bool false), .v (.bool false), .v (.bool false), .v (.bool false), .v (.bool false), .v (.bool false), .v (.bool false), .v (.bool false), .v (.bool false), .v (.bool false), .v (.bool false), .v (.bool false), .v (.bool false), .v (.bool false), .v (.bool false), .v (.bool false), .v (.bool false), .v (.bool false), .v (.bool false), .v (.bool false), .v (.bool false), .v (.bool false), .v (.bool false), .v (.bool false), .v (.bool false), .v (.bool false), .v (.bool false), .v (.bool false), .v (.bool false), .v (.bool false), .v (.bool false), .v (.bool false), .v (.bool false), .v (.bool false), .v (.bool false), .v (.bool false), .v (.bool false), .v (.bool false), .v (.bool false), .v (.bool false), .v (.bool false), .v (.bool false), .v (.bool false), .v (.bool false), .v (.bool false), .v (.bool false), .v (.bool false), .v (.bool false), .v (.bool false), .v (.bool false), .v (.bool false), .v (.bool false), .v (.bool false), .v (.bool false), .v (.bool false), .v (.bool false), .v (.bool false), .v (.bool false), .v (.bool false), .v (.bool false), .v (.bool false), .v (.bool false), .v (.bool false), .v (.bool false), .v (.bool false), .v (.bool false), .v (.bool false), .v (.bool false), .v (.bool false), .v (.bool false), .v (.bool false), .v (.bool false), .v (.bool false), .v (.bool false), .v (.bool false), .v (.bool false), .v (.bool false), .v (.bool false), .v (.bool false), .v (.bool false), .v (.bool false), .v (.bool false), .v (.bool false), .v (.bool false), .v (.bool false), .v (.bool false), .v (.bool false), .v (.bool false), .v (.bool false), .v (.bool false), .v (.bool false), .v (.bool false), .v (.bool false), .v (.bool false), .v (.bool false), .v (.bool false), .v (.bool false), .v (.bool false), .v (.bool false), .v (.bool false), .v (.bool false), .v (.bool false), .v (.bool false), .v (.bool false), .v (.bool false), .v (.bool false), .v (.bool false), .v (.bool false), .v (.bool false), .v (.bool false), .v (.bool false), .v (.bool false), .v (.bool false), .v (.bool false), .v (.bool false), .v (.bool false), .v (.bool false), .v (.bool false), .v (.bool false), .v (.bool false), .v (.bool false), .v (.bool false), .v (.bool false), .v (.bool false), .v (.bool false), .v (.bool false), .v (.bool false), .v (.bool false), .v (.bool false), .v (.bool false), .v (.bool false), .v (.bool false), .v (.bool false), .v (.bool false), .v (.bool false), .v (.bool false), .v (.bool false), .v (.bool false), .v (.bool false), .v (.bool false), .v (.bool false), .v (.bool false), .v (.bool false), .v (.bool false), .v (.bool false), .v (.bool false), .v (.bool false), .v (.bool false), .v (.bool false), .v (.bool false), .v (.bool false), .v (.bool false), .v (.bool false), .v (.bool false), .v (.bool false), .v (.bool false), .v (.bool false), .v (.bool false), .v (.bool false), .v (.bool false), .v (.bool false), .v (.bool false), .v (.bool false), .v (.bool false), .v (.bool false), .v (.bool false), .v (.bool false), .v (.bool false), .v (.bool false), .v (.bool false), .v (.bool false), .v (.bool false), .v (.bool false), .v (.bool false), .v (.bool false), .v (.bool false), .v (.bool false), .v (.bool false), .v (.bool false), .v (.bool false), .v (.bool false), .v (.bool false), .v (.bool false), .v (.bool false), .v (.bool false), .v (.bool false), .v (.bool false), .v (.bool false), .v (.bool false), .v (.bool false), .v (.bool false), .v (.bool false), .v (.bool false), .v (.bool false), .v (.bool false), .v (.bool false), .v (.bool false), .v (.bool false), .v (.bool false), .v (.bool false), .v (.bool false), .v (.bool false), .v (.bool false), .v (.bool false), .v (.bool false), .v (.bool false)]),oS (m7 256 (T 5) (T 32)),mv 6 33]) (.seq (.ops [mv 34 6]) (.cond (rX 34) (.seq (.ops [mv 35 0,oC 36 (.func 114) [(T 35), (T 5)],oC 37 (.func 113) [(T 36), (T 5)],mv 4 37]) .ret) .skip))) (.seq (.ops [mv 38 0,mv 39 1,oC 40 (.func 116) [(T 38), (T 39)],mv 41 1,oC 42 (.func 115) [(T 40), (T 41)],mv 4 42]) .ret))))
theorem aXX : env.fn 83 = some ⟨43, [.tmp 4], aIE⟩ := by kernel_rfl
theorem aHC : i5 env aIE = aTE := by kernel_rfl
def aMG : Code := match Tryz.f84.body with | some c => c | none => .skip
abbrev bCI : RC := .seq (.ops [oV 4 (d8 (.const (.bool false)))]) (.seq (.ops [mv 5 0,mv 6 1,oC 7 (.func 117) [(T 5), (T 6)],oV 8 (a9 env .geq 3 false true (T 7) (K 0)),mv 4 8]) .ret)
theorem bD6 : env.fn 84 = some ⟨9, [.tmp 4], aMG⟩ := by kernel_rfl
theorem aTD : i5 env aMG = bCI := by kernel_rfl
def aHO : Code := match Tryz.f85.body with | some c => c | none => .skip
abbrev aXZ : RC := .seq (.ops [oV 2 (d8 (.const (.bool false)))]) (.seq (.ops [mv 3 0,oC 4 (.func 86) [(.const (.string ⟨#[97, 98, 99, 100, 101, 102, 103, 104, 105, 106, 107, 108, 109, 110, 111, 112, 113, 114, 115, 116, 117, 118, 119, 120, 121, 122, 48, 49, 50, 51, 52, 53, 54, 55, 56, 57, 46, 95, 45]⟩)), (T 3)],oV 5 (V3 .not (T 4)),mv 2 5]) .ret)
theorem bCZ : env.fn 85 = some ⟨6, [.tmp 2], aHO⟩ := by kernel_rfl
theorem aS0 : i5 env aHO = aXZ := by kernel_rfl
def aL7 : Code := match Tryz.f86.body with | some c => c | none => .skip
abbrev bAH : RC := .seq (.ops [oV 4 (d8 (.const (.bool false)))]) (.seq (.ops [mv 5 0,mv 6 1,oC 7 (.func 118) [(T 5), (T 6)],oV 8 (a9 env .geq 3 false true (T 7) (K 0)),mv 4 8]) .ret)
theorem bCK : env.fn 86 = some ⟨9, [.tmp 4], aL7⟩ := by kernel_rfl
theorem aT2 : i5 env aL7 = bAH := by kernel_rfl
def aHX : Code := match Tryz.f87.body with | some c => c | none => .skip
abbrev aXE : RC := .seq (.ops [oV 2 (d8 (.const (.string ⟨#[]⟩))),oV 3 (d8 (.const (.string ⟨#[]⟩)))]) (.seq (.seq (.ops [mv 5 0,oC 6 (.func 36) [(T 5)],oV 7 (a9 env .neq 27 false true (T 6) (K 0))]) (.cond (rX 7) (.seq (.ops [oV 2 (d8 (.const (.string ⟨#[]⟩))),oV 3 (d8 (.const (.string ⟨#[]⟩)))]) .ret) .skip)) (.seq (.seq (.ops [mv 8 0,oC 9 (.func 119) [(T 8), (.const (.int .u8 47))],mv 4 9]) (.seq (.ops [mv 10 4,oV 11 (a9 env .geq 3 false true (T 10) (K 0))]) (.cond (rX 11) (.seq (.drawn true [mw 12 0,mw 13 4,dV 14 (B1 (T 12) none (some (T 13))),mw 15 0,mw 16 4,dV 17 (a9 env .add 3 false true (T 16) (K 1)),dV 18 (B1 (T 15) (some (T 17)) none),mw 2 14,mw 3 18]) .ret) .skip))) (.seq (.ops [mv 19 0,oV 2 (d8 (.const (.string ⟨#[]⟩))),mv 3 19]) .ret)))
theorem bEL : env.fn 87 = some ⟨20, [.tmp 2, .tmp 3], aHX⟩ := by kernel_rfl
theorem aSS : i5 env aHX = aXE := by kernel_rfl
def aLN : Code := match Tryz.f88.body with | some c => c | none => .skip
abbrev aLR : RC := .seq (.seq (.ops [mv 34 10,mv 35 3,oV 36 (a9 env .lss 3 false false (T 34) (T 35))]) (.cond (rX 36) .skip (.exit 0))) (.block 1 (.seq (.ops [mv 37 0,mv 38 1,oC 39 (.func 109) [(T 37), (T 38)],mv 11 39]) (.seq (.seq (.ops [mv 40 11,oV 41 (a9 env .lss 3 false true (T 40) (K 0))]) (.cond (rX 41) (.exit 0) .skip)) (.seq (.ops [mv 42 9,mv 43 10,mv 44 0,mv 45 11,mv 46 2,oV 47 (a9 env .add 3 false false (T 45) (T 46)),oV 48 (B1 (T 44) none (some (T 47))),oV 49 (i3 1 (T 42) (T 43)),oS (m7 1 (T 49) (T 48))]) (.seq (.ops [mv 50 0,mv 51 11,mv 52 1,oV 53 (E2 (T 52)),oV 54 (a9 env .add 3 false false (T 51) (T 53)),oV 55 (B1 (T 50) (some (T 54)) none),mv 0 55]) (.ops [mv 56 10,oV 57 (a9 env .add 3 false true (T 56) (K 1)),mv 10 57]))))))
abbrev aTF : RC := .seq (.ops [oV 8 (d8 (.const (.slice none 0 0)))]) (.seq (.seq (.ops [mv 12 3,oV 13 (a9 env .eql 3 false true (T 12) (K 0))]) (.cond (rX 13) (.seq (.ops [oV 8 (d8 (.const (.slice none 0 0)))]) .ret) .skip)) (.seq (.seq (.ops [mv 14 1,oV 15 (a9 env .eql 9 false true (T 14) (.const (.string ⟨#[]⟩)))]) (.cond (rX 15) (.seq (.ops [mv 16 0,mv 17 3,oC 18 (.func 120) [(T 16), (T 17)],mv 8 18]) .ret) .skip)) (.seq (.seq (.ops [mv 19 3,oV 20 (a9 env .lss 3 false true (T 19) (K 0))]) (.cond (rX 20) (.ops [mv 21 0,mv 22 1,oC 23 (.func 121) [(T 21), (T 22)],oV 24 (a9 env .add 3 false true (T 23) (K 1)),mv 3 24]) .skip)) (.seq (.ops [mv 25 3,mv 26 0,oV 27 (E2 (T 26)),oV 28 (a9 env .add 3 false true (T 27) (K 1)),oV 29 (rmm jG [(T 25), (T 28)]),mv 3 29]) (.seq (.ops [mv 30 3,oU 31 (aQ2 1 16 [.v (.string ⟨#[]⟩)] (T 30) (T 30)),mv 9 31]) (.seq (.ops [mv 32 3,oV 33 (a9 env .sub 3 false true (T 32) (K 1)),mv 3 33]) (.seq (.ops [oV 10 (d8 (K 0))]) (.seq (.block 0 (.loop aLR)) (.seq (.ops [mv 58 9,mv 59 10,mv 60 0,oV 61 (i3 1 (T 58) (T 59)),oS (m7 1 (T 61) (T 60))]) (.seq (.ops [mv 62 9,mv 63 10,oV 64 (a9 env .add 3 false true (T 63) (K 1)),oV 65 (aB 1 (T 62) none (some (T 64)) none),mv 8 65]) .ret))))))))))
theorem bEG : env.fn 88 = some ⟨66, [.tmp 8], aLN⟩ := by kernel_rfl
theorem aU5 : i5 env aLN = aTF := by kernel_rfl
def aMT : Code := match Tryz.f89.body with | some c => c | none => .skip
abbrev bA1 : RC := .seq (.ops [oV 2 (d8 (.const (.bool false)))]) (.seq (.ops [mv 3 0,mv 4 0,oV 5 (a9 env .neq 9 false false (T 3) (T 4)),mv 2 5]) .ret)
theorem bCR : env.fn 89 = some ⟨6, [.tmp 2], aMT⟩ := by kernel_rfl
theorem aV2 : i5 env aMT = bA1 := by kernel_rfl
def aER : Code := match Tryz.f103.body with | some c => c | none => .skip
abbrev aVE : RC := .seq (.ops [oV 2 (d8 (.const (.slice none 0 0))),oV 3 (d8 (K 0))]) (.seq (.seq (.ops [mv 4 0,oC 5 (.func 51) [(T 4)],oV 6 (a9 env .neq 27 false true (T 5) (K 0))]) (.cond (rX 6) (.seq (.ops [oV 2 (d8 (.const (.slice none 0 0))),oV 3 (d8 (K 2))]) .ret) .skip)) (.seq (.ops [mv 7 0,oC 8 (.func 76) [(T 7)],mv 2 8,oV 3 (d8 (K 0))]) .ret))
theorem bAF : env.fn 103 = some ⟨9, [.tmp 2, .tmp 3], aER⟩ := by kernel_rfl
theorem aOR : i5 env aER = aVE := by kernel_rfl
def aDN : Code := match Tryz.f104.body with | some c => c | none => .skip
abbrev aED : RC := .seq (.seq (.ops [mv 5 4,mv 6 0,oV 7 (y6 (T 6)),oV 8 (a9 env .lss 3 false false (T 5) (T 7))]) (.cond (rX 8) .skip (.exit 0))) (.seq (.block 1 (.seq (.seq (.ops [mv 11 4,oV 12 (a9 env .gtr 3 false true (T 11) (K 0))]) (.cond (rX 12) (.ops [mv 13 3,oV 14 (a9 env .add 9 false true (T 13) (.const (.string ⟨#[47]⟩))),mv 3 14]) .skip)) (.ops [mv 15 3,mv 16 0,mv 17 4,oV 18 (i3 1 (T 16) (T 17)),oV 19 (c4 false 1 (T 18)),oV 20 (a9 env .add 9 false false (T 15) (T 19)),mv 3 20]))) (.ops [mv 9 4,oV 10 (a9 env .add 3 false true (T 9) (K 1)),mv 4 10]))
abbrev aOI : RC := .seq (.ops [oV 2 (d8 (.const (.string ⟨#[]⟩)))]) (.seq (.ops [oV 3 (d8 (.const (.string ⟨#[]⟩)))]) (.seq (.seq (.ops [oV 4 (d8 (K 0))]) (.block 0 (.loop aED))) (.seq (.ops [mv 21 3,mv 2 21]) .ret)))
theorem bBU : env.fn 104 = some ⟨22, [.tmp 2], aDN⟩ := by kernel_rfl
theorem aNE : i5 env aDN = aOI := by kernel_rfl
def aBZ : Code := match Tryz.f105.body with | some c => c | none => .skip
abbrev aT3 : RC := .seq (.ops [oV 2 (d8 (.const (.bool false)))]) (.seq (.ops [mv 3 0,mv 4 0,oV 5 (a9 env .neq 3 false false (T 3) (T 4)),mv 2 5]) .ret)
theorem bBB : env.fn 105 = some ⟨6, [.tmp 2], aBZ⟩ := by kernel_rfl
theorem aON : i5 env aBZ = aT3 := by kernel_rfl
def aE0 : Code := match Tryz.f107.body with | some c => c | none => .skip
abbrev aDC : RC := .block 3 (.seq (.ops [oV 29 (c4 false 1 (T 2)),oV 30 (c4 false 1 (T 1)),oC 31 (.func 109) [(T 29), (T 30)],mv 7 31]) (.seq (.seq (.ops [mv 32 7,oV 33 (a9 env .lss 3 false true (T 32) (K 0))]) (.cond (rX 33) (.exit 2) .skip)) (.seq (.ops [oV 34 (c4 false 1 (T 2)),mv 35 7,oV 36 (c4 false 1 (T 3)),oV 37 (a9 env .add 3 false false (T 35) (T 36)),oV 38 (B1 (T 34) none (some (T 37))),mv 8 38]) (.seq (.seq (.ops [mv 39 0,mv 40 8,oC 41 (T 39) [(T 40)],oV 42 (V3 .not (T 41))]) (.cond (rX 42) .ret .skip)) (.ops [oV 43 (c4 false 1 (T 2)),mv 44 7,oV 45 (c4 false 1 (T 1)),oV 46 (E2 (T 45)),oV 47 (a9 env .add 3 false false (T 44) (T 46)),oV 48 (B1 (T 43) (some (T 47)) none),oS (m7 1 (T 2) (T 48))])))))
abbrev aPO : RC := .seq (.seq (.ops [oV 9 (c4 false 1 (T 1)),oV 10 (E2 (T 9)),oV 11 (a9 env .eql 3 false true (T 10) (K 0))]) (.cond (rX 11) (.seq (.block 0 (.loop (.seq (.seq (.ops [oV 12 (c4 false 1 (T 2)),oV 13 (E2 (T 12)),oV 14 (a9 env .gtr 3 false true (T 13) (K 0))]) (.cond (rX 14) .skip (.exit 0))) (.block 1 (.seq (.ops [oV 16 (c4 false 1 (T 2)),oC 17 (.func 108) [(T 16)],mv 15 17,oV 18 (E3 (T 15) 0),oV 19 (E3 (T 15) 1),mv 5 18,mv 6 19]) (.seq (.seq (.ops [mv 20 0,oV 21 (c4 false 1 (T 2)),mv 22 6,oV 23 (B1 (T 21) none (some (T 22))),oC 24 (T 20) [(T 23)],oV 25 (V3 .not (T 24))]) (.cond (rX 25) .ret .skip)) (.ops [oV 26 (c4 false 1 (T 2)),mv 27 6,oV 28 (B1 (T 26) (some (T 27)) none),oS (m7 1 (T 2) (T 28))]))))))) .ret) .skip)) (.seq (.block 2 (.loop aDC)) (.ops [mv 49 0,oV 50 (c4 false 1 (T 2)),oC 51 (T 49) [(T 50)]]))
theorem aQ6 : env.fn 107 = some ⟨52, [], aE0⟩ := by kernel_rfl
theorem aNI : i5 env aE0 = aPO := by kernel_rfl
def aEV : Code := match Tryz.f109.body with | some c => c | none => .skip
abbrev aXC : RC := .seq (.ops [oV 4 (d8 (K 0))]) (.seq (.ops [mv 5 0,mv 6 1,oC 7 (.func 129) [(T 5), (T 6)],mv 4 7]) .ret)
theorem aYW : env.fn 109 = some ⟨8, [.tmp 4], aEV⟩ := by kernel_rfl
theorem aO1 : i5 env aEV = aXC := by kernel_rfl
def aEM : Code := match Tryz.f112.body with | some c => c | none => .skip
abbrev aD7 : RC := .seq (.seq (.ops [mv 6 4,mv 7 0,oV 8 (E2 (T 7)),oV 9 (a9 env .lss 3 false false (T 6) (T 8))]) (.cond (rX 9) .skip (.exit 0))) (.seq (.block 1 (.seq (.ops [mv 12 0,mv 13 4,oV 14 (Q6 (T 12) (T 13)),mv 5 14]) (.seq (.seq (.ops [mv 15 5,oV 16 (a9 env .geq 5 false true (T 15) (.const (.int .u8 128)))]) (.cond (rX 16) (.seq (.ops [oV 17 (c4 true 256 (T 2)),oS (m7 256 (T 2) (T 17)),oV 3 (d8 (.const (.bool false)))]) .ret) .skip)) (.ops [mv 18 5,oV 19 (vT 256 1 (T 2) (T 18)),oS (m7 1 (T 19) (.const (.bool true)))])))) (.ops [mv 10 4,oV 11 (a9 env .add 3 false true (T 10) (K 1)),mv 4 11]))
abbrev aOY : RC := .seq (.ops [oU 2 (Y1 [.v (.bool false), .v (.bool false), .v (.bool false), .v (.bool false), .v (.bool false), .v (.bool false), .v (.bool false), .v (.bool false), .v (.bool false), .v (.bool false), .v (.bool false), .v (.bool false), .v (.bool false), .v (.bool false), .v (.bool false), .v (.bool false), .v (.bool false), .v (.bool false), .v (.bool false), .v (.bool false), .v (.bool false), .v (.bool false), .v (.bool false), .v (.bool false), .v (.bool false), .v (.bool false), .v (.bool false), .v (.bool false), .v (.bool false), .v (.bool false), .v (.bool false), .v (.bool false), .v (.bool false), .v (.bool false), .v (.bool false), .v (.bool false), .v (.bool false), .v (.bool false), .v (.bool false), .v (.bool false), .v (.bool false), .v (.bool false), .v (.bool false), .v (.bool false), .v (.bool false), .v (.bool false), .v (.bool false), .v (.bool false), .v (.bool false), .v (.bool false), .v (.bool false), .v (.bool false), .v (.bool false), .v (.bool false), .v (.bool false), .v (.bool false), .v (.bool false), .v (.bool false), .v (.bool false), .v (.bool false), .v (.bool false), .v (.bool false), .v (.bool false), .v (.bool false), .v (.bool false), .v (.bool false), .v (.bool false), .v (.bool false), .v (.bool false), .v (.bool false), .v (.bool false), .v (.bool false), .v (.bool false), .v (.bool false), .v (.bool false), .v (.bool false), .v (.bool false), .v (.bool false), .v (.bool false), .v (.bool false), .v (.bool false), .v (.bool false), .v (.bool false), .v (.bool false), .v (.bool false), .v (.bool false), .v (.bool false), .v (.bool false), .v (.bool false), .v (.bool false), .v (.bool false), .v (.bool false), .v (.bool false), .v (.bool false), .v (.bool false), .v (.bool false), .v (.bool false), .v (.bool false), .v (.bool false), .v (.bool false), .v (.bool false), .v (.bool false), .v (.bool false), .v (.bool false), .v (.bool false), .v (.bool false), .v (.bool false), .v (.bool false), .v (.bool false), .v (.bool false), .v (.bool false), .v (.bool false), .v (.bool false), .v (.bool false), .v (.bool false), .v (.bool false), .v (.bool false), .v (.bool false), .v (.bool false), .v (.bool false), .v (.bool false), .v (.bool false), .v (.bool false), .v (.bool false), .v (.bool false), .v (.bool false), .v (.bool false), .v (.bool false), .v (.bool false), .v (.bool false), .v (.bool false), .v (.bool false), .v (.bool false), .v (.bool false), .v (.bool false), .v (.bool false), .v (.bool false), .v (.bool false), .v (.bool false), .v (.bool false), .v (.bool false), .v (.bool false), .v (.bool false), .v (.bool false), .v (.bool false), .v (.bool false), .v (.bool false), .v (.bool false), .v (.bool false), .v (.bool false), .v (.bool false), .v (.bool false), .v (.bool false), .v (.bool false), .v (.bool false), .v (.bool false), .v (.bool false), .v (.bool false), .v (.bool false), .v (.bool false), .v (.bool false), .v (.bool false), .v (.bool false), .v (.bool false), .v (.bool false), .v (.bool false), .v (.bool false), .v (.bool false), .v (.bool false), .v (.bool false), .v (.bool false), .v (.bool false), .v (.bool false), .v (.bool false), .v (.bool false), .v (.bool false), .v (.bool false), .v (.bool false), .v (.bool false), .v (.bool false), .v (.bool false), .v (.bool false), .v (.bool false), .v (.bool false), .v (.bool false), .v (.bool false), .v (.bool false), .v (.bool false), .v (.bool false), .v (.bool false), .v (.bool false), .v (.bool false), .v (.bool false), .v (.bool false), .v (.bool false), .v (.bool false), .v (.bool false), .v (.bool false), .v (.bool false), .v (.bool false), .v (.bool false), .v (.bool false), .v (.bool false), .v (.bool false), .v (.bool false), .v (.bool false), .v (.bool false), .v (.bool false), .v (.bool false), .v (.bool false), .v (.bool false), .v (.bool false), .v (.bool false), .v (.bool false), .v (.bool false), .v (.bool false), .v (.bool false), .v (.bool false), .v (.bool false), .v (.bool false), .v (.bool false), .v (.bool false), .v (.bool false), .v (.bool false), .v (.bool false), .v (.bool false), .v (.bool false), .v (.bool false), .v (.bool false), .v (.bool false), .v (.bool false), .v (.bool false), .v (.bool false), .v (.bool false), .v (.bool false), .v (.bool false), .v (.bool false), .v (.bool false), .v (.bool false), .v (.bool false), .v (.bool false), .v (.bool false), .v (.bool false), .v (.bool false), .v (.bool false), .v (.bool false), .v (.bool false), .v (.bool false), .v (.bool false), .v (.bool false), .v (.bool false), .v (.bool false), .v (.bool false), .v (.bool false), .v (.bool false), .v (.bool false)]),oV 3 (d8 (.const (.bool false)))]) (.seq (.seq (.ops [oV 4 (d8 (K 0))]) (.block 0 (.loop aD7))) (.seq (.ops [oV 20 (c4 true 256 (T 2)),oS (m7 256 (T 2) (T 20)),oV 3 (d8 (.const (.bool true)))]) .ret))
theorem aXR : env.fn 112 = some ⟨21, [.cell 2 130, .tmp 3], aEM⟩ := by kernel_rfl
theorem aO3 : i5 env aEM = aOY := by kernel_rfl
def aCO : Code := match Tryz.f113.body with | some c => c | none => .skip
abbrev aDJ : RC := .seq (.seq (.ops [mv 5 0,oV 6 (E2 (T 5)),oV 7 (a9 env .gtr 3 false true (T 6) (K 0))]) (.cond (rX 7) .skip (.exit 0))) (.block 1 (.seq (.seq (.ops [mv 8 1,mv 9 0,oV 10 (Q6 (T 9) (K 0)),oC 11 (.func 130) [(T 8), (T 10)],oV 12 (V3 .not (T 11))]) (.cond (rX 12) (.exit 0) .skip)) (.ops [mv 13 0,oV 14 (B1 (T 13) (some (K 1)) none),mv 0 14])))
abbrev aOL : RC := .seq (.ops [oV 4 (d8 (.const (.string ⟨#[]⟩)))]) (.seq (.block 0 (.loop aDJ)) (.seq (.ops [mv 15 0,mv 4 15]) .ret))
theorem bAV : env.fn 113 = some ⟨16, [.tmp 4], aCO⟩ := by kernel_rfl
theorem aNH : i5 env aCO = aOL := by kernel_rfl
def aDR : Code := match Tryz.f114.body with | some c => c | none => .skip
abbrev aD6 : RC := .seq (.seq (.ops [mv 5 0,oV 6 (E2 (T 5)),oV 7 (a9 env .gtr 3 false true (T 6) (K 0))]) (.cond (rX 7) .skip (.exit 0))) (.block 1 (.seq (.seq (.ops [mv 8 1,mv 9 0,mv 10 0,oV 11 (E2 (T 10)),oV 12 (a9 env .sub 3 false true (T 11) (K 1)),oV 13 (Q6 (T 9) (T 12)),oC 14 (.func 130) [(T 8), (T 13)],oV 15 (V3 .not (T 14))]) (.cond (rX 15) (.exit 0) .skip)) (.ops [mv 16 0,mv 17 0,oV 18 (E2 (T 17)),oV 19 (a9 env .sub 3 false true (T 18) (K 1)),oV 20 (B1 (T 16) none (some (T 19))),mv 0 20])))
abbrev aOS : RC := .seq (.ops [oV 4 (d8 (.const (.string ⟨#[]⟩)))]) (.seq (.block 0 (.loop aD6)) (.seq (.ops [mv 21 0,mv 4 21]) .ret))
theorem bAZ : env.fn 114 = some ⟨22, [.tmp 4], aDR⟩ := by kernel_rfl
theorem aP2 : i5 env aDR = aOS := by kernel_rfl
def aEA : Code := match Tryz.f117.body with | some c => c | none => .skip
abbrev aUC : RC := .seq (.ops [oV 4 (d8 (K 0))]) (.seq (.ops [mv 5 0,mv 6 1,oC 7 (.func 132) [(T 5), (T 6), (.const (.bool true))],mv 4 7]) .ret)
theorem aYK : env.fn 117 = some ⟨8, [.tmp 4], aEA⟩ := by kernel_rfl
theorem aP9 : i5 env aEA = aUC := by kernel_rfl
def uT : Code := match Tryz.f118.body with | some c => c | none => .skip
abbrev aG1 : RC := .seq (.ops [oV 4 (d8 (K 0))]) (.block 0 (.seq (.ops [mv 161 1,oV 162 (a9 env .leq 21 true false (.const (.int .i32 0)) (T 161)),mv 163 162,oG 164 163 true (d8 (T 1)),oG 165 163 true (a9 env .lss 21 false true (T 164) (.const (.int .i32 128))),oV 166 (j9 (T 163) (T 165) (.const (.bool false))),mv 160 166]) (.cond (rX 160) (.seq (.ops [mv 167 0,mv 168 1,oU 169 (aBW .u8 (T 168)),oC 170 (.func 133) [(T 167), (T 169)],mv 4 170]) .ret) (.seq (.ops [mv 172 1,oV 173 (a9 env .eql 21 false true (T 172) (.const (.int .i32 65533))),mv 171 173]) (.cond (rX 171) (.seq (.seq (.ops [mv 174 0,oU 175 (aBS (T 174))]) (.block 9 (.loop (.seq (.ops [oU 176 (aDD (T 175)),oV 177 (E3 (T 176) 0)]) (.seq (.cond (rX 177) .skip (.exit 9)) (.block 10 (.seq (.ops [oV 178 (E3 (T 176) 1),oV 179 (E3 (T 176) 2),mv 5 178,mv 6 179]) (.seq (.ops [mv 180 6,oV 181 (a9 env .eql 21 false true (T 180) (.const (.int .i32 65533)))]) (.cond (rX 181) (.seq (.ops [mv 182 5,mv 4 182]) .ret) .skip))))))))) (.seq (.ops [oV 4 (d8 (K (-1)))]) .ret)) (.seq (.ops [mv 184 1,oC 185 (.func 134) [(T 184)],oV 186 (V3 .not (T 185)),mv 183 186]) (.cond (rX 183) (.seq (.ops [oV 4 (d8 (K (-1)))]) .ret) (.scope (Q8 [1, 0, 1, 1, 1, 1, 1, 1, 0] uT)))))))))
theorem bAB : env.fn 118 = some ⟨187, [.tmp 4], uT⟩ := by kernel_rfl
theorem aNG : i5 env uT = aG1 := by kernel_rfl
def aC6 : Code := match Tryz.f119.body with | some c => c | none => .skip
abbrev aW0 : RC := .seq (.ops [oV 4 (d8 (K 0))]) (.seq (.ops [mv 5 0,mv 6 1,oC 7 (.func 137) [(T 5), (T 6)],mv 4 7]) .ret)
theorem aYA : env.fn 119 = some ⟨8, [.tmp 4], aC6⟩ := by kernel_rfl
theorem aOB : i5 env aC6 = aW0 := by kernel_rfl
def aD2 : Code := match Tryz.f121.body with | some c => c | none => .skip
abbrev aPD : RC := .seq (.ops [oV 4 (d8 (K 0))]) (.seq (.seq (.ops [mv 7 1,oV 8 (E2 (T 7)),oV 9 (a9 env .eql 3 false true (T 8) (K 0))]) (.cond (rX 9) (.seq (.ops [mv 10 0,oC 11 (.func 138) [(T 10)],oV 12 (a9 env .add 3 false true (T 11) (K 1)),mv 4 12]) .ret) .skip)) (.seq (.seq (.ops [mv 13 1,oV 14 (E2 (T 13)),oV 15 (a9 env .eql 3 false true (T 14) (K 1))]) (.cond (rX 15) (.seq (.ops [mv 16 0,mv 17 1,oV 18 (Q6 (T 17) (K 0)),oC 19 (.func 139) [(T 16), (T 18)],mv 4 19]) .ret) .skip)) (.seq (.ops [oV 5 (d8 (K 0))]) (.block 0 (.loop (.block 1 (.seq (.ops [mv 20 0,mv 21 1,oC 22 (.func 109) [(T 20), (T 21)],mv 6 22]) (.seq (.seq (.ops [mv 23 6,oV 24 (a9 env .eql 3 false true (T 23) (K (-1)))]) (.cond (rX 24) (.seq (.ops [mv 25 5,mv 4 25]) .ret) .skip)) (.seq (.ops [mv 26 5,oV 27 (a9 env .add 3 false true (T 26) (K 1)),mv 5 27]) (.ops [mv 28 0,mv 29 6,mv 30 1,oV 31 (E2 (T 30)),oV 32 (a9 env .add 3 false false (T 29) (T 31)),oV 33 (B1 (T 28) (some (T 32)) none),mv 0 33]))))))))))
theorem bAP : env.fn 121 = some ⟨34, [.tmp 4], aD2⟩ := by kernel_rfl
theorem aO6 : i5 env aD2 = aPD := by kernel_rfl
def aDX : Code := match Tryz.f129.body with | some c => c | none => .skip
abbrev aOD : RC := .seq (.ops [oV 4 (d8 (K 0))]) (.seq (.ops [mv 14 1,oV 15 (E2 (T 14)),mv 5 15]) (.seq (.block 0 (.seq (.ops [mv 17 5,oV 18 (a9 env .eql 3 false true (T 17) (K 0)),mv 19 18,oG 20 19 false (d8 (T 1)),oG 21 19 false (d8 (T 0)),oG 22 19 false (a9 env .eql 9 false false (T 20) (T 21)),oV 23 (j9 (T 19) (.const (.bool true)) (T 22)),mv 16 23]) (.cond (rX 16) (.seq (.ops [oV 4 (d8 (K 0))]) .ret) (.seq (.ops [mv 25 5,oV 26 (a9 env .eql 3 false true (T 25) (K 1)),mv 24 26]) (.cond (rX 24) (.seq (.ops [mv 27 0,mv 28 1,oV 29 (Q6 (T 28) (K 0)),oC 30 (.func 141) [(T 27), (T 29)],mv 4 30]) .ret) (.seq (.ops [mv 32 5,mv 33 0,oV 34 (E2 (T 33)),oV 35 (a9 env .geq 3 false false (T 32) (T 34)),mv 31 35]) (.cond (rX 31) (.seq (.ops [oV 4 (d8 (K (-1)))]) .ret) (.seq (.ops [mv 37 5,oV 38 (c4 false 1 (.global 0)),oV 39 (a9 env .leq 3 false false (T 37) (T 38)),mv 40 39,oG 41 40 true (d8 (T 0)),oG 42 40 true (E2 (T 41)),oG 43 40 true (a9 env .leq 3 false true (T 42) (K 64)),oV 44 (j9 (T 40) (T 43) (.const (.bool false))),mv 36 44]) (.cond (rX 36) (.seq (.ops [mv 45 0,mv 46 1,oC 47 (.func 136) [(T 45), (T 46)],mv 4 47]) .ret) .skip))))))))) (.seq (.ops [mv 48 1,oV 49 (Q6 (T 48) (K 0)),mv 6 49]) (.seq (.ops [mv 50 1,oV 51 (Q6 (T 50) (K 1)),mv 7 51]) (.seq (.ops [oV 8 (d8 (K 0))]) (.seq (.ops [mv 52 0,oV 53 (E2 (T 52)),mv 54 5,oV 55 (a9 env .sub 3 false false (T 53) (T 54)),oV 56 (a9 env .add 3 false true (T 55) (K 1)),mv 9 56]) (.seq (.ops [oV 10 (d8 (K 0))]) (.seq (.block 1 (.loop (.seq (.seq (.ops [mv 57 8,mv 58 9,oV 59 (a9 env .lss 3 false false (T 57) (T 58))]) (.cond (rX 59) .skip (.exit 1))) (.block 2 (.seq (.seq (.ops [mv 60 0,mv 61 8,oV 62 (Q6 (T 60) (T 61)),mv 63 6,oV 64 (a9 env .neq 5 false false (T 62) (T 63))]) (.cond (rX 64) (.seq (.ops [mv 65 0,mv 66 8,oV 67 (a9 env .add 3 false true (T 66) (K 1)),mv 68 9,oV 69 (B1 (T 65) (some (T 67)) (some (T 68))),mv 70 6,oC 71 (.func 141) [(T 69), (T 70)],mv 11 71]) (.seq (.seq (.ops [mv 72 11,oV 73 (a9 env .lss 3 false true (T 72) (K 0))]) (.cond (rX 73) (.seq (.ops [oV 4 (d8 (K (-1)))]) .ret) .skip)) (.ops [mv 74 8,mv 75 11,oV 76 (a9 env .add 3 false true (T 75) (K 1)),oV 77 (a9 env .add 3 false false (T 74) (T 76)),mv 8 77]))) .skip)) (.seq (.seq (.ops [mv 78 0,mv 79 8,oV 80 (a9 env .add 3 false true (T 79) (K 1)),oV 81 (Q6 (T 78) (T 80)),mv 82 7,oV 83 (a9 env .eql 5 false false (T 81) (T 82)),mv 84 83,oG 85 84 true (d8 (T 0)),oG 86 84 true (d8 (T 8)),oG 87 84 true (d8 (T 8)),oG 88 84 true (d8 (T 5)),oG 89 84 true (a9 env .add 3 false false (T 87) (T 88)),oG 90 84 true (B1 (T 85) (some (T 86)) (some (T 89))),oG 91 84 true (d8 (T 1)),oG 92 84 true (a9 env .eql 9 false false (T 90) (T 91)),oV 93 (j9 (T 84) (T 92) (.const (.bool false)))]) (.cond (rX 93) (.seq (.ops [mv 94 8,mv 4 94]) .ret) .skip)) (.seq (.ops [mv 95 8,oV 96 (a9 env .add 3 false true (T 95) (K 1)),mv 8 96]) (.seq (.ops [mv 97 10,oV 98 (a9 env .add 3 false true (T 97) (K 1)),mv 10 98]) (.seq (.ops [mv 99 5,oV 100 (c4 false 1 (.global 0)),oV 101 (a9 env .leq 3 false false (T 99) (T 100)),mv 102 101,oG 103 102 true (d8 (T 10)),oG 104 102 true (d8 (T 8)),oCG 105 102 true (.func 135) [(T 104)],oG 106 102 true (a9 env .gtr 3 false false (T 103) (T 105)),oV 107 (j9 (T 102) (T 106) (.const (.bool false)))]) (.cond (rX 107) (.seq (.ops [mv 108 0,mv 109 8,oV 110 (B1 (T 108) (some (T 109)) none),mv 111 1,oC 112 (.func 136) [(T 110), (T 111)],mv 12 112]) (.seq (.seq (.ops [mv 113 12,oV 114 (a9 env .geq 3 false true (T 113) (K 0))]) (.cond (rX 114) (.seq (.ops [mv 115 12,mv 116 8,oV 117 (a9 env .add 3 false false (T 115) (T 116)),mv 4 117]) .ret) .skip)) (.seq (.ops [oV 4 (d8 (K (-1)))]) .ret))) (.seq (.ops [mv 118 5,oV 119 (c4 false 1 (.global 0)),oV 120 (a9 env .gtr 3 false false (T 118) (T 119)),mv 121 120,oG 122 121 true (d8 (T 10)),oG 123 121 true (d8 (T 8)),oG 124 121 true (a9 env .shr 3 false true (T 123) (.const (.int .u64 4))),oG 125 121 true (a9 env .add 3 true false (K 4) (T 124)),oG 126 121 true (a9 env .geq 3 false false (T 122) (T 125)),oV 127 (j9 (T 121) (T 126) (.const (.bool false))),mv 128 127,oG 129 128 true (d8 (T 8)),oG 130 128 true (d8 (T 9)),oG 131 128 true (a9 env .lss 3 false false (T 129) (T 130)),oV 132 (j9 (T 128) (T 131) (.const (.bool false)))]) (.cond (rX 132) (.seq (.ops [mv 133 0,mv 134 8,oV 135 (B1 (T 133) (some (T 134)) none),mv 136 1,oC 137 (.func 142) [(T 135), (T 136)],mv 13 137]) (.seq (.seq (.ops [mv 138 13,oV 139 (a9 env .lss 3 false true (T 138) (K 0))]) (.cond (rX 139) (.seq (.ops [oV 4 (d8 (K (-1)))]) .ret) .skip)) (.seq (.ops [mv 140 8,mv 141 13,oV 142 (a9 env .add 3 false false (T 140) (T 141)),mv 4 142]) .ret))) .skip)))))))))))) (.seq (.ops [oV 4 (d8 (K (-1)))]) .ret)))))))))
theorem aYS : env.fn 129 = some ⟨143, [.tmp 4], aDX⟩ := by kernel_rfl
theorem aOO : i5 env aDX = aOD := by kernel_rfl
def aB1 : Code := match Tryz.f130.body with | some c => c | none => .skip
abbrev aUB : RC := .seq (.ops [oV 4 (d8 (.const (.bool false)))]) (.seq (.ops [mv 5 0,mv 6 1,oV 7 (aAC (T 5)),oV 8 (vT 256 1 (T 7) (T 6)),oV 9 (c4 false 1 (T 8)),mv 4 9]) .ret)
theorem aZ3 : env.fn 130 = some ⟨10, [.tmp 4], aB1⟩ := by kernel_rfl
theorem aNP : i5 env aB1 = aUB := by kernel_rfl
def aCD : Code := match Tryz.f132.body with | some c => c | none => .skip
abbrev aDY : RC := .seq (.ops [oU 11 (aDD (T 10)),oV 12 (E3 (T 11) 0)]) (.seq (.cond (rX 12) .skip (.exit 0)) (.block 1 (.seq (.ops [oV 13 (E3 (T 11) 1),oV 14 (E3 (T 11) 2),mv 7 13,mv 8 14]) (.seq (.ops [mv 15 1,mv 16 8,oC 17 (T 15) [(T 16)],mv 18 2,oV 19 (a9 env .eql 4 false false (T 17) (T 18))]) (.cond (rX 19) (.seq (.ops [mv 20 7,mv 6 20]) .ret) .skip)))))
abbrev aOC : RC := .seq (.ops [oV 6 (d8 (K 0))]) (.seq (.seq (.ops [mv 9 0,oU 10 (aBS (T 9))]) (.block 0 (.loop aDY))) (.seq (.ops [oV 6 (d8 (K (-1)))]) .ret))
theorem bB4 : env.fn 132 = some ⟨21, [.tmp 6], aCD⟩ := by kernel_rfl
theorem aNV : i5 env aCD = aOC := by kernel_rfl
def aDF : Code := match Tryz.f133.body with | some c => c | none => .skip
abbrev aXA : RC := .seq (.ops [oV 4 (d8 (K 0))]) (.seq (.ops [mv 5 0,mv 6 1,oC 7 (.func 141) [(T 5), (T 6)],mv 4 7]) .ret)
theorem aX9 : env.fn 133 = some ⟨8, [.tmp 4], aDF⟩ := by kernel_rfl
theorem aOJ : i5 env aDF = aXA := by kernel_rfl
def aDK : Code := match Tryz.f137.body with | some c => c | none => .skip
abbrev aE1 : RC := .seq (.seq (.ops [mv 9 5,oV 10 (a9 env .geq 3 false true (T 9) (K 0))]) (.cond (rX 10) .skip (.exit 0))) (.seq (.block 1 (.seq (.ops [mv 13 0,mv 14 5,oV 15 (Q6 (T 13) (T 14)),mv 16 1,oV 17 (a9 env .eql 5 false false (T 15) (T 16))]) (.cond (rX 17) (.seq (.ops [mv 18 5,mv 4 18]) .ret) .skip))) (.ops [mv 11 5,oV 12 (a9 env .sub 3 false true (T 11) (K 1)),mv 5 12]))
abbrev aOZ : RC := .seq (.ops [oV 4 (d8 (K 0))]) (.seq (.seq (.ops [mv 6 0,oV 7 (E2 (T 6)),oV 8 (a9 env .sub 3 false true (T 7) (K 1)),mv 5 8]) (.block 0 (.loop aE1))) (.seq (.ops [oV 4 (d8 (K (-1)))]) .ret))
theorem bBD : env.fn 137 = some ⟨19, [.tmp 4], aDK⟩ := by kernel_rfl
theorem aPX : i5 env aDK = aOZ := by kernel_rfl
def aCH : Code := match Tryz.f141.body with | some c => c | none => .skip
abbrev aTI : RC := .seq (.ops [oV 4 (d8 (K 0))]) (.seq (.ops [mv 5 0,mv 6 1,oC 7 (.func 144) [(T 5), (T 6)],mv 4 7]) .ret)
theorem aY5 : env.fn 141 = some ⟨8, [.tmp 4], aCH⟩ := by kernel_rfl
theorem aO5 : i5 env aCH = aTI := by kernel_rfl
end
end Go.Proofs.YtnmidpahhhdlpaaGreatDoor
end
namespace Go.Am
open Go.RowKit
inductive Sh where
 | bool | int (k : IntKind) | str | sl (l : List Sh)
mutual
inductive Typ (P : Program) : TypeId -> List Sh -> Prop where
 | bool {t : TypeId} (h : P.underlying t = some .bool) : Typ P t [.bool]
 | int {t : TypeId} {k : IntKind} (h : P.underlying t = some (.int k)) : Typ P t [.int k]
 | str {t : TypeId} (h : P.underlying t = some .string) : Typ P t [.str]
 | sl {t e : TypeId} {l : List Sh} (h : P.underlying t = some (.slice e)) (he : Typ P e l) (hc : P.cellsOf e = l.length) (h0 : l.length ≠ 0) (hs : l.length < 4096) : Typ P t [.sl l]
 | struct {t : TypeId} {fs : Array Field} {l : List Sh} (h : P.underlying t = some (.struct fs)) (hf : tK P fs.toList 0 l) (hc : P.cellsOf t = l.length) : Typ P t l
inductive tK (P : Program) : List Field -> Nat -> List Sh -> Prop where
 | nil {n : Nat} : tK P [] n []
 | cons {f : Field} {fs : List Field} {n : Nat} {l l' : List Sh} (ho : f.offset = n) (h : Typ P f.type l) (hc : P.cellsOf f.type = l.length) (hs : tK P fs (n + l.length) l') : tK P (f :: fs) n (l ++ l')
end
mutual
inductive zY : Sh -> DV -> Prop where
 | bool (b : Bool) : zY .bool (.v (.bool b))
 | int {k : IntKind} (n : Int) (h1 : k.min <= n) (h2 : n <= k.max) : zY (.int k) (.v (.int k n))
 | str (s : ByteArray) (h : s.size <= maxLen) : zY .str (.v (.string s))
 | nil (l : List Sh) : zY (.sl l) (.v (.slice none 0 0))
 | sl {l : List Sh} {n : Nat} {cs : List DV} (h : Z8 l n cs) (hn : n <= maxLen) (hl : l.length < 4096) : zY (.sl l) (.lst l.length n cs)
inductive Q9 : List Sh -> List DV -> Prop where
 | nil : Q9 [] []
 | cons {s : Sh} {d : DV} {l : List Sh} {l' : List DV} (h : zY s d) (hs : Q9 l l') : Q9 (s :: l) (d :: l')
inductive Z8 : List Sh -> Nat -> List DV -> Prop where
 | nil (l : List Sh) : Z8 l 0 []
 | cons {l : List Sh} {n : Nat} {r cs : List DV} (h : Q9 l r) (hs : Z8 l n cs) : Z8 l (n + 1) (r ++ cs)
end
theorem Q9.length : ∀ {l : List Sh} {ds : List DV}, Q9 l ds -> ds.length = l.length
 | _, _, .nil => rfl
 | _, _, .cons _ hs => by simp only [List.length_cons, hs.length]
theorem Q9.append : ∀ {l l' : List Sh} {ds ds' : List DV}, Q9 l ds -> Q9 l' ds' -> Q9 (l ++ l') (ds ++ ds')
 | _, _, _, _, .nil, h' => h'
 | _, _, _, _, .cons h hs, h' => .cons h (hs.append h')
theorem Z8.length {l : List Sh} : ∀ {n : Nat} {cs : List DV}, Z8 l n cs -> cs.length = n * l.length
 | _, _, .nil _ => by simp
 | _, _, .cons h hs => by rw [List.length_append, h.length, hs.length, Nat.succ_mul, Nat.add_comm]
theorem mK.append {w : World} {l l' : List DV} {vs vs' : List Value} (h : mK w l vs) (h' : mK w l' vs') : mK w (l ++ l') (vs ++ vs') := by
 cases h with
 | nil => exact h'
 | cons h hs => exact .cons h (hs.append h')
section
variable {H : Type} {enc : TypeId × Value -> H} {P : Program} {w : World} {base : Nat} {spare : Nat -> Bool} {held : Bool}
theorem oY {a : Addr} {n : Nat} {cs : List Value} (h : w.cells? base a n = some cs) : cs.length = n /\ ∀ (i : Nat) v, cs[i]? = some v -> w.cell? (a.add i) = some v := by
 unfold World.cells? at h
 split at h
 ·have hl := mapM_some_length h
  simp at hl
  refine ⟨hl, fun i v e => ?_⟩
  have hi : i < n := by
   rcases Nat.lt_or_ge i cs.length with hx | hx
   ·omega
   ·rw [List.getElem?_eq_none hx] at e; cases e
  have := mapM_some_get h i i (by simp [hi])
  rw [this, e]
 ·cases h
theorem aGV {a : Addr} {v : Value} (h : w.cell? a = some v) : a.block < w.heap.size := by
 rcases Nat.lt_or_ge a.block w.heap.size with hx | hx
 ·exact hx
 ·unfold World.cell? at h
  rw [Array.getElem?_eq_none hx] at h
  simp at h
theorem sR {a : Addr} {e : TypeId} {l : List Sh} {fuel : Nat} (hc : P.cellsOf e = l.length)
  (hr : ∀ (cs : List Value) (x : DataW H × List MemPlace), DataW.trod enc P w base spare held fuel e cs = some x -> ∃ ds, mK w ds cs /\ Q9 l ds) : ∀ (n i : Nat),
  (∀ j, i <= j -> j < i + n -> ((w.cells? base (a.add (j * P.cellsOf e)) (P.cellsOf e)).bind (DataW.trod enc P w base spare held fuel e)).isSome = true) →
  ∃ (ds : List DV) (vs : List Value), (∀ (j : Nat) v, vs[j]? = some v -> w.cell? (a.add (i * l.length + j)) = some v) /\ mK w ds vs /\ Z8 l n ds
 | 0, i, _ => ⟨[], [], fun j v e => by simp at e, .nil, .nil l⟩
 | n + 1, i, h => by
  have h0 := h i (Nat.le_refl _) (by omega)
  rw [Option.isSome_iff_exists] at h0
  obtain ⟨x, h0⟩ := h0
  simp only [Option.bind_eq_some_iff] at h0
  obtain ⟨cs, k1, k2⟩ := h0
  obtain ⟨ds, k3, k4⟩ := hr cs x k2
  obtain ⟨kl, kc⟩ := oY k1
  obtain ⟨ds', vs', g1, g2, g3⟩ := sR hc hr n (i + 1) (fun j hj hj' => h j (by omega) (by omega))
  refine ⟨ds ++ ds', cs ++ vs', fun j v e => ?_, k3.append g2, .cons k4 g3⟩
  rcases Nat.lt_or_ge j cs.length with hx | hx
  ·rw [List.getElem?_append_left hx] at e
   have := kc j v e
   rw [hc] at this
   have e3 : (a.add (i * l.length)).add j = a.add (i * l.length + j) := by
    unfold Addr.add
    split <;> split <;> simp_all <;> omega
   rw [e3] at this
   exact this
  ·rw [List.getElem?_append_right hx] at e
   have := g1 _ v e
   rw [Nat.succ_mul, show i * l.length + l.length + (j - cs.length) = i * l.length + j by omega] at this
   exact this
theorem aGK {a : Addr} {v : Value} (h : w.cell? a = some v) : a.spot = none := by
 unfold World.cell? at h
 cases hs : a.spot with
 | none => rfl
 | some x =>
  rw [hs] at h
  split at h <;> simp at h
theorem aLJ {t e : TypeId} {l : List Sh} (hu : P.underlying t = some (.slice e)) (hc : P.cellsOf e = l.length) (h0 : l.length ≠ 0) (hs : l.length < 4096)
  (hr : ∀ (fuel : Nat) (cs : List Value) (x : DataW H × List MemPlace), DataW.trod enc P w base (fun _ => true) held fuel e cs = some x -> ∃ ds, mK w ds cs /\ Q9 l ds)
  {fuel : Nat} {cs : List Value} {x : DataW H × List MemPlace} (h : DataW.trod enc P w base (fun _ => true) held fuel t cs = some x) : ∃ ds, mK w ds cs /\ Q9 [.sl l] ds := by
 rcases DataW.trod_slice hu h with ⟨rfl, _⟩ | ⟨a, len, cap, elems, rest, n, rfl, rfl, -, -, hle, hmax, hlen, hel, hrest, -⟩
 ·exact ⟨[.v (.slice none 0 0)], .cons (.v rfl) .nil, .cons (.nil l) .nil⟩
 ·obtain ⟨ds, vs, k1, k2, k3⟩ := sR (a := a) hc (hr n) len 0 (fun j _ hj => by rw [hel j (by omega)]; simp; omega)
  have hsh : Q9 [.sl l] [DV.lst l.length len ds] := .cons (.sl k3 (by omega) hs) .nil
  by_cases hcap : cap = 0
  ·subst hcap
   have : len = 0 := by omega
   subst this
   have hd : ds = [] := by cases k3; rfl
   subst hd
   exact ⟨_, .cons (.emp _ a hs) .nil, hsh⟩
  ·have hfirst : ∃ v, w.cell? (a.add (0 * P.cellsOf e)) = some v := by
    have : ∃ x, ((w.cells? base (a.add (0 * P.cellsOf e)) (P.cellsOf e)).bind (DataW.trod enc P w base (fun _ => true) held n e)) = some x := by
     by_cases hl : 0 < len
     ·rw [hel 0 hl]; exact ⟨elems[0], by simp⟩
     ·obtain ⟨hr1, hr2⟩ := hrest rfl
      have := hr2 0 (by omega)
      have e0 : len = 0 := by omega
      subst e0
      simp only [Nat.zero_add] at this
      rw [this]; exact ⟨rest[0], by simp⟩
    obtain ⟨x, hx⟩ := this
    simp only [Option.bind_eq_some_iff] at hx
    obtain ⟨cs, k1, _⟩ := hx
    obtain ⟨kl, kc⟩ := oY k1
    have h0' : 0 < cs.length := by omega
    refine ⟨cs[0], ?_⟩
    have := kc 0 cs[0] (by simp)
    simpa [Addr.add] using this
   obtain ⟨v0, hv0⟩ := hfirst
   rw [Nat.zero_mul, show a.add 0 = a from rfl] at hv0
   have hsp := aGK hv0
   have hb := aGV hv0
   obtain ⟨b, off, spot⟩ := a
   simp only at hsp hb
   subst hsp
   refine ⟨_, .cons (.lst hb (by rw [k3.length]) hle hs (fun j v e => ?_) k2) .nil, hsh⟩
   have := k1 j v e
   rw [Nat.zero_mul, Nat.zero_add] at this
   have e2 : (⟨b, off, none⟩ : Addr).add j = ⟨b, off + j, none⟩ := by
    unfold Addr.add; split
    ·rename_i h; subst h; rfl
    ·rfl
   rw [e2] at this; exact this
mutual
theorem iC : ∀ {t : TypeId} {l : List Sh}, Typ P t l -> ∀ (fuel : Nat) (cs : List Value) (x : DataW H × List MemPlace), DataW.trod enc P w base (fun _ => true) held fuel t cs = some x -> ∃ ds, mK w ds cs /\ Q9 l ds
 | _, _, .bool hu, fuel, cs, x, h => by
  obtain ⟨b, rfl, -⟩ := DataW.trod_bool hu h
  exact ⟨_, .cons (.v rfl) .nil, .cons (.bool b) .nil⟩
 | _, _, .int hu, fuel, cs, x, h => by
  obtain ⟨n, rfl, -, hw⟩ := DataW.trod_int hu h
  simp only [Lit.wf, Bool.and_eq_true, decide_eq_true_eq] at hw
  exact ⟨_, .cons (.v rfl) .nil, .cons (.int n hw.1 hw.2) .nil⟩
 | _, _, .str hu, fuel, cs, x, h => by
  obtain ⟨s, rfl, -, hs⟩ := DataW.trod_string hu h
  exact ⟨_, .cons (.v rfl) .nil, .cons (.str s hs) .nil⟩
 | _, _, .sl hu he hc h0 hs, fuel, cs, x, h => aLJ hu hc h0 hs (iC he) h
 | _, _, .struct (l := l) hu hf hc, fuel, cs, x, h => by
  obtain ⟨xs, n, rfl, rfl, hl, hn, hx⟩ := DataW.trod_struct hu h
  obtain ⟨ds, k1, k2⟩ := aB4 hf n cs (fun i f e => by
   rw [hx i f (by simpa using e)]
   have hi : i < xs.length := by
    rw [hn]
    rcases Nat.lt_or_ge i _ with h' | h'
    ·exact h'
    ·rw [List.getElem?_eq_none (by simpa using h')] at e; cases e
   exact ⟨xs[i], by simp⟩) (by rw [hl, hc]; omega)
  rw [List.drop_zero, List.take_of_length_le (by rw [hl, hc]; exact Nat.le_refl _)] at k1
  exact ⟨ds, k1, k2⟩
theorem aB4 : ∀ {fs : List Field} {n : Nat} {l : List Sh}, tK P fs n l -> ∀ (fuel : Nat) (cs : List Value),
  (∀ (i : Nat) f, fs[i]? = some f -> ∃ x, DataW.trod enc P w base (fun _ => true) held fuel f.type ((cs.drop f.offset).take (P.cellsOf f.type)) = some x) -> n + l.length <= cs.length →
  ∃ ds, mK w ds ((cs.drop n).take l.length) /\ Q9 l ds
 | _, _, _, .nil, fuel, cs, _, _ => ⟨[], by simp; exact .nil, .nil⟩
 | _, _, _, .cons (l := l) (l' := l') ho ht hc hs, fuel, cs, h, hl => by
  obtain ⟨x, hx⟩ := h 0 _ rfl
  rw [ho, hc] at hx
  obtain ⟨d1, k1, k2⟩ := iC ht fuel _ x hx
  rw [List.length_append] at hl
  obtain ⟨d2, g1, g2⟩ := aB4 hs fuel cs (fun i f e => h (i + 1) f e) (by omega)
  refine ⟨d1 ++ d2, ?_, k2.append g2⟩
  rw [List.length_append, List.take_add, List.drop_drop]
  exact k1.append g1
end
def aVR : Option TypeDesc -> Bool
 | some .bool => true
 | some (.int _) => true
 | some .string => true
 | some (.slice _) => true
 | _ => false
theorem aH2 {W0 : World} {b0 : Nat} {t : TypeId} {s : Sh} {v : Value} {d : DataW H} {p : List MemPlace} (hT : Typ P t [s]) (hu : aVR (P.underlying t) = true) (hv : Value.okWide P W0 .any b0 t v)
  (h : DataW.Trod enc P w base (fun _ => true) held t v d p) : ∃ ds, DW w ds v /\ zY s ds := by
 obtain ⟨fuel, h⟩ := h
 obtain ⟨ds, k1, k2⟩ := iC hT fuel _ _ h
 have hna : ∀ cs, v ≠ .agg cs := by
  intro cs e
  subst e
  unfold Value.okWide at hv
  unfold aVR at hu
  split at hu <;> rename_i hq <;> first | (cases hu; done) | (rw [hq] at hv; simp [Cell.okWide, Cell.ok, hq] at hv)
 have hc : v.cells.toList = [v] := by
  unfold Value.cells
  split
  ·exact absurd rfl (hna _)
  ·rfl
 rw [hc] at k1
 cases k2 with
 | cons k2 k3 =>
  cases k1 with
  | cons k1 _ => exact ⟨_, k1, k2⟩
theorem aH4 {W0 : World} {b0 : Nat} {t : TypeId} {l : List Sh} {fs : Array Field} {v : Value} {d : DataW H} {p : List MemPlace} (hT : Typ P t l) (hu : P.underlying t = some (.struct fs)) (hv : Value.okWide P W0 .any b0 t v)
  (h : DataW.Trod enc P w base (fun _ => true) held t v d p) : ∃ ds, DW w (.agg ds) v /\ Q9 l ds := by
 obtain ⟨fuel, h⟩ := h
 obtain ⟨ds, k1, k2⟩ := iC hT fuel _ _ h
 unfold Value.okWide at hv
 rw [hu] at hv
 obtain ⟨cs, rfl, _, _⟩ := hv
 exact ⟨ds, .agg k1, k2⟩
end
end Go.Am
namespace Go.Pm
open Go.RowKit Go.Am
mutual
def qL : Sh -> DV -> PV
 | .sl l, .v _ => .lst .no l.length 0 []
 | .sl l, .lst es n cs => .lst .no es n (pvC l l cs)
 | _, .v x => .v x
 | _, _ => .junk
def pvC : List Sh -> List Sh -> List DV -> List PV
 | _, _, [] => []
 | l, [], d :: ds => match l with
  | [] => []
  | s :: r => qL s d :: pvC l r ds
 | l, s :: r, d :: ds => qL s d :: pvC l r ds
end
def pvs : List Sh -> List DV -> List PV
 | [], _ => []
 | _, [] => []
 | s :: r, d :: ds => qL s d :: pvs r ds
theorem uC (l : List Sh) : ∀ (r : List Sh) (a b : List DV), a.length = r.length -> pvC l r (a ++ b) = pvs r a ++ pvC l [] b
 | [], [], b, _ => rfl
 | s :: r, d :: a, b, h => by
  simp only [List.cons_append, pvC, pvs]
  rw [uC l r a b (by simpa using h)]
theorem aC7 (l : List Sh) (h : l ≠ []) (ds : List DV) : pvC l [] ds = pvC l l ds := by
 cases l with
 | nil => exact absurd rfl h
 | cons s r => cases ds <;> simp [pvC]
def cU (cx : Cx) (ng : Nat) (R : List (List Value × Nat)) : Prop := ∀ (i : Nat) vs es, R[i]? = some (vs, es) -> cx.role (ng + i) = .im vs
theorem cU.left {cx : Cx} {ng : Nat} {R Y : List (List Value × Nat)} (h : cU cx ng (R ++ Y)) : cU cx ng R := fun i vs es e => h i vs es (by
 rw [List.getElem?_append_left]
 ·exact e
 ·rcases Nat.lt_or_ge i R.length with hx | hx
  ·exact hx
  ·rw [List.getElem?_eq_none hx] at e; cases e)
mutual
theorem aIC (ng : Nat) : ∀ (d : DV) (R : List (List Value × Nat)), ∃ Y, (X3 ng d R).2 = R ++ Y
 | .v x, R => ⟨[], by simp [X3]⟩
 | .lst es k cs, R => by
  obtain ⟨Y, hY⟩ := S0 ng cs R
  exact ⟨Y ++ [((u7 ng cs R).1, es)], by simp only [X3]; rw [hY, List.append_assoc]⟩
 | .agg cs, R => by
  obtain ⟨Y, hY⟩ := S0 ng cs R
  exact ⟨Y, by simp only [X3]; exact hY⟩
theorem S0 (ng : Nat) : ∀ (ds : List DV) (R : List (List Value × Nat)), ∃ Y, (u7 ng ds R).2 = R ++ Y
 | [], R => ⟨[], by simp [u7]⟩
 | d :: ds, R => by
  obtain ⟨Y, hY⟩ := aIC ng d R
  obtain ⟨Y', hY'⟩ := S0 ng ds (X3 ng d R).2
  exact ⟨Y ++ Y', by simp only [u7]; rw [hY', hY, List.append_assoc]⟩
end
theorem yO (ng : Nat) : ∀ (a b : List DV) (R : List (List Value × Nat)), u7 ng (a ++ b) R = ((u7 ng a R).1 ++ (u7 ng b (u7 ng a R).2).1, (u7 ng b (u7 ng a R).2).2)
 | [], b, R => by simp [u7]
 | d :: a, b, R => by
  simp only [List.cons_append, u7]
  rw [yO ng a b]
theorem wZ (ng : Nat) : ∀ (a : List DV) (R : List (List Value × Nat)), (u7 ng a R).1.length = a.length
 | [], R => by simp [u7]
 | d :: a, R => by simp only [u7, List.length_cons]; rw [wZ ng a]
mutual
theorem aGZ {cx : Cx} (ng : Nat) : ∀ {s : Sh} {d : DV}, zY s d -> ∀ R, cU cx ng (X3 ng d R).2 -> PR cx (qL s d) (X3 ng d R).1
 | _, _, .bool b, R, _ => by simp only [X3, qL]; exact .v rfl
 | _, _, .int n _ _, R, _ => by simp only [X3, qL]; exact .v rfl
 | _, _, .str s _, R, _ => by simp only [X3, qL]; exact .v rfl
 | _, _, .nil l, R, _ => by simp only [X3, qL]; exact .l0 _ none 0 (.inl rfl)
 | _, _, .sl (l := l) (n := n) (cs := cs) h hn hl, R, hH => by
  simp only [X3] at hH ⊢
  have hrole := hH (u7 ng cs R).2.length (u7 ng cs R).1 l.length (by simp)
  obtain ⟨k1, k2⟩ := zR ng h R hH.left
  simp only [qL]
  have hlen : (pvC l l cs).length = (u7 ng cs R).1.length := k1.length
  refine .lno hrole (by rw [hlen, Nat.zero_add]; exact Nat.le_refl _) ?_ ?_ (by rw [aGG _ _ hl]; exact Nat.le_refl _) (.inr (O2 _ _ hl))
  ·rw [List.drop_zero, List.take_of_length_le (by rw [hlen]; exact Nat.le_refl _)]; exact k1
  ·rw [hlen, wZ, h.length]
theorem wA {cx : Cx} (ng : Nat) : ∀ {l : List Sh} {ds : List DV}, Q9 l ds -> ∀ R, cU cx ng (u7 ng ds R).2 -> l9 cx (pvs l ds) (u7 ng ds R).1
 | _, _, .nil, R, _ => by simp only [u7, pvs]; exact .nil
 | _, _, .cons (d := d) (l' := ds) h hs, R, hH => by
  simp only [u7] at hH ⊢
  obtain ⟨Y, hY⟩ := S0 ng ds (X3 ng d R).2
  refine .cons (aGZ ng h R ?_) (wA ng hs _ hH)
  rw [hY] at hH
  exact hH.left
theorem zR {cx : Cx} (ng : Nat) : ∀ {l : List Sh} {n : Nat} {cs : List DV}, Z8 l n cs -> ∀ R, cU cx ng (u7 ng cs R).2 -> l9 cx (pvC l l cs) (u7 ng cs R).1 /\ True
 | _, _, _, .nil l, R, _ => by
  refine ⟨?_, trivial⟩
  have : pvC l l [] = [] := by cases l <;> rfl
  rw [this]; simp only [u7]; exact .nil
 | _, _, _, .cons (l := l) (r := r) (cs := cs) h hs, R, hH => by
  refine ⟨?_, trivial⟩
  rw [yO] at hH ⊢
  simp only at hH ⊢
  obtain ⟨Y, hY⟩ := S0 ng cs (u7 ng r R).2
  have h1 := wA (cx := cx) ng h R (by rw [hY] at hH; exact hH.left)
  have h2 := (zR (cx := cx) ng hs _ hH).1
  have e : pvC l l (r ++ cs) = pvs l r ++ pvC l l cs := by
   rw [uC l l r cs h.length]
   by_cases hl : l = []
   ·subst hl
    cases cs with
    | nil => rfl
    | cons c cs => rfl
   ·rw [aC7 l hl]
  rw [e]
  exact h1.append h2
end
def cxR (ng : Nat) (R : List (List Value × Nat)) : Cx where
 at_ := fun k i => if k = 0 /\ i < ng then some i else none
 role := fun r => if r < ng then .ob 0 r else match R[r - ng]? with
  | some (vs, _) => .im vs
  | none => .none
 tk := fun _ _ => none
 nk := 1
theorem aE3 (ng : Nat) (R : List (List Value × Nat)) : cU (cxR ng R) ng R := fun i vs es e => by
 unfold cxR
 dsimp only
 rw [if_neg (by omega), Nat.add_sub_cancel_left, e]
theorem aNU {ng : Nat} {R : List (List Value × Nat)} {i : Nat} {vs : List Value} {es : Nat} (h : R[i]? = some (vs, es)) : (bR ng R).get (ng + i) = some (.row vs .ro es none) := by
 have hi : i < R.length := by
  rcases Nat.lt_or_ge i R.length with hx | hx
  ·exact hx
  ·rw [List.getElem?_eq_none hx] at h; cases h
 rw [b8.get_def]
 unfold bR
 dsimp only
 have h1 : Nat.blt (ng + i) (ng + R.length) = true := by rw [Nat.blt_eq]; omega
 have h2 : Nat.blt (ng + i) ng = false := by
  cases e : Nat.blt (ng + i) ng with
  | false => rfl
  | true => rw [Nat.blt_eq] at e; omega
 rw [h1, cond_true, h2]
 dsimp only
 rw [show Nat.sub (ng + i) ng = i from Nat.add_sub_cancel_left ng i, oK, h]
theorem aT0 {E : d9} {R : List (List Value × Nat)} (hw : Wf (bR E.ng R)) : PG E (cxR E.ng R) (fun _ _ => none) (bR E.ng R) where
 obj := fun k i o h => by cases h
 at_ := fun k i r h => by
  unfold cxR at h ⊢
  dsimp only at h ⊢
  split at h
  ·rename_i hc
   obtain ⟨hk, hi⟩ := hc
   subst hk
   cases h
   refine ⟨?_, ?_⟩
   ·show i < E.ng + R.length; omega
   ·exact .inl (if_pos hi)
  ·cases h
 nd := fun k i o r h => by cases h
 dd := fun r h => by
  unfold cxR at h
  dsimp only at h
  split at h
  ·cases h
  ·split at h <;> cases h
 im := fun r cells h => by
  unfold cxR at h
  dsimp only at h
  split at h
  ·cases h
  ·rename_i hr
   split at h
   ·rename_i vs es he
    cases h
    refine ⟨?_, .ro, es, none, ?_⟩
    ·show r < E.ng + R.length
     rcases Nat.lt_or_ge (r - E.ng) R.length with hx | hx
     ·omega
     ·rw [List.getElem?_eq_none hx] at he; cases he
    ·have := aNU (ng := E.ng) he
     rwa [show E.ng + (r - E.ng) = r by omega] at this
   ·cases h
 mks := fun r h => by
  unfold cxR at h
  dsimp only at h
  split at h
  ·cases h
  ·split at h <;> cases h
 keys := fun k i hk => by
  unfold cxR at hk ⊢
  dsimp only at hk ⊢
  exact ⟨if_neg (by omega), rfl⟩
 tkin := fun k i k' i' r n es n' es' h => by cases h
 glob := fun g hg => by
  unfold cxR
  dsimp only
  exact if_pos ⟨rfl, hg⟩
 wf := hw
 pos := Nat.zero_lt_one
theorem aGE {E : d9} {P : Program} {f : Nat} {x : lO} {ds : List DV} {args : List PV} {vargs : List Value} {W : World} {v : Bool} (hE : c8 E P) (hf : E.fn f = some x) (hW : E.ng <= W.heap.size)
  (hd : mK W ds vargs) (hp : ∀ cx, cU cx E.ng (u7 E.ng ds []).2 -> l9 cx args (u7 E.ng ds []).1)
  (h : PT E P f args (fun _ _ => none) (fun x _ => x = .v (.bool v))) :
  Calls P f vargs.toArray W fun e W' => e = .returned (.bool v) /\ (∀ b, b < W.heap.size -> W'.heap[b]? = W.heap[b]?) /\ W.heap.size <= W'.heap.size /\ W'.os = W.os /\ W'.tape = W.tape /\ W'.output = W.output := by
 obtain ⟨Y, X, h1, h2, h3, h4⟩ := eH E.ng hd [] [] rfl
 simp only [List.nil_append] at h1 h4
 have hPR := hp (cxR E.ng (u7 E.ng ds []).2) (aE3 _ _)
 generalize hq : u7 E.ng ds [] = q at h1 h4 hPR
 obtain ⟨vs, R⟩ := q
 simp only at h1 h4 hPR
 subst h1
 obtain ⟨k1, k2⟩ := h4 (fZ E.ng X) (fun i t e => by
  unfold fZ
  rw [if_neg (by omega), Nat.add_sub_cancel_left, e])
 have hrel : r6 E (fZ E.ng X) (bR E.ng R) W := aUG h2 hW h3 (fun i t cs es e e' => k2 i t cs es e e')
 obtain ⟨v1, m1, cx1, x1, M1, hc, -, -, hpr, rfl⟩ := h _ _ _ (aT0 hrel.wf) hPR
 obtain ⟨rfl, -⟩ := hpr.flat_eq
 have hu := hc.ok _ _ _ hrel k1
 rw [v9 hE hf] at hu
 have hu' : CallsIn Fence.wide 0 P f vargs.toArray W (C7 (bD E (fZ E.ng X) (bR E.ng R) W (.bool v) m1)) := hu
 refine (callsIn_wide.1 hu').mono fun e W' he => ?_
 cases e with
 | returned v' =>
  obtain ⟨ι1, hvr, hst⟩ := he
  cases hvr
  exact ⟨rfl, fun b hb => hst.keep b hb aP7, hst.size, hst.os, hst.tape, hst.output⟩
 | panicked _ => exact he.elim
 | outgrown => exact he.elim
theorem r8.of_pure {E : d9} {P : Program} {f : Nat} {x : lO} {v : Value} (hE : c8 E P) (hf : E.fn f = some x) (h : y0 P E.ng f [] v) (hv : flat v = true) : r8 E P f [] (.v v) := by
 intro M cx m vargs hpg hargs
 cases hargs
 refine ⟨v, m, cx, .v v, M, ⟨fun ι w args' hR hA => ?_, fun _ => d4.refl _⟩, hpg, M3.refl _ _, .v hv, rfl, rfl⟩
 cases hA
 refine (h w [] hR.ng .nil).mono fun v' w1 ⟨e, hb, hs, h1, h2, h3⟩ => ?_
 subst e
 have hR' : r6 E ι m w1 := hR.more hb hs
 exact ⟨ι, VR.flat hv, ⟨Am.Sub.refl _, (fun b t e n => by rw [e] at n; cases n), hR', fun _ _ h => h, fun b hb' _ => hb b hb', hs, Nat.le_refl _, h1, h2, h3⟩⟩
theorem aL5 {α : Type} {B : α -> Prop} {enc : α -> List PV} {l : List Sh} (hl : l ≠ []) (hx : ∀ ds, Q9 l ds -> ∃ x : α, pvs l ds = enc x /\ B x) : ∀ {n : Nat} {cs : List DV}, Z8 l n cs -> ∃ xs : List α, xs.length = n /\ pvC l l cs = xs.flatMap enc /\ ∀ x ∈ xs, B x := by
 intro n
 induction n with
 | zero =>
  intro cs h
  cases h
  refine ⟨[], rfl, ?_, fun x hx => by cases hx⟩
  cases l <;> rfl
 | succ n ih =>
  intro cs h
  cases h with
  | cons h hs =>
   obtain ⟨x, h1, h2⟩ := hx _ h
   obtain ⟨xs, g1, g2, g3⟩ := ih hs
   refine ⟨x :: xs, by rw [List.length_cons, g1], ?_, fun y hy => ?_⟩
   ·rw [uC l l _ _ h.length, aC7 l hl, h1, g2, List.flatMap_cons]
   ·rcases List.mem_cons.1 hy with rfl | hy
    ·exact h2
    ·exact g3 y hy
theorem aMP {α : Type} {B : α -> Prop} {enc : α -> List PV} {l : List Sh} (hl : l ≠ []) (hx : ∀ ds, Q9 l ds -> ∃ x : α, pvs l ds = enc x /\ B x) {d : DV} (h : zY (.sl l) d) :
  ∃ xs : List α, qL (.sl l) d = .lst .no l.length xs.length (xs.flatMap enc) /\ xs.length <= maxLen /\ ∀ x ∈ xs, B x := by
 cases h with
 | nil => exact ⟨[], by simp only [qL]; rfl, Nat.zero_le _, fun x hx => by cases hx⟩
 | sl h hn _ =>
  obtain ⟨xs, g1, g2, g3⟩ := aL5 hl hx h
  subst g1
  exact ⟨xs, by simp only [qL]; rw [g2], hn, g3⟩
theorem aD3 {k : IntKind} {d : DV} (h : zY (.int k) d) : ∃ n : Int, qL (.int k) d = .v (.int k n) /\ k.min <= n /\ n <= k.max := by
 cases h with
 | int n h1 h2 => exact ⟨n, by simp only [qL], h1, h2⟩
theorem aOK {d : DV} (h : zY .str d) : ∃ s : ByteArray, qL .str d = .v (.string s) /\ s.size <= maxLen := by
 cases h with
 | str s h => exact ⟨s, by simp only [qL], h⟩
theorem aNX {cx : Cx} {ng : Nat} {l : List Sh} {ds : List DV} {R : List (List Value × Nat)} (h : Q9 l ds) (hH : cU cx ng (X3 ng (.agg ds) R).2) : PR cx (.agg (pvs l ds)) (X3 ng (.agg ds) R).1 := by
 simp only [X3] at hH ⊢
 exact .agg (wA ng h R hH)
end Go.Pm