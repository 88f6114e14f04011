/- TableMoves holds. Part 23 of 29; no condition. -/
import Derived.Test.YthjlhgjnjhmfbaaGreatDoorM22
import Derived.ChangeArms
set_option linter.unusedVariables false
set_option linter.unusedSimpArgs false
set_option maxHeartbeats 4000000
set_option maxRecDepth 100000
noncomputable section
namespace Go.Proofs.YthjlhgjnjhmfbaaGreatDoor
noncomputable section
open Go Go.Am Go.Pm
abbrev mv (d n : Nat) : RI := oV d (rmv (T n))
abbrev mw (d n : Nat) : RD := dV d (rmv (T n))
abbrev zE7 : List PV := [.v (.int .i64 0), .v (.int .i64 0), .v (.string ⟨#[]⟩), .v (.int .i64 0), .v (.int .i64 0), .lst .full 0 0 [], .lst .full 0 0 []]
def body3 : Code := match Tryz.f3.body with | some c => c | none => .skip
abbrev c3_31 : RC := .seq (.ops [oV 6 (rmv (.const (.bool false)))]) (.seq (.ops [oC 16 (.func 5) [],mv 7 16]) (.seq (.seq (.ops [mv 17 0,oC 18 (.func 6) [(T 17)],mv 19 18,oG 20 19 false (rmv (T 1)),oG 21 19 false (rlenS (T 20)),oG 22 19 false (rbin env .gtr 3 false true (T 21) (K 100)),oV 23 (rpick (T 19) (.const (.bool true)) (T 22)),mv 24 23,oG 25 24 false (rmv (T 2)),oG 26 24 false (rlenS (T 25)),oG 27 24 false (rbin env .gtr 3 false true (T 26) (K 100)),oV 28 (rpick (T 24) (.const (.bool true)) (T 27))]) (.cond (rX 28) (.seq (.ops [mv 29 7,mv 6 29]) .ret) .skip)) (.seq (.ops [mv 31 0,mv 32 1,mv 33 2,oC 34 (.func 7) [(T 31), (T 32), (T 33)],mv 30 34,oV 35 (rext (T 30) 0),oV 36 (rext (T 30) 1),mv 8 35,mv 9 36]) (.seq (.seq (.ops [mv 37 9,oV 38 (rbin env .neq 25 false true (T 37) (K 0))]) (.cond (rX 38) (.seq (.ops [mv 39 7,mv 40 39,oG 41 40 true (rmv (T 8)),oG 42 40 true (rlen (T 41)),oG 43 40 true (rbin env .eql 3 false true (T 42) (K 0)),oV 44 (rpick (T 40) (T 43) (.const (.bool false))),mv 6 44]) .ret) .skip)) (.seq (.ops [mv 46 0,mv 47 1,oC 48 (.func 8) [(T 46), (T 47)],mv 45 48,oV 49 (rext (T 45) 0),oV 50 (rext (T 45) 1),oU 10 (rnew [.v (.int .i64 0), .v (.int .i64 0), .lst .full 0 0 []]),oS (rstore 3 (T 10) (T 49)),mv 11 50]) (.seq (.ops [mv 52 8,mv 53 2,oC 54 (.func 8) [(T 52), (T 53)],mv 51 54,oV 55 (rext (T 51) 0),oV 56 (rext (T 51) 1),oU 12 (rnew [.v (.int .i64 0), .v (.int .i64 0), .lst .full 0 0 []]),oS (rstore 3 (T 12) (T 55)),mv 13 56]) (.seq (.seq (.ops [mv 57 11,oV 58 (run' .not (T 57)),mv 59 58,oG 60 59 false (rmv (T 13)),oG 61 59 false (run' .not (T 60)),oV 62 (rpick (T 59) (.const (.bool true)) (T 61)),mv 63 62,oG 64 63 false (rload true 3 (T 10)),oG 65 63 false (rload true 3 (T 12)),oCG 66 63 false (.func 9) [(T 64), (T 65)],oG 67 63 false (run' .not (T 66)),oV 68 (rpick (T 63) (.const (.bool true)) (T 67)),mv 69 68,oG 70 69 false (rmv (T 0)),oG 71 69 false (rmv (T 1)),oCG 72 69 false (.func 10) [(T 70), (T 71)],oG 73 69 false (rlen (T 72)),oG 74 69 false (rmv (T 8)),oG 75 69 false (rmv (T 2)),oCG 76 69 false (.func 10) [(T 74), (T 75)],oG 77 69 false (rlen (T 76)),oG 78 69 false (rbin env .neq 3 false false (T 73) (T 77)),oV 79 (rpick (T 69) (.const (.bool true)) (T 78)),mv 80 79,oG 81 80 false (rmv (T 8)),oG 82 80 false (rlen (T 81)),oG 83 80 false (rmv (T 0)),oG 84 80 false (rlen (T 83)),oG 85 80 false (rbin env .neq 3 false false (T 82) (T 84)),oV 86 (rpick (T 80) (.const (.bool true)) (T 85))]) (.cond (rX 86) (.seq (.ops [oV 6 (rmv (.const (.bool false)))]) .ret) .skip)) (.seq (.ops [mv 88 8,mv 89 2,mv 90 1,oC 91 (.func 7) [(T 88), (T 89), (T 90)],mv 87 91,oV 92 (rext (T 87) 0),oV 93 (rext (T 87) 1),mv 14 92,mv 15 93]) (.seq (.ops [mv 94 7,mv 95 94,oG 96 95 true (rmv (T 15)),oG 97 95 true (rbin env .eql 25 false true (T 96) (K 0)),oV 98 (rpick (T 95) (T 97) (.const (.bool false))),mv 99 98,oG 100 99 true (rmv (T 14)),oG 101 99 true (rmv (T 0)),oCG 102 99 true (.func 11) [(T 100), (T 101)],oV 103 (rpick (T 99) (T 102) (.const (.bool false))),mv 6 103]) .ret)))))))))
theorem fn3 : env.fn 3 = some ⟨104, [.tmp 6], body3⟩ := by kernel_rfl
theorem comp3 : comp env body3 = c3_31 := by kernel_rfl
def body5 : Code := match Tryz.f5.body with | some c => c | none => .skip
theorem fn5 : env.fn 5 = some ⟨53, [.tmp 0], body5⟩ := by kernel_rfl
def body6 : Code := match Tryz.f6.body with | some c => c | none => .skip
abbrev c6_13 : RC := .seq (.seq (.ops [mv 4 3,mv 5 0,oV 6 (rlen (T 5)),oV 7 (rbin env .lss 3 false false (T 4) (T 6)),mv 8 7,oG 9 8 true (rmv (T 3)),oG 10 8 true (rbin env .lss 3 false true (T 9) (K 61)),oV 11 (rpick (T 8) (T 10) (.const (.bool false)))]) (.cond (rX 11) .skip (.exit 0))) (.seq (.block 1 (.seq (.ops [mv 14 0,mv 15 3,oV 16 (riaddr 4 (T 14) (T 15)),oV 17 (rfaddr 0 (T 16)),oV 18 (rload false 1 (T 17)),oV 19 (rlenS (T 18)),oV 20 (rbin env .gtr 3 false true (T 19) (K 100)),mv 21 20,oG 22 21 false (rmv (T 0)),oG 23 21 false (rmv (T 3)),oG 24 21 false (riaddr 4 (T 22) (T 23)),oG 25 21 false (rfaddr 1 (T 24)),oG 26 21 false (rload true 3 (T 25)),oCG 27 21 false (.func 23) [(T 26)],oV 28 (rpick (T 21) (.const (.bool true)) (T 27))]) (.cond (rX 28) (.seq (.ops [oV 2 (rmv (.const (.bool true)))]) .ret) .skip))) (.ops [mv 12 3,oV 13 (rbin env .add 3 false true (T 12) (K 1)),mv 3 13]))
abbrev c6_20 : RC := .seq (.ops [oV 2 (rmv (.const (.bool false)))]) (.seq (.seq (.ops [oV 3 (rmv (K 0))]) (.block 0 (.loop c6_13))) (.seq (.ops [mv 29 0,oV 30 (rlen (T 29)),oV 31 (rbin env .gtr 3 false true (T 30) (K 60)),mv 2 31]) .ret))
theorem fn6 : env.fn 6 = some ⟨32, [.tmp 2], body6⟩ := by kernel_rfl
theorem comp6 : comp env body6 = c6_20 := by kernel_rfl
def body7 : Code := match Tryz.f7.body with | some c => c | none => .skip
abbrev c7_54 : RC := .seq (.ops [oV 66 (rbin env .lss 3 false false (T 65) (T 64))]) (.seq (.cond (rX 66) .skip (.exit 1)) (.seq (.block 2 (.seq (.ops [mv 67 65,mv 14 67]) (.seq (.ops [mv 68 13,mv 69 14,oV 70 (riaddr 4 (T 68) (T 69)),mv 15 70]) (.seq (.seq (.ops [mv 71 15,oV 72 (rnil (T 71)),oV 73 (rfaddr 0 (T 72)),oV 74 (rload false 1 (T 73)),mv 75 1,oV 76 (rbin env .neq 9 false false (T 74) (T 75)),mv 77 76,oG 78 77 true (rmv (T 1)),oG 79 77 true (rmv (T 15)),oG 80 77 true (rnil (T 79)),oG 81 77 true (rfaddr 0 (T 80)),oG 82 77 true (rload false 1 (T 81)),oCG 83 77 true (.func 17) [(T 78), (T 82)],oG 84 77 true (run' .not (T 83)),oV 85 (rpick (T 77) (T 84) (.const (.bool false)))]) (.cond (rX 85) (.exit 2) .skip)) (.seq (.ops [mv 86 15,mv 87 2,mv 88 15,oV 89 (rnil (T 88)),oV 90 (rfaddr 0 (T 89)),oV 91 (rload false 1 (T 90)),mv 92 1,oV 93 (rlenS (T 92)),oV 94 (rsliceS (T 91) (some (T 93)) none),oV 95 (rbin env .add 9 false false (T 87) (T 94)),oV 96 (rnil (T 86)),oV 97 (rfaddr 0 (T 96)),oS (rstore 1 (T 97) (T 95))]) (.seq (.ops [mv 98 15,oV 99 (rnil (T 98)),oV 100 (rfaddr 0 (T 99)),oV 101 (rload false 1 (T 100)),oC 102 (.func 24) [(T 101)],oV 103 (rbin env .neq 25 false true (T 102) (K 0))]) (.cond (rX 103) (.seq (.ops [oV 6 (rmv (.const (.slice none 0 0))),oV 7 (rmv (K 2))]) .ret) .skip))))))) (.ops [oV 104 (rbin env .add 3 false true (T 65) (K 1)),mv 65 104])))
abbrev c7_69 : RC := .seq (.ops [oV 6 (rmv (.const (.slice none 0 0))),oV 7 (rmv (K 0))]) (.seq (.seq (.ops [mv 16 0,oC 17 (.func 15) [(T 16)],oV 18 (rbin env .neq 25 false true (T 17) (K 0)),mv 19 18,oG 20 19 false (rmv (T 1)),oCG 21 19 false (.func 24) [(T 20)],oG 22 19 false (rbin env .neq 25 false true (T 21) (K 0)),oV 23 (rpick (T 19) (.const (.bool true)) (T 22)),mv 24 23,oG 25 24 false (rmv (T 2)),oCG 26 24 false (.func 24) [(T 25)],oG 27 24 false (rbin env .neq 25 false true (T 26) (K 0)),oV 28 (rpick (T 24) (.const (.bool true)) (T 27))]) (.cond (rX 28) (.seq (.ops [oV 6 (rmv (.const (.slice none 0 0))),oV 7 (rmv (K 2))]) .ret) .skip)) (.seq (.ops [mv 30 0,mv 31 1,oC 32 (.func 25) [(T 30), (T 31)],mv 29 32,oV 33 (rext (T 29) 0),oV 34 (rext (T 29) 1),mv 8 33,mv 9 34]) (.seq (.ops [mv 36 0,mv 37 2,oC 38 (.func 25) [(T 36), (T 37)],mv 35 38,oV 39 (rext (T 35) 0),oV 40 (rext (T 35) 1),mv 10 39,mv 11 40]) (.seq (.block 0 (.seq (.ops [mv 42 9,oV 43 (run' .not (T 42)),mv 41 43]) (.cond (rX 41) (.seq (.ops [oV 6 (rmv (.const (.slice none 0 0))),oV 7 (rmv (K 6))]) .ret) (.seq (.ops [mv 45 2,mv 46 1,oV 47 (rbin env .eql 9 false false (T 45) (T 46)),mv 48 47,oG 49 48 false (rmv (T 1)),oG 50 48 false (rmv (T 2)),oCG 51 48 false (.func 17) [(T 49), (T 50)],oV 52 (rpick (T 48) (.const (.bool true)) (T 51)),mv 44 52]) (.cond (rX 44) (.seq (.ops [oV 6 (rmv (.const (.slice none 0 0))),oV 7 (rmv (K 13))]) .ret) (.seq (.ops [mv 54 11,mv 53 54]) (.cond (rX 53) (.seq (.ops [oV 6 (rmv (.const (.slice none 0 0))),oV 7 (rmv (K 7))]) .ret) .skip))))))) (.seq (.seq (.ops [mv 55 0,mv 56 2,oC 57 (.func 26) [(T 55), (T 56)],mv 12 57]) (.seq (.ops [mv 58 12,oV 59 (rbin env .neq 25 false true (T 58) (K 0))]) (.cond (rX 59) (.seq (.ops [mv 60 12,oV 6 (rmv (.const (.slice none 0 0))),mv 7 60]) .ret) .skip))) (.seq (.ops [mv 61 0,oC 62 (.func 27) [(T 61)],mv 13 62]) (.seq (.seq (.ops [mv 63 13,oV 64 (rlen (T 63)),oV 65 (rmv (K 0))]) (.block 1 (.loop c7_54))) (.seq (.ops [mv 105 13,oC 106 (.func 28) [(T 105), (.func 29)]]) (.seq (.ops [mv 107 13,mv 6 107,oV 7 (rmv (K 0))]) .ret)))))))))
theorem fn7 : env.fn 7 = some ⟨108, [.tmp 6, .tmp 7], body7⟩ := by kernel_rfl
theorem comp7 : comp env body7 = c7_69 := by kernel_rfl
def body8 : Code := match Tryz.f8.body with | some c => c | none => .skip
abbrev c8_11 : RC := .seq (.ops [oU 4 (rnew [.v (.int .i64 0), .v (.int .i64 0), .lst .full 0 0 []]),oV 5 (rmv (.const (.bool false)))]) (.seq (.ops [mv 9 0,mv 10 1,oC 11 (.func 25) [(T 9), (T 10)],mv 8 11,oV 12 (rext (T 8) 0),oV 13 (rext (T 8) 1),mv 6 12,mv 7 13]) (.seq (.seq (.ops [mv 14 7,oV 15 (run' .not (T 14))]) (.cond (rX 15) (.seq (.ops [oV 16 (rbuild [.v (.int .i64 0), .v (.int .i64 0), .lst .full 0 0 []] [(0, 1), (1, 1), (2, 1)] []),oS (rstore 3 (T 4) (T 16)),oV 5 (rmv (.const (.bool false)))]) .ret) .skip)) (.seq (.ops [mv 17 0,mv 18 6,oV 19 (riaddr 4 (T 17) (T 18)),oV 20 (rload true 4 (T 19)),oC 21 (.func 30) [(T 20)],oV 22 (rfield true 3 1 (T 21)),oS (rstore 3 (T 4) (T 22)),oV 5 (rmv (.const (.bool true)))]) .ret)))
theorem fn8 : env.fn 8 = some ⟨23, [.cell 4 30, .tmp 5], body8⟩ := by kernel_rfl
theorem comp8 : comp env body8 = c8_11 := by kernel_rfl
def body9 : Code := match Tryz.f9.body with | some c => c | none => .skip
abbrev c9_3 : RC := .seq (.ops [oU 2 (rbox (T 0)),oU 3 (rbox (T 1)),oV 4 (rmv (.const (.bool false)))]) (.seq (.ops [oV 5 (rfaddr 0 (T 2)),oV 6 (rload false 1 (T 5)),oV 7 (rfaddr 0 (T 3)),oV 8 (rload false 1 (T 7)),oV 9 (rbin env .eql 3 false false (T 6) (T 8)),mv 10 9,oG 11 10 true (rfaddr 1 (T 2)),oG 12 10 true (rload false 1 (T 11)),oG 13 10 true (rfaddr 1 (T 3)),oG 14 10 true (rload false 1 (T 13)),oG 15 10 true (rbin env .eql 3 false false (T 12) (T 14)),oV 16 (rpick (T 10) (T 15) (.const (.bool false))),mv 17 16,oG 18 17 true (rfaddr 2 (T 2)),oG 19 17 true (rload false 1 (T 18)),oG 20 17 true (rfaddr 2 (T 3)),oG 21 17 true (rload false 1 (T 20)),oCG 22 17 true (.func 31) [(T 19), (T 21)],oV 23 (rpick (T 17) (T 22) (.const (.bool false))),mv 4 23]) .ret)
theorem fn9 : env.fn 9 = some ⟨24, [.tmp 4], body9⟩ := by kernel_rfl
theorem comp9 : comp env body9 = c9_3 := by kernel_rfl
def body10 : Code := match Tryz.f10.body with | some c => c | none => .skip
abbrev c10_3 : RC := .seq (.ops [oU 3 (rbox (T 1)),oV 4 (rmv (.const (.slice none 0 0)))]) (.seq (.ops [mv 5 0,oC 6 (.func 27) [(T 5)],oV 7 (rfn 33 [] [(T 3)]),oC 8 (.func 32) [(T 6), (T 7)],mv 4 8]) .ret)
theorem fn10 : env.fn 10 = some ⟨9, [.tmp 4], body10⟩ := by kernel_rfl
theorem comp10 : comp env body10 = c10_3 := by kernel_rfl
def body11 : Code := match Tryz.f11.body with | some c => c | none => .skip
abbrev c11_18 : RC := .seq (.seq (.ops [mv 11 5,mv 12 0,oV 13 (rlen (T 12)),oV 14 (rbin env .lss 3 false false (T 11) (T 13))]) (.cond (rX 14) .skip (.exit 0))) (.seq (.block 1 (.seq (.drawn true [mw 17 0,mw 18 5,dV 19 (riaddr 4 (T 17) (T 18)),dV 20 (rfaddr 0 (T 19)),dV 21 (rload false 1 (T 20)),mw 22 1,mw 23 5,dV 24 (riaddr 4 (T 22) (T 23)),dV 25 (rfaddr 0 (T 24)),dV 26 (rload false 1 (T 25)),dV 27 (rbin env .neq 9 false false (T 21) (T 26)),mw 28 27,dG 29 28 false (rmv (T 0)),dG 30 28 false (rmv (T 5)),dG 31 28 false (riaddr 4 (T 29) (T 30)),dG 32 28 false (rfaddr 1 (T 31)),dG 33 28 false (rload true 3 (T 32)),dG 34 28 false (rmv (T 1)),dG 35 28 false (rmv (T 5)),dG 36 28 false (riaddr 4 (T 34) (T 35)),dG 37 28 false (rfaddr 1 (T 36)),dG 38 28 false (rload true 3 (T 37)),dCG true 39 28 false (.func 9) [(T 33), (T 38)],dG 40 28 false (run' .not (T 39)),dV 41 (rpick (T 28) (.const (.bool true)) (T 40))]) (.cond (rX 41) (.seq (.ops [oV 4 (rmv (.const (.bool false)))]) .ret) .skip))) (.ops [mv 15 5,oV 16 (rbin env .add 3 false true (T 15) (K 1)),mv 5 16]))
abbrev c11_26 : RC := .seq (.ops [oV 4 (rmv (.const (.bool false)))]) (.seq (.seq (.ops [mv 6 0,oV 7 (rlen (T 6)),mv 8 1,oV 9 (rlen (T 8)),oV 10 (rbin env .neq 3 false false (T 7) (T 9))]) (.cond (rX 10) (.seq (.ops [oV 4 (rmv (.const (.bool false)))]) .ret) .skip)) (.seq (.seq (.ops [oV 5 (rmv (K 0))]) (.block 0 (.loop c11_18))) (.seq (.ops [oV 4 (rmv (.const (.bool true)))]) .ret)))
theorem fn11 : env.fn 11 = some ⟨42, [.tmp 4], body11⟩ := by kernel_rfl
theorem comp11 : comp env body11 = c11_26 := by kernel_rfl
def body15 : Code := match Tryz.f15.body with | some c => c | none => .skip
abbrev c15_20 : RC := .seq (.ops [oV 11 (rbin env .lss 3 false false (T 10) (T 9))]) (.seq (.cond (rX 11) .skip (.exit 0)) (.seq (.block 1 (.seq (.ops [mv 12 10,oV 13 (riaddr 4 (T 8) (T 10)),oV 14 (rload true 4 (T 13)),oU 4 (rnew [.v (.string ⟨#[]⟩), .v (.int .i64 0), .v (.int .i64 0), .lst .full 0 0 []]),mv 3 12,oS (rstore 4 (T 4) (T 14))]) (.seq (.drawn true [dV 15 (rfaddr 0 (T 4)),dV 16 (rload false 1 (T 15)),dC true 17 (.func 24) [(T 16)],dV 18 (rbin env .neq 25 false true (T 17) (K 0)),mw 19 18,dG 20 19 false (rfaddr 1 (T 4)),dG 21 19 false (rload true 3 (T 20)),dCG true 22 19 false (.func 35) [(T 21)],dG 23 19 false (rbin env .neq 25 false true (T 22) (K 0)),dV 24 (rpick (T 19) (.const (.bool true)) (T 23)),mw 25 24,dG 26 25 false (rfaddr 1 (T 4)),dG 27 25 false (rfaddr 0 (T 26)),dG 28 25 false (rload false 1 (T 27)),dG 29 25 false (rbin env .eql 3 false true (T 28) (K 3)),dV 30 (rpick (T 25) (.const (.bool true)) (T 29)),mw 31 30,dG 32 31 false (rmv (T 3)),dG 33 31 false (rbin env .gtr 3 false true (T 32) (K 0)),dG 34 31 false (rmv (T 33)),dG 35 34 true (rmv (T 0)),dG 36 34 true (rmv (T 3)),dG 37 34 true (rbin env .sub 3 false true (T 36) (K 1)),dG 38 34 true (riaddr 4 (T 35) (T 37)),dG 39 34 true (rfaddr 0 (T 38)),dG 40 34 true (rload false 1 (T 39)),dG 41 34 true (rfaddr 0 (T 4)),dG 42 34 true (rload false 1 (T 41)),dCG true 43 34 true (.func 36) [(T 40), (T 42)],dG 44 34 true (run' .not (T 43)),dG 45 31 false (rpick (T 34) (T 44) (.const (.bool false))),dV 46 (rpick (T 31) (.const (.bool true)) (T 45)),mw 47 46,dG 48 47 false (rmv (T 0)),dG 49 47 false (rfaddr 0 (T 4)),dG 50 47 false (rload false 1 (T 49)),dCG true 51 47 false (.func 26) [(T 48), (T 50)],dG 52 47 false (rbin env .neq 25 false true (T 51) (K 0)),dV 53 (rpick (T 47) (.const (.bool true)) (T 52))]) (.cond (rX 53) (.seq (.ops [oV 2 (rmv (K 2))]) .ret) .skip)))) (.ops [oV 54 (rbin env .add 3 false true (T 10) (K 1)),mv 10 54])))
abbrev c15_28 : RC := .seq (.ops [oV 2 (rmv (K 0))]) (.seq (.seq (.ops [mv 5 0,oV 6 (rlen (T 5)),oV 7 (rbin env .gtr 3 false true (T 6) (K 200))]) (.cond (rX 7) (.seq (.ops [oV 2 (rmv (K 2))]) .ret) .skip)) (.seq (.seq (.ops [mv 8 0,oV 9 (rlen (T 8)),oV 10 (rmv (K 0))]) (.block 0 (.loop c15_20))) (.seq (.ops [oV 2 (rmv (K 0))]) .ret)))
theorem fn15 : env.fn 15 = some ⟨55, [.tmp 2], body15⟩ := by kernel_rfl
theorem comp15 : comp env body15 = c15_28 := by kernel_rfl
def body17 : Code := match Tryz.f17.body with | some c => c | none => .skip
abbrev c17_11 : RC := .seq (.ops [oV 4 (rmv (.const (.bool false)))]) (.seq (.seq (.ops [mv 7 0,oC 8 (.func 24) [(T 7)],oV 9 (rbin env .neq 25 false true (T 8) (K 0)),mv 10 9,oG 11 10 false (rmv (T 1)),oCG 12 10 false (.func 24) [(T 11)],oG 13 10 false (rbin env .neq 25 false true (T 12) (K 0)),oV 14 (rpick (T 10) (.const (.bool true)) (T 13))]) (.cond (rX 14) (.seq (.ops [oV 4 (rmv (.const (.bool false)))]) .ret) .skip)) (.seq (.ops [mv 16 1,mv 17 0,oC 18 (.func 41) [(T 16), (T 17)],mv 15 18,oV 19 (rext (T 15) 0),oV 20 (rext (T 15) 1),mv 5 19,mv 6 20]) (.seq (.ops [mv 21 6,mv 22 21,oG 23 22 true (rmv (T 5)),oCG 24 22 true (.func 42) [(T 23), (.const (.string ⟨#[47]⟩))],oV 25 (rpick (T 22) (T 24) (.const (.bool false))),mv 4 25]) .ret)))
theorem fn17 : env.fn 17 = some ⟨26, [.tmp 4], body17⟩ := by kernel_rfl
theorem comp17 : comp env body17 = c17_11 := by kernel_rfl
def body23 : Code := match Tryz.f23.body with | some c => c | none => .skip
abbrev c23_3 : RC := .seq (.ops [oU 1 (rbox (T 0)),oV 2 (rmv (.const (.bool false)))]) (.seq (.ops [oV 3 (rfaddr 2 (T 1)),oV 4 (rload false 1 (T 3)),oV 5 (rlen (T 4)),oV 6 (rbin env .gtr 3 false true (T 5) (K 1200)),mv 2 6]) .ret)
theorem fn23 : env.fn 23 = some ⟨7, [.tmp 2], body23⟩ := by kernel_rfl
theorem comp23 : comp env body23 = c23_3 := by kernel_rfl
def body24 : Code := match Tryz.f24.body with | some c => c | none => .skip
abbrev c24_3 : RC := .ops [mv 5 8]
abbrev c24_15 : RC := .block 1 (.seq (.ops [oV 9 (rload false 1 (T 3)),oV 10 (rbin env .add 3 false true (T 9) (K 1)),oS (rstore 1 (T 3) (T 10))]) (.block 2 (.seq (.seq (.ops [oV 12 (rload false 1 (T 3)),oV 13 (rbin env .gtr 3 false true (T 12) (K 6)),mv 11 13]) (.cond (rX 11) .skip (.ops [mv 14 5,oC 15 (.func 47) [(T 14)],oV 16 (run' .not (T 15)),mv 11 16]))) (.cond (rX 11) (.seq (.ops [oS (rstore 1 (T 4) (K 2))]) (.exit 0)) .skip))))
abbrev c24_23 : RC := .seq (.ops [oU 3 (rnew [.v (.int .i64 0)]),oU 4 (rnew [.v (.int .i64 0)]),oS (rstore 1 (T 3) (K 0)),oS (rstore 1 (T 4) (K 0))]) (.seq .skip (.seq (.seq (.ops [mv 6 0,oC 7 (.func 46) [(T 6), (.const (.string ⟨#[47]⟩))]]) (.block 0 (.range (fun s => pev s.tm (T 7)) [8] (subc [1, 0, 1, 1, 0, 1, 0, 0] body24) (subc [1, 0, 1, 1, 0, 1, 0, 1] body24)))) (.seq (.ops [oV 17 (rload false 1 (T 4)),mv 2 17]) .ret)))
abbrev c24_25 : RC := .seq (.ops [oV 2 (rmv (K 0))]) (.scope (subc [1, 0] body24))
theorem fn24 : env.fn 24 = some ⟨18, [.tmp 2], body24⟩ := by kernel_rfl
theorem comp24 : comp env body24 = c24_25 := by kernel_rfl
theorem piece24_1 : comp env (subc [1, 0, 1, 1, 0, 1, 0, 0] body24) = c24_3 := by kernel_rfl
theorem piece24_2 : comp env (subc [1, 0, 1, 1, 0, 1, 0, 1] body24) = c24_15 := by kernel_rfl
theorem piece24_3 : comp env (subc [1, 0] body24) = c24_23 := by kernel_rfl
def body25 : Code := match Tryz.f25.body with | some c => c | none => .skip
abbrev c25_5 : RC := .seq (.ops [oU 3 (rbox (T 1)),oV 4 (rmv (K 0)),oV 5 (rmv (.const (.bool false)))]) (.seq (.ops [mv 7 0,oV 8 (rfn 49 [] [(T 3)]),oC 9 (.func 48) [(T 7), (T 8)],mv 6 9]) (.seq (.ops [mv 10 6,mv 11 6,oV 12 (rbin env .geq 3 false true (T 11) (K 0)),mv 4 10,mv 5 12]) .ret))
theorem fn25 : env.fn 25 = some ⟨13, [.tmp 4, .tmp 5], body25⟩ := by kernel_rfl
theorem comp25 : comp env body25 = c25_5 := by kernel_rfl
def body26 : Code := match Tryz.f26.body with | some c => c | none => .skip
abbrev c26_25 : RC := .seq (.ops [oV 4 (rmv (K 0))]) (.seq (.ops [mv 10 1,oC 11 (.func 50) [(T 10)],mv 9 11,oV 12 (rext (T 9) 0),oV 13 (rext (T 9) 1),mv 5 12,mv 6 13]) (.seq (.seq (.ops [mv 14 6,oV 15 (run' .not (T 14))]) (.cond (rX 15) (.seq (.ops [oV 4 (rmv (K 0))]) .ret) .skip)) (.seq (.ops [mv 17 0,mv 18 5,oC 19 (.func 25) [(T 17), (T 18)],mv 16 19,oV 20 (rext (T 16) 0),oV 21 (rext (T 16) 1),mv 7 20,mv 8 21]) (.seq (.block 0 (.seq (.ops [mv 23 8,oV 24 (run' .not (T 23)),mv 22 24]) (.cond (rX 22) (.seq (.ops [oV 4 (rmv (K 6))]) .ret) (.seq (.ops [mv 26 0,mv 27 7,oV 28 (riaddr 4 (T 26) (T 27)),oV 29 (rfaddr 1 (T 28)),oV 30 (rfaddr 0 (T 29)),oV 31 (rload false 1 (T 30)),oV 32 (rbin env .neq 3 false true (T 31) (K 2)),mv 25 32]) (.cond (rX 25) (.seq (.ops [oV 4 (rmv (K 12))]) .ret) .skip))))) (.seq (.ops [oV 4 (rmv (K 0))]) .ret)))))
theorem fn26 : env.fn 26 = some ⟨33, [.tmp 4], body26⟩ := by kernel_rfl
theorem comp26 : comp env body26 = c26_25 := by kernel_rfl
def body27 : Code := match Tryz.f27.body with | some c => c | none => .skip
abbrev c27_12 : RC := .seq (.ops [oV 9 (rbin env .lss 3 false false (T 8) (T 7))]) (.seq (.cond (rX 9) .skip (.exit 0)) (.seq (.block 1 (.seq (.ops [oV 10 (riaddr 4 (T 6) (T 8)),oV 11 (rload true 4 (T 10)),oU 5 (rnew [.v (.string ⟨#[]⟩), .v (.int .i64 0), .v (.int .i64 0), .lst .full 0 0 []]),oS (rstore 4 (T 5) (T 11))]) (.ops [mv 12 3,oV 13 (rload true 4 (T 5)),oC 14 (.func 30) [(T 13)],oU 15 (rbuildL 4 1 [.v (.string ⟨#[]⟩), .v (.int .i64 0), .v (.int .i64 0), .lst .full 0 0 []] [(0, (T 14))]),oA 16 4 56 4 (T 12) (T 15),mv 3 16]))) (.ops [oV 17 (rbin env .add 3 false true (T 8) (K 1)),mv 8 17])))
abbrev c27_20 : RC := .seq (.ops [oV 2 (rmv (.const (.slice none 0 0)))]) (.seq (.ops [oV 3 (rmv (.const (.slice none 0 0)))]) (.seq (.seq (.ops [mv 6 0,oV 7 (rlen (T 6)),oV 8 (rmv (K 0))]) (.block 0 (.loop c27_12))) (.seq (.ops [mv 18 3,mv 2 18]) .ret)))
theorem fn27 : env.fn 27 = some ⟨19, [.tmp 2], body27⟩ := by kernel_rfl
theorem comp27 : comp env body27 = c27_20 := by kernel_rfl
def body28 : Code := match Tryz.f28.body with | some c => c | none => .skip
theorem fn28 : env.fn 28 = some ⟨14, [], body28⟩ := by kernel_rfl
def body29 : Code := match Tryz.f29.body with | some c => c | none => .skip
abbrev c29_15 : RC := .seq (.ops [oU 2 (rbox (T 0)),oU 3 (rbox (T 1)),oV 4 (rmv (K 0))]) (.seq (.block 0 (.seq (.ops [oV 6 (rfaddr 0 (T 2)),oV 7 (rload false 1 (T 6)),oV 8 (rfaddr 0 (T 3)),oV 9 (rload false 1 (T 8)),oC 10 (.func 36) [(T 7), (T 9)],mv 5 10]) (.cond (rX 5) (.seq (.ops [oV 4 (rmv (K (-1)))]) .ret) (.seq (.ops [oV 12 (rfaddr 0 (T 3)),oV 13 (rload false 1 (T 12)),oV 14 (rfaddr 0 (T 2)),oV 15 (rload false 1 (T 14)),oC 16 (.func 36) [(T 13), (T 15)],mv 11 16]) (.cond (rX 11) (.seq (.ops [oV 4 (rmv (K 1))]) .ret) .skip))))) (.seq (.ops [oV 4 (rmv (K 0))]) .ret))
theorem fn29 : env.fn 29 = some ⟨17, [.tmp 4], body29⟩ := by kernel_rfl
theorem comp29 : comp env body29 = c29_15 := by kernel_rfl
def body30 : Code := match Tryz.f30.body with | some c => c | none => .skip
abbrev c30_5 : RC := .seq (.ops [oU 1 (rbox (T 0)),oU 2 (rnew [.v (.string ⟨#[]⟩), .v (.int .i64 0), .v (.int .i64 0), .lst .full 0 0 []])]) (.seq (.ops [oV 3 (rfaddr 1 (T 1)),oV 4 (rfaddr 2 (T 3)),oV 5 (rload false 1 (T 4)),oC 6 (.func 53) [(T 5)],oV 7 (rfaddr 1 (T 1)),oV 8 (rfaddr 2 (T 7)),oS (rstore 1 (T 8) (T 6))]) (.seq (.ops [oV 9 (rload true 4 (T 1)),oS (rstore 4 (T 2) (T 9))]) .ret))
theorem fn30 : env.fn 30 = some ⟨10, [.cell 2 55], body30⟩ := by kernel_rfl
theorem comp30 : comp env body30 = c30_5 := by kernel_rfl
def body31 : Code := match Tryz.f31.body with | some c => c | none => .skip
abbrev c31_3 : RC := .seq (.ops [oV 4 (rmv (.const (.bool false)))]) (.seq (.ops [mv 5 0,oU 6 (rconvB (T 5)),mv 7 1,oU 8 (rconvB (T 7)),oV 9 (rbin env .eql 9 false false (T 6) (T 8)),mv 4 9]) .ret)
theorem fn31 : env.fn 31 = some ⟨10, [.tmp 4], body31⟩ := by kernel_rfl
theorem comp31 : comp env body31 = c31_3 := by kernel_rfl
def body32 : Code := match Tryz.f32.body with | some c => c | none => .skip
abbrev c32_22 : RC := .seq (.seq (.ops [mv 16 6,mv 17 0,oV 18 (rlen (T 17)),oV 19 (rbin env .lss 3 false false (T 16) (T 18))]) (.cond (rX 19) .skip (.exit 0))) (.seq (.block 1 (.seq (.ops [mv 22 0,mv 23 6,oV 24 (riaddr 4 (T 22) (T 23)),oV 25 (rload true 4 (T 24)),oU 7 (rnew [.v (.string ⟨#[]⟩), .v (.int .i64 0), .v (.int .i64 0), .lst .full 0 0 []]),oS (rstore 4 (T 7) (T 25))]) (.seq (.ops [mv 26 1,oV 27 (rload true 4 (T 7)),oC 28 (T 26) [(T 27)],oV 29 (run' .not (T 28))]) (.cond (rX 29) (.seq (.ops [mv 30 0,mv 31 5,oV 32 (rload true 4 (T 7)),oV 33 (riaddr 4 (T 30) (T 31)),oS (rstore 4 (T 33) (T 32))]) (.ops [mv 34 5,oV 35 (rbin env .add 3 false true (T 34) (K 1)),mv 5 35])) .skip)))) (.ops [mv 20 6,oV 21 (rbin env .add 3 false true (T 20) (K 1)),mv 6 21]))
abbrev c32_33 : RC := .seq (.ops [oV 4 (rmv (.const (.slice none 0 0)))]) (.seq (.ops [mv 8 0,mv 9 1,oC 10 (.func 48) [(T 8), (T 9)],mv 5 10]) (.seq (.seq (.ops [mv 11 5,oV 12 (rbin env .eql 3 false true (T 11) (K (-1)))]) (.cond (rX 12) (.seq (.ops [mv 13 0,mv 4 13]) .ret) .skip)) (.seq (.seq (.ops [mv 14 5,oV 15 (rbin env .add 3 false true (T 14) (K 1)),mv 6 15]) (.block 0 (.loop c32_22))) (.seq (.ops [mv 36 0,mv 37 5,oV 38 (rsliceL 4 (T 36) (some (T 37)) none none),oS (rclear 4 [.v (.string ⟨#[]⟩), .v (.int .i64 0), .v (.int .i64 0), .lst .full 0 0 []] (T 38))]) (.seq (.ops [mv 39 0,mv 40 5,oV 41 (rsliceL 4 (T 39) none (some (T 40)) none),mv 4 41]) .ret)))))
theorem fn32 : env.fn 32 = some ⟨42, [.tmp 4], body32⟩ := by kernel_rfl
theorem comp32 : comp env body32 = c32_33 := by kernel_rfl
def body33 : Code := match Tryz.f33.body with | some c => c | none => .skip
abbrev c33_3 : RC := .seq (.ops [oU 2 (rbox (T 0)),oV 3 (rmv (.const (.bool false)))]) (.seq (.ops [oV 4 (rload false 1 (T 1)),oV 5 (rfaddr 0 (T 2)),oV 6 (rload false 1 (T 5)),oC 7 (.func 17) [(T 4), (T 6)],oV 8 (run' .not (T 7)),mv 3 8]) .ret)
theorem fn33 : env.fn 33 = some ⟨9, [.tmp 3], body33⟩ := by kernel_rfl
theorem comp33 : comp env body33 = c33_3 := by kernel_rfl
def body35 : Code := match Tryz.f35.body with | some c => c | none => .skip
abbrev c35_17 : RC := .seq (.ops [oU 1 (rbox (T 0)),oV 2 (rmv (K 0))]) (.seq (.seq (.ops [oV 4 (rfaddr 0 (T 1)),oV 5 (rload false 1 (T 4)),oV 6 (rbin env .lss 3 false true (T 5) (K 1)),mv 7 6,oG 8 7 false (rfaddr 0 (T 1)),oG 9 7 false (rload false 1 (T 8)),oG 10 7 false (rbin env .gtr 3 false true (T 9) (K 3)),oV 11 (rpick (T 7) (.const (.bool true)) (T 10))]) (.cond (rX 11) (.seq (.ops [oV 2 (rmv (K 2))]) .ret) .skip)) (.seq (.seq (.drawn true [dV 13 (rfaddr 0 (T 1)),dV 14 (rload false 1 (T 13)),dU 3 (rnew [.v (.int .i64 0), .v (.int .i64 0)]),dC false 12 (.func 54) [],dV 15 (ridxA 4 true 2 (T 12) (T 14)),dS (rstore 2 (T 3) (T 15))]) (.seq (.ops [oV 16 (rfaddr 1 (T 1)),oV 17 (rload false 1 (T 16)),oV 18 (rbin env .lss 3 false true (T 17) (K 0)),mv 19 18,oG 20 19 false (rfaddr 1 (T 1)),oG 21 19 false (rload false 1 (T 20)),oG 22 19 false (rfaddr 0 (T 3)),oG 23 19 false (rload false 1 (T 22)),oG 24 19 false (rbin env .gtr 3 false false (T 21) (T 23)),oV 25 (rpick (T 19) (.const (.bool true)) (T 24)),mv 26 25,oG 27 26 false (rfaddr 2 (T 1)),oG 28 26 false (rload false 1 (T 27)),oG 29 26 false (rlen (T 28)),oG 30 26 false (rfaddr 1 (T 3)),oG 31 26 false (rload false 1 (T 30)),oG 32 26 false (rbin env .gtr 3 false false (T 29) (T 31)),oV 33 (rpick (T 26) (.const (.bool true)) (T 32))]) (.cond (rX 33) (.seq (.ops [oV 2 (rmv (K 2))]) .ret) .skip))) (.seq (.ops [oV 2 (rmv (K 0))]) .ret)))
theorem fn35 : env.fn 35 = some ⟨34, [.tmp 2], body35⟩ := by kernel_rfl
theorem comp35 : comp env body35 = c35_17 := by kernel_rfl
def body36 : Code := match Tryz.f36.body with | some c => c | none => .skip
abbrev c36_3 : RC := .seq (.ops [oV 4 (rmv (.const (.bool false)))]) (.seq (.ops [mv 5 0,mv 6 1,oC 7 (.func 55) [(T 5), (T 6)],oV 8 (rbin env .lss 3 false true (T 7) (K 0)),mv 4 8]) .ret)
theorem fn36 : env.fn 36 = some ⟨9, [.tmp 4], body36⟩ := by kernel_rfl
theorem comp36 : comp env body36 = c36_3 := by kernel_rfl
def body41 : Code := match Tryz.f41.body with | some c => c | none => .skip
abbrev c41_3 : RC := .seq (.ops [oV 4 (rmv (.const (.string ⟨#[]⟩))),oV 5 (rmv (.const (.bool false)))]) (.seq (.ops [mv 6 0,mv 7 1,oC 8 (.func 60) [(T 6), (T 7)],oV 9 (rext (T 8) 0),oV 10 (rext (T 8) 1),mv 4 9,mv 5 10]) .ret)
theorem fn41 : env.fn 41 = some ⟨11, [.tmp 4, .tmp 5], body41⟩ := by kernel_rfl
theorem comp41 : comp env body41 = c41_3 := by kernel_rfl
def body42 : Code := match Tryz.f42.body with | some c => c | none => .skip
abbrev c42_3 : RC := .seq (.ops [oV 4 (rmv (.const (.bool false)))]) (.seq (.ops [mv 5 0,mv 6 1,oC 7 (.func 61) [(T 5), (T 6)],mv 4 7]) .ret)
theorem fn42 : env.fn 42 = some ⟨8, [.tmp 4], body42⟩ := by kernel_rfl
theorem comp42 : comp env body42 = c42_3 := by kernel_rfl
def body46 : Code := match Tryz.f46.body with | some c => c | none => .skip
abbrev c46_3 : RC := .seq (.ops [oV 4 (rmv (.const (.nilFunc)))]) (.seq (.ops [mv 5 0,mv 6 1,oC 7 (.func 64) [(T 5), (T 6), (K 0)],mv 4 7]) .ret)
theorem fn46 : env.fn 46 = some ⟨8, [.tmp 4], body46⟩ := by kernel_rfl
theorem comp46 : comp env body46 = c46_3 := by kernel_rfl
def body47 : Code := match Tryz.f47.body with | some c => c | none => .skip
abbrev c47_3 : RC := .seq (.ops [oV 2 (rmv (.const (.bool false)))]) (.seq (.ops [mv 3 0,oV 4 (rbin env .neq 9 false true (T 3) (.const (.string ⟨#[]⟩))),mv 5 4,oG 6 5 true (rmv (T 0)),oG 7 5 true (rlenS (T 6)),oG 8 5 true (rbin env .leq 3 false true (T 7) (K 12)),oV 9 (rpick (T 5) (T 8) (.const (.bool false))),mv 10 9,oG 11 10 true (rmv (T 0)),oG 12 10 true (rbin env .neq 9 false true (T 11) (.const (.string ⟨#[46]⟩))),oV 13 (rpick (T 10) (T 12) (.const (.bool false))),mv 14 13,oG 15 14 true (rmv (T 0)),oG 16 14 true (rbin env .neq 9 false true (T 15) (.const (.string ⟨#[46, 46]⟩))),oV 17 (rpick (T 14) (T 16) (.const (.bool false))),mv 18 17,oG 19 18 true (rmv (T 0)),oCG 20 18 true (.func 65) [(T 19), (.const (.string ⟨#[97, 98, 99, 100, 101, 102, 103, 104, 105, 106, 107, 108, 109, 110, 111, 112, 113, 114, 115, 116, 117, 118, 119, 120, 121, 122, 48, 49, 50, 51, 52, 53, 54, 55, 56, 57, 46, 95, 45]⟩))],oG 21 18 true (rbin env .eql 9 false true (T 20) (.const (.string ⟨#[]⟩))),oV 22 (rpick (T 18) (T 21) (.const (.bool false))),mv 23 22,oG 24 23 true (rmv (T 0)),oCG 25 23 true (.func 66) [(T 24), (.func 67)],oG 26 23 true (run' .not (T 25)),oV 27 (rpick (T 23) (T 26) (.const (.bool false))),mv 2 27]) .ret)
theorem fn47 : env.fn 47 = some ⟨28, [.tmp 2], body47⟩ := by kernel_rfl
theorem comp47 : comp env body47 = c47_3 := by kernel_rfl
def body48 : Code := match Tryz.f48.body with | some c => c | none => .skip
abbrev c48_15 : RC := .seq (.ops [oV 9 (rbin env .lss 3 false false (T 8) (T 7))]) (.seq (.cond (rX 9) .skip (.exit 0)) (.seq (.block 1 (.seq (.ops [mv 10 8,mv 5 10]) (.seq (.ops [mv 11 1,mv 12 0,mv 13 5,oV 14 (riaddr 4 (T 12) (T 13)),oV 15 (rload true 4 (T 14)),oC 16 (T 11) [(T 15)]]) (.cond (rX 16) (.seq (.ops [mv 17 5,mv 4 17]) .ret) .skip)))) (.ops [oV 18 (rbin env .add 3 false true (T 8) (K 1)),mv 8 18])))
abbrev c48_22 : RC := .seq (.ops [oV 4 (rmv (K 0))]) (.seq (.seq (.ops [mv 6 0,oV 7 (rlen (T 6)),oV 8 (rmv (K 0))]) (.block 0 (.loop c48_15))) (.seq (.ops [oV 4 (rmv (K (-1)))]) .ret))
theorem fn48 : env.fn 48 = some ⟨19, [.tmp 4], body48⟩ := by kernel_rfl
theorem comp48 : comp env body48 = c48_22 := by kernel_rfl
def body49 : Code := match Tryz.f49.body with | some c => c | none => .skip
abbrev c49_3 : RC := .seq (.ops [oU 2 (rbox (T 0)),oV 3 (rmv (.const (.bool false)))]) (.seq (.ops [oV 4 (rfaddr 0 (T 2)),oV 5 (rload false 1 (T 4)),oV 6 (rload false 1 (T 1)),oV 7 (rbin env .eql 9 false false (T 5) (T 6)),mv 3 7]) .ret)
theorem fn49 : env.fn 49 = some ⟨8, [.tmp 3], body49⟩ := by kernel_rfl
theorem comp49 : comp env body49 = c49_3 := by kernel_rfl
def body50 : Code := match Tryz.f50.body with | some c => c | none => .skip
abbrev c50_5 : RC := .seq (.ops [oV 2 (rmv (.const (.string ⟨#[]⟩))),oV 3 (rmv (.const (.bool false)))]) (.seq (.ops [mv 7 0,oC 8 (.func 69) [(T 7)],mv 6 8,oV 9 (rext (T 6) 0),oV 10 (rext (T 6) 1),mv 4 9,mv 5 10]) (.seq (.ops [mv 11 4,mv 12 4,oV 13 (rbin env .neq 9 false true (T 12) (.const (.string ⟨#[]⟩))),mv 2 11,mv 3 13]) .ret))
theorem fn50 : env.fn 50 = some ⟨14, [.tmp 2, .tmp 3], body50⟩ := by kernel_rfl
theorem comp50 : comp env body50 = c50_5 := by kernel_rfl
def body53 : Code := match Tryz.f53.body with | some c => c | none => .skip
abbrev c53_9 : RC := .seq (.ops [oV 2 (rmv (.const (.slice none 0 0)))]) (.seq (.seq (.ops [mv 3 0,oL 4 false (T 3)]) (.cond (rX 4) (.seq (.ops [oV 2 (rmv (.const (.slice none 0 0)))]) .ret) .skip)) (.seq (.ops [oU 5 (rbuildL 1 0 [] []),mv 6 0,oA 7 1 1 1 (T 5) (T 6),mv 2 7]) .ret))
theorem fn53 : env.fn 53 = some ⟨8, [.tmp 2], body53⟩ := by kernel_rfl
theorem comp53 : comp env body53 = c53_9 := by kernel_rfl
def body54 : Code := match Tryz.f54.body with | some c => c | none => .skip
abbrev c54_3 : RC := .seq (.ops [oU 0 (rnew [.v (.int .i64 0), .v (.int .i64 0), .v (.int .i64 0), .v (.int .i64 0), .v (.int .i64 0), .v (.int .i64 0), .v (.int .i64 0), .v (.int .i64 0)])]) (.seq (.ops [oV 1 (rbuild [.v (.int .i64 0), .v (.int .i64 0)] [(0, 1), (1, 1)] [(0, (K 511)), (1, (K 1000))]),oV 2 (rbuild [.v (.int .i64 0), .v (.int .i64 0)] [(0, 1), (1, 1)] [(0, (K 511))]),oV 3 (rbuild [.v (.int .i64 0), .v (.int .i64 0)] [(0, 1), (1, 1)] []),oV 4 (rbuildA 2 [.v (.int .i64 0), .v (.int .i64 0), .v (.int .i64 0), .v (.int .i64 0), .v (.int .i64 0), .v (.int .i64 0), .v (.int .i64 0), .v (.int .i64 0)] [(1, (T 1)), (2, (T 2)), (3, (T 3))]),oS (rstore 8 (T 0) (T 4))]) .ret)
theorem fn54 : env.fn 54 = some ⟨5, [.cell 0 90], body54⟩ := by kernel_rfl
theorem comp54 : comp env body54 = c54_3 := by kernel_rfl
def body55 : Code := match Tryz.f55.body with | some c => c | none => .skip
abbrev c55_3 : RC := .seq (.ops [oV 4 (rmv (K 0))]) (.seq (.ops [mv 5 0,oC 6 (.func 81) [(T 5), (.const (.string ⟨#[47]⟩))],mv 7 1,oC 8 (.func 81) [(T 7), (.const (.string ⟨#[47]⟩))],oC 9 (.func 80) [(T 6), (T 8), (.func 82)],mv 4 9]) .ret)
theorem fn55 : env.fn 55 = some ⟨10, [.tmp 4], body55⟩ := by kernel_rfl
theorem comp55 : comp env body55 = c55_3 := by kernel_rfl
def body60 : Code := match Tryz.f60.body with | some c => c | none => .skip
abbrev c60_9 : RC := .seq (.ops [oV 4 (rmv (.const (.string ⟨#[]⟩))),oV 5 (rmv (.const (.bool false)))]) (.seq (.seq (.ops [mv 6 0,mv 7 1,oC 8 (.func 61) [(T 6), (T 7)],oV 9 (run' .not (T 8))]) (.cond (rX 9) (.seq (.ops [mv 10 0,mv 4 10,oV 5 (rmv (.const (.bool false)))]) .ret) .skip)) (.seq (.ops [mv 11 0,mv 12 1,oV 13 (rlenS (T 12)),oV 14 (rsliceS (T 11) (some (T 13)) none),mv 4 14,oV 5 (rmv (.const (.bool true)))]) .ret))
theorem fn60 : env.fn 60 = some ⟨15, [.tmp 4, .tmp 5], body60⟩ := by kernel_rfl
theorem comp60 : comp env body60 = c60_9 := by kernel_rfl
def body61 : Code := match Tryz.f61.body with | some c => c | none => .skip
abbrev c61_3 : RC := .seq (.ops [oV 4 (rmv (.const (.bool false)))]) (.seq (.ops [mv 5 0,oV 6 (rlenS (T 5)),mv 7 1,oV 8 (rlenS (T 7)),oV 9 (rbin env .geq 3 false false (T 6) (T 8)),mv 10 9,oG 11 10 true (rmv (T 0)),oG 12 10 true (rmv (T 1)),oG 13 10 true (rlenS (T 12)),oG 14 10 true (rsliceS (T 11) none (some (T 13))),oG 15 10 true (rmv (T 1)),oG 16 10 true (rbin env .eql 9 false false (T 14) (T 15)),oV 17 (rpick (T 10) (T 16) (.const (.bool false))),mv 4 17]) .ret)
theorem fn61 : env.fn 61 = some ⟨18, [.tmp 4], body61⟩ := by kernel_rfl
theorem comp61 : comp env body61 = c61_3 := by kernel_rfl
def body64 : Code := match Tryz.f64.body with | some c => c | none => .skip
abbrev c64_3 : RC := .seq (.ops [oU 3 (rbox (T 0)),oU 4 (rbox (T 1)),oU 5 (rbox (T 2)),oV 6 (rmv (.const (.nilFunc)))]) (.seq (.ops [oV 7 (rfn 88 [] [(T 4), (T 3), (T 5)]),mv 6 7]) .ret)
theorem fn64 : env.fn 64 = some ⟨8, [.tmp 6], body64⟩ := by kernel_rfl
theorem comp64 : comp env body64 = c64_3 := by kernel_rfl
def body65 : Code := match Tryz.f65.body with | some c => c | none => .skip
abbrev c65_23 : RC := .seq (.ops [oV 4 (rmv (.const (.string ⟨#[]⟩)))]) (.seq (.seq (.ops [mv 7 0,oV 8 (rbin env .eql 9 false true (T 7) (.const (.string ⟨#[]⟩))),mv 9 8,oG 10 9 false (rmv (T 1)),oG 11 9 false (rbin env .eql 9 false true (T 10) (.const (.string ⟨#[]⟩))),oV 12 (rpick (T 9) (.const (.bool true)) (T 11))]) (.cond (rX 12) (.seq (.ops [mv 13 0,mv 4 13]) .ret) .skip)) (.seq (.seq (.ops [mv 14 1,oV 15 (rlenS (T 14)),oV 16 (rbin env .eql 3 false true (T 15) (K 1)),mv 17 16,oG 18 17 true (rmv (T 1)),oG 19 17 true (ridxS (T 18) (K 0)),oG 20 17 true (rbin env .lss 5 false true (T 19) (.const (.int .u8 128))),oV 21 (rpick (T 17) (T 20) (.const (.bool false)))]) (.cond (rX 21) (.seq (.drawn true [mw 22 0,mw 23 1,dV 24 (ridxS (T 23) (K 0)),mw 26 1,dV 27 (ridxS (T 26) (K 0)),dC true 25 (.func 92) [(T 22), (T 24)],dC true 28 (.func 91) [(T 25), (T 27)],mw 4 28]) .ret) .skip)) (.seq (.seq (.ops [mv 30 1,oC 31 (.func 93) [(T 30)],mv 29 31,oV 32 (rext (T 29) 0),oV 33 (rext (T 29) 1),oU 5 (rnew [.v (.bool false), .v (.bool false), .v (.bool false), .v (.bool false), .v (.bool false), .v (.bool false), .v (.bool false), .v (.bool false), .v (.bool false), .v (.bool false), .v (.bool false), .v (.bool false), .v (.bool false), .v (.bool false), .v (.bool false), .v (.bool false), .v (.bool false), .v (.bool false), .v (.bool false), .v (.bool false), .v (.bool false), .v (.bool false), .v (.bool false), .v (.bool false), .v (.bool false), .v (.bool false), .v (.bool false), .v (.bool false), .v (.bool false), .v (.bool false), .v (.bool false), .v (.bool false), .v (.bool false), .v (.bool false), .v (.bool false), .v (.bool false), .v (.bool false), .v (.bool false), .v (.bool false), .v (.bool false), .v (.bool false), .v (.bool false), .v (.bool false), .v (.bool false), .v (.bool false), .v (.bool false), .v (.bool false), .v (.bool false), .v (.bool false), .v (.bool false), .v (.bool false), .v (.bool false), .v (.bool false), .v (.bool false), .v (.bool false), .v (.bool false), .v (.bool false), .v (.bool false), .v (.bool false), .v (.bool false), .v (.bool false), .v (.bool false), .v (.bool false), .v (.bool false), .v (.bool false), .v (.bool false), .v (.bool false), .v (.bool false), .v (.bool false), .v (.bool false), .v (.bool false), .v (.bool false), .v (.bool false), .v (.bool false), .v (.bool false), .v (.bool false), .v (.bool false), .v (.bool false), .v (.bool false), .v (.bool false), .v (.bool false), .v (.bool false), .v (.bool false), .v (.bool false), .v (.bool false), .v (.bool false), .v (.bool false), .v (.bool false), .v (.bool false), .v (.bool false), .v (.bool false), .v (.bool false), .v (.bool false), .v (.bool false), .v (.bool false), .v (.bool false), .v (.bool false), .v (.bool false), .v (.bool false), .v (.bool false), .v (.bool false), .v (.bool false), .v (.bool false), .v (.bool false), .v (.bool false), .v (.bool false), .v (.bool false), .v (.bool false), .v (.bool false), .v (.bool false), .v (.bool false), .v (.bool false), .v (.bool false), .v (.bool false), .v (.bool false), .v (.bool false), .v (.bool false), .v (.bool false), .v (.bool false), .v (.bool false), .v (.bool false), .v (.bool false), .v (.bool false), .v (.bool false), .v (.bool false), .v (.bool false), .v (.bool false), .v (.bool false), .v (.bool false), .v (.bool false), .v (.bool false), .v (.bool false), .v (.bool false), .v (.bool false), .v (.bool false), .v (.bool false), .v (.bool false), .v (.bool false), .v (.bool false), .v (.bool false), .v (.bool false), .v (.bool false), .v (.bool false), .v (.bool false), .v (.bool false), .v (.bool false), .v (.bool false), .v (.bool false), .v (.bool false), .v (.bool false), .v (.bool false), .v (.bool false), .v (.bool false), .v (.bool false), .v (.bool false), .v (.bool false), .v (.bool false), .v (.bool false), .v (.bool false), .v (.bool false), .v (.bool false), .v (.bool false), .v (.bool false), .v (.bool false), .v (.bool false), .v (.bool false), .v (.bool false), .v (.bool false), .v (.bool false), .v (.bool false), .v (.bool false), .v (.bool false), .v (.bool false), .v (.bool false), .v (.bool false), .v (.bool false), .v (.bool false), .v (.bool false), .v (.bool false), .v (.bool false), .v (.bool false), .v (.bool false), .v (.bool false), .v (.bool false), .v (.bool false), .v (.bool false), .v (.bool false), .v (.bool false), .v (.bool false), .v (.bool false), .v (.bool false), .v (.bool false), .v (.bool false), .v (.bool false), .v (.bool false), .v (.bool false), .v (.bool false), .v (.bool false), .v (.bool false), .v (.bool false), .v (.bool false), .v (.bool false), .v (.bool false), .v (.bool false), .v (.bool false), .v (.bool false), .v (.bool false), .v (.bool false), .v (.bool false), .v (.bool false), .v (.bool false), .v (.bool false), .v (.bool false), .v (.bool false), .v (.bool false), .v (.bool false), .v (.bool false), .v (.bool false), .v (.bool false), .v (.bool false), .v (.bool false), .v (.bool false), .v (.bool false), .v (.bool false), .v (.bool false), .v (.bool false), .v (.bool false), .v (.bool false), .v (.bool false), .v (.bool false), .v (.bool false), .v (.bool false), .v (.bool false), .v (.bool false), .v (.bool false), .v (.bool false), .v (.bool false), .v (.bool false), .v (.bool false), .v (.bool false), .v (.bool false), .v (.bool false), .v (.bool false), .v (.bool false), .v (.bool false), .v (.bool false), .v (.bool false), .v (.bool false), .v (.bool false), .v (.bool false), .v (.bool false), .v (.bool false), .v (.bool false), .v (.bool false), .v (.bool false), .v (.bool false)]),oS (rstore 256 (T 5) (T 32)),mv 6 33]) (.seq (.ops [mv 34 6]) (.cond (rX 34) (.seq (.ops [mv 35 0,oC 36 (.func 95) [(T 35), (T 5)],oC 37 (.func 94) [(T 36), (T 5)],mv 4 37]) .ret) .skip))) (.seq (.ops [mv 38 0,mv 39 1,oC 40 (.func 97) [(T 38), (T 39)],mv 41 1,oC 42 (.func 96) [(T 40), (T 41)],mv 4 42]) .ret))))
theorem fn65 : env.fn 65 = some ⟨43, [.tmp 4], body65⟩ := by kernel_rfl
theorem comp65 : comp env body65 = c65_23 := by kernel_rfl
def body66 : Code := match Tryz.f66.body with | some c => c | none => .skip
abbrev c66_3 : RC := .seq (.ops [oV 4 (rmv (.const (.bool false)))]) (.seq (.ops [mv 5 0,mv 6 1,oC 7 (.func 98) [(T 5), (T 6)],oV 8 (rbin env .geq 3 false true (T 7) (K 0)),mv 4 8]) .ret)
theorem fn66 : env.fn 66 = some ⟨9, [.tmp 4], body66⟩ := by kernel_rfl
theorem comp66 : comp env body66 = c66_3 := by kernel_rfl
def body67 : Code := match Tryz.f67.body with | some c => c | none => .skip
abbrev c67_3 : RC := .seq (.ops [oV 2 (rmv (.const (.bool false)))]) (.seq (.ops [mv 3 0,oC 4 (.func 68) [(.const (.string ⟨#[97, 98, 99, 100, 101, 102, 103, 104, 105, 106, 107, 108, 109, 110, 111, 112, 113, 114, 115, 116, 117, 118, 119, 120, 121, 122, 48, 49, 50, 51, 52, 53, 54, 55, 56, 57, 46, 95, 45]⟩)), (T 3)],oV 5 (run' .not (T 4)),mv 2 5]) .ret)
theorem fn67 : env.fn 67 = some ⟨6, [.tmp 2], body67⟩ := by kernel_rfl
theorem comp67 : comp env body67 = c67_3 := by kernel_rfl
def body68 : Code := match Tryz.f68.body with | some c => c | none => .skip
abbrev c68_3 : RC := .seq (.ops [oV 4 (rmv (.const (.bool false)))]) (.seq (.ops [mv 5 0,mv 6 1,oC 7 (.func 99) [(T 5), (T 6)],oV 8 (rbin env .geq 3 false true (T 7) (K 0)),mv 4 8]) .ret)
theorem fn68 : env.fn 68 = some ⟨9, [.tmp 4], body68⟩ := by kernel_rfl
theorem comp68 : comp env body68 = c68_3 := by kernel_rfl
def body69 : Code := match Tryz.f69.body with | some c => c | none => .skip
abbrev c69_17 : RC := .seq (.ops [oV 2 (rmv (.const (.string ⟨#[]⟩))),oV 3 (rmv (.const (.string ⟨#[]⟩)))]) (.seq (.seq (.ops [mv 5 0,oC 6 (.func 24) [(T 5)],oV 7 (rbin env .neq 25 false true (T 6) (K 0))]) (.cond (rX 7) (.seq (.ops [oV 2 (rmv (.const (.string ⟨#[]⟩))),oV 3 (rmv (.const (.string ⟨#[]⟩)))]) .ret) .skip)) (.seq (.seq (.ops [mv 8 0,oC 9 (.func 100) [(T 8), (.const (.int .u8 47))],mv 4 9]) (.seq (.ops [mv 10 4,oV 11 (rbin env .geq 3 false true (T 10) (K 0))]) (.cond (rX 11) (.seq (.drawn true [mw 12 0,mw 13 4,dV 14 (rsliceS (T 12) none (some (T 13))),mw 15 0,mw 16 4,dV 17 (rbin env .add 3 false true (T 16) (K 1)),dV 18 (rsliceS (T 15) (some (T 17)) none),mw 2 14,mw 3 18]) .ret) .skip))) (.seq (.ops [mv 19 0,oV 2 (rmv (.const (.string ⟨#[]⟩))),mv 3 19]) .ret)))
theorem fn69 : env.fn 69 = some ⟨20, [.tmp 2, .tmp 3], body69⟩ := by kernel_rfl
theorem comp69 : comp env body69 = c69_17 := by kernel_rfl
def body80 : Code := match Tryz.f80.body with | some c => c | none => .skip
abbrev c80_25 : RC := .seq (.ops [oV 14 (rbin env .lss 3 false false (T 13) (T 12))]) (.seq (.cond (rX 14) .skip (.exit 0)) (.seq (.block 1 (.seq (.ops [mv 15 13,oV 16 (riaddr 1 (T 11) (T 13)),oV 17 (rload false 1 (T 16)),mv 7 15,mv 8 17]) (.seq (.seq (.ops [mv 18 7,mv 19 1,oV 20 (rlen (T 19)),oV 21 (rbin env .geq 3 false false (T 18) (T 20))]) (.cond (rX 21) (.seq (.ops [oV 6 (rmv (K 1))]) .ret) .skip)) (.seq (.ops [mv 22 1,mv 23 7,oV 24 (riaddr 1 (T 22) (T 23)),oV 25 (rload false 1 (T 24)),mv 9 25]) (.seq (.ops [mv 26 2,mv 27 8,mv 28 9,oC 29 (T 26) [(T 27), (T 28)],mv 10 29]) (.seq (.ops [mv 30 10,oV 31 (rbin env .neq 3 false true (T 30) (K 0))]) (.cond (rX 31) (.seq (.ops [mv 32 10,mv 6 32]) .ret) .skip))))))) (.ops [oV 33 (rbin env .add 3 false true (T 13) (K 1)),mv 13 33])))
abbrev c80_38 : RC := .seq (.ops [oV 6 (rmv (K 0))]) (.seq (.seq (.ops [mv 11 0,oV 12 (rlen (T 11)),oV 13 (rmv (K 0))]) (.block 0 (.loop c80_25))) (.seq (.seq (.ops [mv 34 0,oV 35 (rlen (T 34)),mv 36 1,oV 37 (rlen (T 36)),oV 38 (rbin env .lss 3 false false (T 35) (T 37))]) (.cond (rX 38) (.seq (.ops [oV 6 (rmv (K (-1)))]) .ret) .skip)) (.seq (.ops [oV 6 (rmv (K 0))]) .ret)))
theorem fn80 : env.fn 80 = some ⟨39, [.tmp 6], body80⟩ := by kernel_rfl
theorem comp80 : comp env body80 = c80_38 := by kernel_rfl
def body81 : Code := match Tryz.f81.body with | some c => c | none => .skip
abbrev c81_3 : RC := .seq (.ops [oV 4 (rmv (.const (.slice none 0 0)))]) (.seq (.ops [mv 5 0,mv 6 1,oC 7 (.func 106) [(T 5), (T 6), (K 0), (K (-1))],mv 4 7]) .ret)
theorem fn81 : env.fn 81 = some ⟨8, [.tmp 4], body81⟩ := by kernel_rfl
theorem comp81 : comp env body81 = c81_3 := by kernel_rfl
def body82 : Code := match Tryz.f82.body with | some c => c | none => .skip
abbrev c82_3 : RC := .seq (.ops [oV 4 (rmv (K 0))]) (.seq (.ops [mv 5 0,mv 6 1,oC 7 (.func 83) [(T 5), (T 6)],mv 4 7]) .ret)
theorem fn82 : env.fn 82 = some ⟨8, [.tmp 4], body82⟩ := by kernel_rfl
theorem comp82 : comp env body82 = c82_3 := by kernel_rfl
def body83 : Code := match Tryz.f83.body with | some c => c | none => .skip
abbrev c83_37 : RC := .seq (.ops [oV 4 (rmv (K 0))]) (.seq (.ops [mv 7 0,oC 8 (.func 107) [(T 7)],mv 5 8]) (.seq (.ops [mv 9 1,oC 10 (.func 107) [(T 9)],mv 6 10]) (.seq (.seq (.ops [mv 11 5]) (.cond (rX 11) (.seq (.seq (.ops [mv 12 6]) (.cond (rX 12) (.seq (.ops [oV 4 (rmv (K 0))]) .ret) .skip)) (.seq (.ops [oV 4 (rmv (K (-1)))]) .ret)) .skip)) (.seq (.seq (.ops [mv 13 6]) (.cond (rX 13) (.seq (.ops [oV 4 (rmv (K 1))]) .ret) .skip)) (.seq (.seq (.ops [mv 14 0,mv 15 1,oV 16 (rbin env .lss 9 false false (T 14) (T 15))]) (.cond (rX 16) (.seq (.ops [oV 4 (rmv (K (-1)))]) .ret) .skip)) (.seq (.seq (.ops [mv 17 0,mv 18 1,oV 19 (rbin env .gtr 9 false false (T 17) (T 18))]) (.cond (rX 19) (.seq (.ops [oV 4 (rmv (K 1))]) .ret) .skip)) (.seq (.ops [oV 4 (rmv (K 0))]) .ret)))))))
theorem fn83 : env.fn 83 = some ⟨20, [.tmp 4], body83⟩ := by kernel_rfl
theorem comp83 : comp env body83 = c83_37 := by kernel_rfl
def body88 : Code := match Tryz.f88.body with | some c => c | none => .skip
abbrev c88_31 : RC := .block 3 (.seq (.ops [oV 29 (rload false 1 (T 2)),oV 30 (rload false 1 (T 1)),oC 31 (.func 90) [(T 29), (T 30)],mv 7 31]) (.seq (.seq (.ops [mv 32 7,oV 33 (rbin env .lss 3 false true (T 32) (K 0))]) (.cond (rX 33) (.exit 2) .skip)) (.seq (.ops [oV 34 (rload false 1 (T 2)),mv 35 7,oV 36 (rload false 1 (T 3)),oV 37 (rbin env .add 3 false false (T 35) (T 36)),oV 38 (rsliceS (T 34) none (some (T 37))),mv 8 38]) (.seq (.seq (.ops [mv 39 0,mv 40 8,oC 41 (T 39) [(T 40)],oV 42 (run' .not (T 41))]) (.cond (rX 42) .ret .skip)) (.ops [oV 43 (rload false 1 (T 2)),mv 44 7,oV 45 (rload false 1 (T 1)),oV 46 (rlenS (T 45)),oV 47 (rbin env .add 3 false false (T 44) (T 46)),oV 48 (rsliceS (T 43) (some (T 47)) none),oS (rstore 1 (T 2) (T 48))])))))
abbrev c88_36 : RC := .seq (.seq (.ops [oV 9 (rload false 1 (T 1)),oV 10 (rlenS (T 9)),oV 11 (rbin env .eql 3 false true (T 10) (K 0))]) (.cond (rX 11) (.seq (.block 0 (.loop (.seq (.seq (.ops [oV 12 (rload false 1 (T 2)),oV 13 (rlenS (T 12)),oV 14 (rbin env .gtr 3 false true (T 13) (K 0))]) (.cond (rX 14) .skip (.exit 0))) (.block 1 (.seq (.ops [oV 16 (rload false 1 (T 2)),oC 17 (.func 89) [(T 16)],mv 15 17,oV 18 (rext (T 15) 0),oV 19 (rext (T 15) 1),mv 5 18,mv 6 19]) (.seq (.seq (.ops [mv 20 0,oV 21 (rload false 1 (T 2)),mv 22 6,oV 23 (rsliceS (T 21) none (some (T 22))),oC 24 (T 20) [(T 23)],oV 25 (run' .not (T 24))]) (.cond (rX 25) .ret .skip)) (.ops [oV 26 (rload false 1 (T 2)),mv 27 6,oV 28 (rsliceS (T 26) (some (T 27)) none),oS (rstore 1 (T 2) (T 28))]))))))) .ret) .skip)) (.seq (.block 2 (.loop c88_31)) (.ops [mv 49 0,oV 50 (rload false 1 (T 2)),oC 51 (T 49) [(T 50)]]))
theorem fn88 : env.fn 88 = some ⟨52, [], body88⟩ := by kernel_rfl
theorem comp88 : comp env body88 = c88_36 := by kernel_rfl
def body90 : Code := match Tryz.f90.body with | some c => c | none => .skip
abbrev c90_3 : RC := .seq (.ops [oV 4 (rmv (K 0))]) (.seq (.ops [mv 5 0,mv 6 1,oC 7 (.func 112) [(T 5), (T 6)],mv 4 7]) .ret)
theorem fn90 : env.fn 90 = some ⟨8, [.tmp 4], body90⟩ := by kernel_rfl
theorem comp90 : comp env body90 = c90_3 := by kernel_rfl
def body93 : Code := match Tryz.f93.body with | some c => c | none => .skip
abbrev c93_17 : RC := .seq (.seq (.ops [mv 6 4,mv 7 0,oV 8 (rlenS (T 7)),oV 9 (rbin env .lss 3 false false (T 6) (T 8))]) (.cond (rX 9) .skip (.exit 0))) (.seq (.block 1 (.seq (.ops [mv 12 0,mv 13 4,oV 14 (ridxS (T 12) (T 13)),mv 5 14]) (.seq (.seq (.ops [mv 15 5,oV 16 (rbin env .geq 5 false true (T 15) (.const (.int .u8 128)))]) (.cond (rX 16) (.seq (.ops [oV 17 (rload true 256 (T 2)),oS (rstore 256 (T 2) (T 17)),oV 3 (rmv (.const (.bool false)))]) .ret) .skip)) (.ops [mv 18 5,oV 19 (riaddrA 256 1 (T 2) (T 18)),oS (rstore 1 (T 19) (.const (.bool true)))])))) (.ops [mv 10 4,oV 11 (rbin env .add 3 false true (T 10) (K 1)),mv 4 11]))
abbrev c93_24 : RC := .seq (.ops [oU 2 (rnew [.v (.bool false), .v (.bool false), .v (.bool false), .v (.bool false), .v (.bool false), .v (.bool false), .v (.bool false), .v (.bool false), .v (.bool false), .v (.bool false), .v (.bool false), .v (.bool false), .v (.bool false), .v (.bool false), .v (.bool false), .v (.bool false), .v (.bool false), .v (.bool false), .v (.bool false), .v (.bool false), .v (.bool false), .v (.bool false), .v (.bool false), .v (.bool false), .v (.bool false), .v (.bool false), .v (.bool false), .v (.bool false), .v (.bool false), .v (.bool false), .v (.bool false), .v (.bool false), .v (.bool false), .v (.bool false), .v (.bool false), .v (.bool false), .v (.bool false), .v (.bool false), .v (.bool false), .v (.bool false), .v (.bool false), .v (.bool false), .v (.bool false), .v (.bool false), .v (.bool false), .v (.bool false), .v (.bool false), .v (.bool false), .v (.bool false), .v (.bool false), .v (.bool false), .v (.bool false), .v (.bool false), .v (.bool false), .v (.bool false), .v (.bool false), .v (.bool false), .v (.bool false), .v (.bool false), .v (.bool false), .v (.bool false), .v (.bool false), .v (.bool false), .v (.bool false), .v (.bool false), .v (.bool false), .v (.bool false), .v (.bool false), .v (.bool false), .v (.bool false), .v (.bool false), .v (.bool false), .v (.bool false), .v (.bool false), .v (.bool false), .v (.bool false), .v (.bool false), .v (.bool false), .v (.bool false), .v (.bool false), .v (.bool false), .v (.bool false), .v (.bool false), .v (.bool false), .v (.bool false), .v (.bool false), .v (.bool false), .v (.bool false), .v (.bool false), .v (.bool false), .v (.bool false), .v (.bool false), .v (.bool false), .v (.bool false), .v (.bool false), .v (.bool false), .v (.bool false), .v (.bool false), .v (.bool false), .v (.bool false), .v (.bool false), .v (.bool false), .v (.bool false), .v (.bool false), .v (.bool false), .v (.bool false), .v (.bool false), .v (.bool false), .v (.bool false), .v (.bool false), .v (.bool false), .v (.bool false), .v (.bool false), .v (.bool false), .v (.bool false), .v (.bool false), .v (.bool false), .v (.bool false), .v (.bool false), .v (.bool false), .v (.bool false), .v (.bool false), .v (.bool false), .v (.bool false), .v (.bool false), .v (.bool false), .v (.bool false), .v (.bool false), .v (.bool false), .v (.bool false), .v (.bool false), .v (.bool false), .v (.bool false), .v (.bool false), .v (.bool false), .v (.bool false), .v (.bool false), .v (.bool false), .v (.bool false), .v (.bool false), .v (.bool false), .v (.bool false), .v (.bool false), .v (.bool false), .v (.bool false), .v (.bool false), .v (.bool false), .v (.bool false), .v (.bool false), .v (.bool false), .v (.bool false), .v (.bool false), .v (.bool false), .v (.bool false), .v (.bool false), .v (.bool false), .v (.bool false), .v (.bool false), .v (.bool false), .v (.bool false), .v (.bool false), .v (.bool false), .v (.bool false), .v (.bool false), .v (.bool false), .v (.bool false), .v (.bool false), .v (.bool false), .v (.bool false), .v (.bool false), .v (.bool false), .v (.bool false), .v (.bool false), .v (.bool false), .v (.bool false), .v (.bool false), .v (.bool false), .v (.bool false), .v (.bool false), .v (.bool false), .v (.bool false), .v (.bool false), .v (.bool false), .v (.bool false), .v (.bool false), .v (.bool false), .v (.bool false), .v (.bool false), .v (.bool false), .v (.bool false), .v (.bool false), .v (.bool false), .v (.bool false), .v (.bool false), .v (.bool false), .v (.bool false), .v (.bool false), .v (.bool false), .v (.bool false), .v (.bool false), .v (.bool false), .v (.bool false), .v (.bool false), .v (.bool false), .v (.bool false), .v (.bool false), .v (.bool false), .v (.bool false), .v (.bool false), .v (.bool false), .v (.bool false), .v (.bool false), .v (.bool false), .v (.bool false), .v (.bool false), .v (.bool false), .v (.bool false), .v (.bool false), .v (.bool false), .v (.bool false), .v (.bool false), .v (.bool false), .v (.bool false), .v (.bool false), .v (.bool false), .v (.bool false), .v (.bool false), .v (.bool false), .v (.bool false), .v (.bool false), .v (.bool false), .v (.bool false), .v (.bool false), .v (.bool false), .v (.bool false), .v (.bool false), .v (.bool false), .v (.bool false), .v (.bool false), .v (.bool false), .v (.bool false), .v (.bool false), .v (.bool false), .v (.bool false), .v (.bool false), .v (.bool false), .v (.bool false), .v (.bool false), .v (.bool false), .v (.bool false), .v (.bool false), .v (.bool false), .v (.bool false), .v (.bool false), .v (.bool false), .v (.bool false)]),oV 3 (rmv (.const (.bool false)))]) (.seq (.seq (.ops [oV 4 (rmv (K 0))]) (.block 0 (.loop c93_17))) (.seq (.ops [oV 20 (rload true 256 (T 2)),oS (rstore 256 (T 2) (T 20)),oV 3 (rmv (.const (.bool true)))]) .ret))
theorem fn93 : env.fn 93 = some ⟨21, [.cell 2 127, .tmp 3], body93⟩ := by kernel_rfl
theorem comp93 : comp env body93 = c93_24 := by kernel_rfl
def body94 : Code := match Tryz.f94.body with | some c => c | none => .skip
abbrev c94_10 : RC := .seq (.seq (.ops [mv 5 0,oV 6 (rlenS (T 5)),oV 7 (rbin env .gtr 3 false true (T 6) (K 0))]) (.cond (rX 7) .skip (.exit 0))) (.block 1 (.seq (.seq (.ops [mv 8 1,mv 9 0,oV 10 (ridxS (T 9) (K 0)),oC 11 (.func 113) [(T 8), (T 10)],oV 12 (run' .not (T 11))]) (.cond (rX 12) (.exit 0) .skip)) (.ops [mv 13 0,oV 14 (rsliceS (T 13) (some (K 1)) none),mv 0 14])))
abbrev c94_16 : RC := .seq (.ops [oV 4 (rmv (.const (.string ⟨#[]⟩)))]) (.seq (.block 0 (.loop c94_10)) (.seq (.ops [mv 15 0,mv 4 15]) .ret))
theorem fn94 : env.fn 94 = some ⟨16, [.tmp 4], body94⟩ := by kernel_rfl
theorem comp94 : comp env body94 = c94_16 := by kernel_rfl
def body95 : Code := match Tryz.f95.body with | some c => c | none => .skip
abbrev c95_10 : RC := .seq (.seq (.ops [mv 5 0,oV 6 (rlenS (T 5)),oV 7 (rbin env .gtr 3 false true (T 6) (K 0))]) (.cond (rX 7) .skip (.exit 0))) (.block 1 (.seq (.seq (.ops [mv 8 1,mv 9 0,mv 10 0,oV 11 (rlenS (T 10)),oV 12 (rbin env .sub 3 false true (T 11) (K 1)),oV 13 (ridxS (T 9) (T 12)),oC 14 (.func 113) [(T 8), (T 13)],oV 15 (run' .not (T 14))]) (.cond (rX 15) (.exit 0) .skip)) (.ops [mv 16 0,mv 17 0,oV 18 (rlenS (T 17)),oV 19 (rbin env .sub 3 false true (T 18) (K 1)),oV 20 (rsliceS (T 16) none (some (T 19))),mv 0 20])))
abbrev c95_16 : RC := .seq (.ops [oV 4 (rmv (.const (.string ⟨#[]⟩)))]) (.seq (.block 0 (.loop c95_10)) (.seq (.ops [mv 21 0,mv 4 21]) .ret))
theorem fn95 : env.fn 95 = some ⟨22, [.tmp 4], body95⟩ := by kernel_rfl
theorem comp95 : comp env body95 = c95_16 := by kernel_rfl
def body98 : Code := match Tryz.f98.body with | some c => c | none => .skip
abbrev c98_3 : RC := .seq (.ops [oV 4 (rmv (K 0))]) (.seq (.ops [mv 5 0,mv 6 1,oC 7 (.func 115) [(T 5), (T 6), (.const (.bool true))],mv 4 7]) .ret)
theorem fn98 : env.fn 98 = some ⟨8, [.tmp 4], body98⟩ := by kernel_rfl
theorem comp98 : comp env body98 = c98_3 := by kernel_rfl
def body99 : Code := match Tryz.f99.body with | some c => c | none => .skip
abbrev c99_141 : RC := .seq (.ops [oV 4 (rmv (K 0))]) (.block 0 (.seq (.ops [mv 161 1,oV 162 (rbin env .leq 21 true false (.const (.int .i32 0)) (T 161)),mv 163 162,oG 164 163 true (rmv (T 1)),oG 165 163 true (rbin env .lss 21 false true (T 164) (.const (.int .i32 128))),oV 166 (rpick (T 163) (T 165) (.const (.bool false))),mv 160 166]) (.cond (rX 160) (.seq (.ops [mv 167 0,mv 168 1,oU 169 (rconvI .u8 (T 168)),oC 170 (.func 116) [(T 167), (T 169)],mv 4 170]) .ret) (.seq (.ops [mv 172 1,oV 173 (rbin env .eql 21 false true (T 172) (.const (.int .i32 65533))),mv 171 173]) (.cond (rX 171) (.seq (.seq (.ops [mv 174 0,oU 175 (rrange (T 174))]) (.block 9 (.loop (.seq (.ops [oU 176 (rnext (T 175)),oV 177 (rext (T 176) 0)]) (.seq (.cond (rX 177) .skip (.exit 9)) (.block 10 (.seq (.ops [oV 178 (rext (T 176) 1),oV 179 (rext (T 176) 2),mv 5 178,mv 6 179]) (.seq (.ops [mv 180 6,oV 181 (rbin env .eql 21 false true (T 180) (.const (.int .i32 65533)))]) (.cond (rX 181) (.seq (.ops [mv 182 5,mv 4 182]) .ret) .skip))))))))) (.seq (.ops [oV 4 (rmv (K (-1)))]) .ret)) (.seq (.ops [mv 184 1,oC 185 (.func 117) [(T 184)],oV 186 (run' .not (T 185)),mv 183 186]) (.cond (rX 183) (.seq (.ops [oV 4 (rmv (K (-1)))]) .ret) (.scope (subc [1, 0, 1, 1, 1, 1, 1, 1, 0] body99)))))))))
theorem fn99 : env.fn 99 = some ⟨187, [.tmp 4], body99⟩ := by kernel_rfl
theorem comp99 : comp env body99 = c99_141 := by kernel_rfl
def body100 : Code := match Tryz.f100.body with | some c => c | none => .skip
abbrev c100_3 : RC := .seq (.ops [oV 4 (rmv (K 0))]) (.seq (.ops [mv 5 0,mv 6 1,oC 7 (.func 120) [(T 5), (T 6)],mv 4 7]) .ret)
theorem fn100 : env.fn 100 = some ⟨8, [.tmp 4], body100⟩ := by kernel_rfl
theorem comp100 : comp env body100 = c100_3 := by kernel_rfl
def body106 : Code := match Tryz.f106.body with | some c => c | none => .skip
abbrev c106_34 : RC := .seq (.seq (.ops [mv 34 10,mv 35 3,oV 36 (rbin env .lss 3 false false (T 34) (T 35))]) (.cond (rX 36) .skip (.exit 0))) (.block 1 (.seq (.ops [mv 37 0,mv 38 1,oC 39 (.func 90) [(T 37), (T 38)],mv 11 39]) (.seq (.seq (.ops [mv 40 11,oV 41 (rbin env .lss 3 false true (T 40) (K 0))]) (.cond (rX 41) (.exit 0) .skip)) (.seq (.ops [mv 42 9,mv 43 10,mv 44 0,mv 45 11,mv 46 2,oV 47 (rbin env .add 3 false false (T 45) (T 46)),oV 48 (rsliceS (T 44) none (some (T 47))),oV 49 (riaddr 1 (T 42) (T 43)),oS (rstore 1 (T 49) (T 48))]) (.seq (.ops [mv 50 0,mv 51 11,mv 52 1,oV 53 (rlenS (T 52)),oV 54 (rbin env .add 3 false false (T 51) (T 53)),oV 55 (rsliceS (T 50) (some (T 54)) none),mv 0 55]) (.ops [mv 56 10,oV 57 (rbin env .add 3 false true (T 56) (K 1)),mv 10 57]))))))
abbrev c106_49 : RC := .seq (.ops [oV 8 (rmv (.const (.slice none 0 0)))]) (.seq (.seq (.ops [mv 12 3,oV 13 (rbin env .eql 3 false true (T 12) (K 0))]) (.cond (rX 13) (.seq (.ops [oV 8 (rmv (.const (.slice none 0 0)))]) .ret) .skip)) (.seq (.seq (.ops [mv 14 1,oV 15 (rbin env .eql 9 false true (T 14) (.const (.string ⟨#[]⟩)))]) (.cond (rX 15) (.seq (.ops [mv 16 0,mv 17 3,oC 18 (.func 122) [(T 16), (T 17)],mv 8 18]) .ret) .skip)) (.seq (.seq (.ops [mv 19 3,oV 20 (rbin env .lss 3 false true (T 19) (K 0))]) (.cond (rX 20) (.ops [mv 21 0,mv 22 1,oC 23 (.func 123) [(T 21), (T 22)],oV 24 (rbin env .add 3 false true (T 23) (K 1)),mv 3 24]) .skip)) (.seq (.ops [mv 25 3,mv 26 0,oV 27 (rlenS (T 26)),oV 28 (rbin env .add 3 false true (T 27) (K 1)),oV 29 (rmm minV [(T 25), (T 28)]),mv 3 29]) (.seq (.ops [mv 30 3,oU 31 (rmake 1 16 [.v (.string ⟨#[]⟩)] (T 30) (T 30)),mv 9 31]) (.seq (.ops [mv 32 3,oV 33 (rbin env .sub 3 false true (T 32) (K 1)),mv 3 33]) (.seq (.ops [oV 10 (rmv (K 0))]) (.seq (.block 0 (.loop c106_34)) (.seq (.ops [mv 58 9,mv 59 10,mv 60 0,oV 61 (riaddr 1 (T 58) (T 59)),oS (rstore 1 (T 61) (T 60))]) (.seq (.ops [mv 62 9,mv 63 10,oV 64 (rbin env .add 3 false true (T 63) (K 1)),oV 65 (rsliceL 1 (T 62) none (some (T 64)) none),mv 8 65]) .ret))))))))))
theorem fn106 : env.fn 106 = some ⟨66, [.tmp 8], body106⟩ := by kernel_rfl
theorem comp106 : comp env body106 = c106_49 := by kernel_rfl
def body107 : Code := match Tryz.f107.body with | some c => c | none => .skip
abbrev c107_3 : RC := .seq (.ops [oV 2 (rmv (.const (.bool false)))]) (.seq (.ops [mv 3 0,mv 4 0,oV 5 (rbin env .neq 9 false false (T 3) (T 4)),mv 2 5]) .ret)
theorem fn107 : env.fn 107 = some ⟨6, [.tmp 2], body107⟩ := by kernel_rfl
theorem comp107 : comp env body107 = c107_3 := by kernel_rfl
def body112 : Code := match Tryz.f112.body with | some c => c | none => .skip
abbrev c112_94 : RC := .seq (.ops [oV 4 (rmv (K 0))]) (.seq (.ops [mv 14 1,oV 15 (rlenS (T 14)),mv 5 15]) (.seq (.block 0 (.seq (.ops [mv 17 5,oV 18 (rbin env .eql 3 false true (T 17) (K 0)),mv 19 18,oG 20 19 false (rmv (T 1)),oG 21 19 false (rmv (T 0)),oG 22 19 false (rbin env .eql 9 false false (T 20) (T 21)),oV 23 (rpick (T 19) (.const (.bool true)) (T 22)),mv 16 23]) (.cond (rX 16) (.seq (.ops [oV 4 (rmv (K 0))]) .ret) (.seq (.ops [mv 25 5,oV 26 (rbin env .eql 3 false true (T 25) (K 1)),mv 24 26]) (.cond (rX 24) (.seq (.ops [mv 27 0,mv 28 1,oV 29 (ridxS (T 28) (K 0)),oC 30 (.func 124) [(T 27), (T 29)],mv 4 30]) .ret) (.seq (.ops [mv 32 5,mv 33 0,oV 34 (rlenS (T 33)),oV 35 (rbin env .geq 3 false false (T 32) (T 34)),mv 31 35]) (.cond (rX 31) (.seq (.ops [oV 4 (rmv (K (-1)))]) .ret) (.seq (.ops [mv 37 5,oV 38 (rload false 1 (.global 0)),oV 39 (rbin env .leq 3 false false (T 37) (T 38)),mv 40 39,oG 41 40 true (rmv (T 0)),oG 42 40 true (rlenS (T 41)),oG 43 40 true (rbin env .leq 3 false true (T 42) (K 64)),oV 44 (rpick (T 40) (T 43) (.const (.bool false))),mv 36 44]) (.cond (rX 36) (.seq (.ops [mv 45 0,mv 46 1,oC 47 (.func 119) [(T 45), (T 46)],mv 4 47]) .ret) .skip))))))))) (.seq (.ops [mv 48 1,oV 49 (ridxS (T 48) (K 0)),mv 6 49]) (.seq (.ops [mv 50 1,oV 51 (ridxS (T 50) (K 1)),mv 7 51]) (.seq (.ops [oV 8 (rmv (K 0))]) (.seq (.ops [mv 52 0,oV 53 (rlenS (T 52)),mv 54 5,oV 55 (rbin env .sub 3 false false (T 53) (T 54)),oV 56 (rbin env .add 3 false true (T 55) (K 1)),mv 9 56]) (.seq (.ops [oV 10 (rmv (K 0))]) (.seq (.block 1 (.loop (.seq (.seq (.ops [mv 57 8,mv 58 9,oV 59 (rbin env .lss 3 false false (T 57) (T 58))]) (.cond (rX 59) .skip (.exit 1))) (.block 2 (.seq (.seq (.ops [mv 60 0,mv 61 8,oV 62 (ridxS (T 60) (T 61)),mv 63 6,oV 64 (rbin env .neq 5 false false (T 62) (T 63))]) (.cond (rX 64) (.seq (.ops [mv 65 0,mv 66 8,oV 67 (rbin env .add 3 false true (T 66) (K 1)),mv 68 9,oV 69 (rsliceS (T 65) (some (T 67)) (some (T 68))),mv 70 6,oC 71 (.func 124) [(T 69), (T 70)],mv 11 71]) (.seq (.seq (.ops [mv 72 11,oV 73 (rbin env .lss 3 false true (T 72) (K 0))]) (.cond (rX 73) (.seq (.ops [oV 4 (rmv (K (-1)))]) .ret) .skip)) (.ops [mv 74 8,mv 75 11,oV 76 (rbin env .add 3 false true (T 75) (K 1)),oV 77 (rbin env .add 3 false false (T 74) (T 76)),mv 8 77]))) .skip)) (.seq (.seq (.ops [mv 78 0,mv 79 8,oV 80 (rbin env .add 3 false true (T 79) (K 1)),oV 81 (ridxS (T 78) (T 80)),mv 82 7,oV 83 (rbin env .eql 5 false false (T 81) (T 82)),mv 84 83,oG 85 84 true (rmv (T 0)),oG 86 84 true (rmv (T 8)),oG 87 84 true (rmv (T 8)),oG 88 84 true (rmv (T 5)),oG 89 84 true (rbin env .add 3 false false (T 87) (T 88)),oG 90 84 true (rsliceS (T 85) (some (T 86)) (some (T 89))),oG 91 84 true (rmv (T 1)),oG 92 84 true (rbin env .eql 9 false false (T 90) (T 91)),oV 93 (rpick (T 84) (T 92) (.const (.bool false)))]) (.cond (rX 93) (.seq (.ops [mv 94 8,mv 4 94]) .ret) .skip)) (.seq (.ops [mv 95 8,oV 96 (rbin env .add 3 false true (T 95) (K 1)),mv 8 96]) (.seq (.ops [mv 97 10,oV 98 (rbin env .add 3 false true (T 97) (K 1)),mv 10 98]) (.seq (.ops [mv 99 5,oV 100 (rload false 1 (.global 0)),oV 101 (rbin env .leq 3 false false (T 99) (T 100)),mv 102 101,oG 103 102 true (rmv (T 10)),oG 104 102 true (rmv (T 8)),oCG 105 102 true (.func 118) [(T 104)],oG 106 102 true (rbin env .gtr 3 false false (T 103) (T 105)),oV 107 (rpick (T 102) (T 106) (.const (.bool false)))]) (.cond (rX 107) (.seq (.ops [mv 108 0,mv 109 8,oV 110 (rsliceS (T 108) (some (T 109)) none),mv 111 1,oC 112 (.func 119) [(T 110), (T 111)],mv 12 112]) (.seq (.seq (.ops [mv 113 12,oV 114 (rbin env .geq 3 false true (T 113) (K 0))]) (.cond (rX 114) (.seq (.ops [mv 115 12,mv 116 8,oV 117 (rbin env .add 3 false false (T 115) (T 116)),mv 4 117]) .ret) .skip)) (.seq (.ops [oV 4 (rmv (K (-1)))]) .ret))) (.seq (.ops [mv 118 5,oV 119 (rload false 1 (.global 0)),oV 120 (rbin env .gtr 3 false false (T 118) (T 119)),mv 121 120,oG 122 121 true (rmv (T 10)),oG 123 121 true (rmv (T 8)),oG 124 121 true (rbin env .shr 3 false true (T 123) (.const (.int .u64 4))),oG 125 121 true (rbin env .add 3 true false (K 4) (T 124)),oG 126 121 true (rbin env .geq 3 false false (T 122) (T 125)),oV 127 (rpick (T 121) (T 126) (.const (.bool false))),mv 128 127,oG 129 128 true (rmv (T 8)),oG 130 128 true (rmv (T 9)),oG 131 128 true (rbin env .lss 3 false false (T 129) (T 130)),oV 132 (rpick (T 128) (T 131) (.const (.bool false)))]) (.cond (rX 132) (.seq (.ops [mv 133 0,mv 134 8,oV 135 (rsliceS (T 133) (some (T 134)) none),mv 136 1,oC 137 (.func 125) [(T 135), (T 136)],mv 13 137]) (.seq (.seq (.ops [mv 138 13,oV 139 (rbin env .lss 3 false true (T 138) (K 0))]) (.cond (rX 139) (.seq (.ops [oV 4 (rmv (K (-1)))]) .ret) .skip)) (.seq (.ops [mv 140 8,mv 141 13,oV 142 (rbin env .add 3 false false (T 140) (T 141)),mv 4 142]) .ret))) .skip)))))))))))) (.seq (.ops [oV 4 (rmv (K (-1)))]) .ret)))))))))
theorem fn112 : env.fn 112 = some ⟨143, [.tmp 4], body112⟩ := by kernel_rfl
theorem comp112 : comp env body112 = c112_94 := by kernel_rfl
def body113 : Code := match Tryz.f113.body with | some c => c | none => .skip
abbrev c113_3 : RC := .seq (.ops [oV 4 (rmv (.const (.bool false)))]) (.seq (.ops [mv 5 0,mv 6 1,oV 7 (rnil (T 5)),oV 8 (riaddrA 256 1 (T 7) (T 6)),oV 9 (rload false 1 (T 8)),mv 4 9]) .ret)
theorem fn113 : env.fn 113 = some ⟨10, [.tmp 4], body113⟩ := by kernel_rfl
theorem comp113 : comp env body113 = c113_3 := by kernel_rfl
def body115 : Code := match Tryz.f115.body with | some c => c | none => .skip
abbrev c115_13 : RC := .seq (.ops [oU 11 (rnext (T 10)),oV 12 (rext (T 11) 0)]) (.seq (.cond (rX 12) .skip (.exit 0)) (.block 1 (.seq (.ops [oV 13 (rext (T 11) 1),oV 14 (rext (T 11) 2),mv 7 13,mv 8 14]) (.seq (.ops [mv 15 1,mv 16 8,oC 17 (T 15) [(T 16)],mv 18 2,oV 19 (rbin env .eql 4 false false (T 17) (T 18))]) (.cond (rX 19) (.seq (.ops [mv 20 7,mv 6 20]) .ret) .skip)))))
abbrev c115_20 : RC := .seq (.ops [oV 6 (rmv (K 0))]) (.seq (.seq (.ops [mv 9 0,oU 10 (rrange (T 9))]) (.block 0 (.loop c115_13))) (.seq (.ops [oV 6 (rmv (K (-1)))]) .ret))
theorem fn115 : env.fn 115 = some ⟨21, [.tmp 6], body115⟩ := by kernel_rfl
theorem comp115 : comp env body115 = c115_20 := by kernel_rfl
def body116 : Code := match Tryz.f116.body with | some c => c | none => .skip
abbrev c116_3 : RC := .seq (.ops [oV 4 (rmv (K 0))]) (.seq (.ops [mv 5 0,mv 6 1,oC 7 (.func 124) [(T 5), (T 6)],mv 4 7]) .ret)
theorem fn116 : env.fn 116 = some ⟨8, [.tmp 4], body116⟩ := by kernel_rfl
theorem comp116 : comp env body116 = c116_3 := by kernel_rfl
def body120 : Code := match Tryz.f120.body with | some c => c | none => .skip
abbrev c120_13 : RC := .seq (.seq (.ops [mv 9 5,oV 10 (rbin env .geq 3 false true (T 9) (K 0))]) (.cond (rX 10) .skip (.exit 0))) (.seq (.block 1 (.seq (.ops [mv 13 0,mv 14 5,oV 15 (ridxS (T 13) (T 14)),mv 16 1,oV 17 (rbin env .eql 5 false false (T 15) (T 16))]) (.cond (rX 17) (.seq (.ops [mv 18 5,mv 4 18]) .ret) .skip))) (.ops [mv 11 5,oV 12 (rbin env .sub 3 false true (T 11) (K 1)),mv 5 12]))
abbrev c120_20 : RC := .seq (.ops [oV 4 (rmv (K 0))]) (.seq (.seq (.ops [mv 6 0,oV 7 (rlenS (T 6)),oV 8 (rbin env .sub 3 false true (T 7) (K 1)),mv 5 8]) (.block 0 (.loop c120_13))) (.seq (.ops [oV 4 (rmv (K (-1)))]) .ret))
theorem fn120 : env.fn 120 = some ⟨19, [.tmp 4], body120⟩ := by kernel_rfl
theorem comp120 : comp env body120 = c120_20 := by kernel_rfl
def body123 : Code := match Tryz.f123.body with | some c => c | none => .skip
abbrev c123_29 : RC := .seq (.ops [oV 4 (rmv (K 0))]) (.seq (.seq (.ops [mv 7 1,oV 8 (rlenS (T 7)),oV 9 (rbin env .eql 3 false true (T 8) (K 0))]) (.cond (rX 9) (.seq (.ops [mv 10 0,oC 11 (.func 127) [(T 10)],oV 12 (rbin env .add 3 false true (T 11) (K 1)),mv 4 12]) .ret) .skip)) (.seq (.seq (.ops [mv 13 1,oV 14 (rlenS (T 13)),oV 15 (rbin env .eql 3 false true (T 14) (K 1))]) (.cond (rX 15) (.seq (.ops [mv 16 0,mv 17 1,oV 18 (ridxS (T 17) (K 0)),oC 19 (.func 128) [(T 16), (T 18)],mv 4 19]) .ret) .skip)) (.seq (.ops [oV 5 (rmv (K 0))]) (.block 0 (.loop (.block 1 (.seq (.ops [mv 20 0,mv 21 1,oC 22 (.func 90) [(T 20), (T 21)],mv 6 22]) (.seq (.seq (.ops [mv 23 6,oV 24 (rbin env .eql 3 false true (T 23) (K (-1)))]) (.cond (rX 24) (.seq (.ops [mv 25 5,mv 4 25]) .ret) .skip)) (.seq (.ops [mv 26 5,oV 27 (rbin env .add 3 false true (T 26) (K 1)),mv 5 27]) (.ops [mv 28 0,mv 29 6,mv 30 1,oV 31 (rlenS (T 30)),oV 32 (rbin env .add 3 false false (T 29) (T 31)),oV 33 (rsliceS (T 28) (some (T 32)) none),mv 0 33]))))))))))
theorem fn123 : env.fn 123 = some ⟨34, [.tmp 4], body123⟩ := by kernel_rfl
theorem comp123 : comp env body123 = c123_29 := by kernel_rfl
def body124 : Code := match Tryz.f124.body with | some c => c | none => .skip
abbrev c124_3 : RC := .seq (.ops [oV 4 (rmv (K 0))]) (.seq (.ops [mv 5 0,mv 6 1,oC 7 (.func 129) [(T 5), (T 6)],mv 4 7]) .ret)
theorem fn124 : env.fn 124 = some ⟨8, [.tmp 4], body124⟩ := by kernel_rfl
theorem comp124 : comp env body124 = c124_3 := by kernel_rfl
end
end Go.Proofs.YthjlhgjnjhmfbaaGreatDoor
end
namespace Go.Am
open Go.RowKit
inductive Sh where
 | bool | int (k : IntKind) | str | sl (l : List Sh)
mutual
inductive Typ (P : Program) : TypeId -> List Sh -> Prop where
 | bool {t : TypeId} (h : P.underlying t = some .bool) : Typ P t [.bool]
 | int {t : TypeId} {k : IntKind} (h : P.underlying t = some (.int k)) : Typ P t [.int k]
 | str {t : TypeId} (h : P.underlying t = some .string) : Typ P t [.str]
 | sl {t e : TypeId} {l : List Sh} (h : P.underlying t = some (.slice e)) (he : Typ P e l) (hc : P.cellsOf e = l.length) (h0 : l.length ≠ 0) (hs : l.length < 4096) : Typ P t [.sl l]
 | struct {t : TypeId} {fs : Array Field} {l : List Sh} (h : P.underlying t = some (.struct fs)) (hf : TypFs P fs.toList 0 l) (hc : P.cellsOf t = l.length) : Typ P t l
inductive TypFs (P : Program) : List Field -> Nat -> List Sh -> Prop where
 | nil {n : Nat} : TypFs P [] n []
 | cons {f : Field} {fs : List Field} {n : Nat} {l l' : List Sh} (ho : f.offset = n) (h : Typ P f.type l) (hc : P.cellsOf f.type = l.length) (hs : TypFs P fs (n + l.length) l') : TypFs P (f :: fs) n (l ++ l')
end
mutual
inductive ShP : Sh -> DV -> Prop where
 | bool (b : Bool) : ShP .bool (.v (.bool b))
 | int {k : IntKind} (n : Int) (h1 : k.min <= n) (h2 : n <= k.max) : ShP (.int k) (.v (.int k n))
 | str (s : ByteArray) (h : s.size <= maxLen) : ShP .str (.v (.string s))
 | nil (l : List Sh) : ShP (.sl l) (.v (.slice none 0 0))
 | sl {l : List Sh} {n : Nat} {cs : List DV} (h : ShRows l n cs) (hn : n <= maxLen) (hl : l.length < 4096) : ShP (.sl l) (.lst l.length n cs)
inductive ShPs : List Sh -> List DV -> Prop where
 | nil : ShPs [] []
 | cons {s : Sh} {d : DV} {l : List Sh} {l' : List DV} (h : ShP s d) (hs : ShPs l l') : ShPs (s :: l) (d :: l')
inductive ShRows : List Sh -> Nat -> List DV -> Prop where
 | nil (l : List Sh) : ShRows l 0 []
 | cons {l : List Sh} {n : Nat} {r cs : List DV} (h : ShPs l r) (hs : ShRows l n cs) : ShRows l (n + 1) (r ++ cs)
end
theorem ShPs.length : ∀ {l : List Sh} {ds : List DV}, ShPs l ds -> ds.length = l.length
 | _, _, .nil => rfl
 | _, _, .cons _ hs => by simp only [List.length_cons, hs.length]
theorem ShPs.append : ∀ {l l' : List Sh} {ds ds' : List DV}, ShPs l ds -> ShPs l' ds' -> ShPs (l ++ l') (ds ++ ds')
 | _, _, _, _, .nil, h' => h'
 | _, _, _, _, .cons h hs, h' => .cons h (hs.append h')
theorem ShRows.length {l : List Sh} : ∀ {n : Nat} {cs : List DV}, ShRows l n cs -> cs.length = n * l.length
 | _, _, .nil _ => by simp
 | _, _, .cons h hs => by rw [List.length_append, h.length, hs.length, Nat.succ_mul, Nat.add_comm]
theorem DWs.append {w : World} {l l' : List DV} {vs vs' : List Value} (h : DWs w l vs) (h' : DWs w l' vs') : DWs w (l ++ l') (vs ++ vs') := by
 cases h with
 | nil => exact h'
 | cons h hs => exact .cons h (hs.append h')
section
variable {H : Type} {enc : TypeId × Value -> H} {P : Program} {w : World} {base : Nat} {spare : Nat -> Bool} {held : Bool}
theorem cells?_get {a : Addr} {n : Nat} {cs : List Value} (h : w.cells? base a n = some cs) : cs.length = n /\ ∀ (i : Nat) v, cs[i]? = some v -> w.cell? (a.add i) = some v := by
 unfold World.cells? at h
 split at h
 ·have hl := mapM_some_length h
  simp at hl
  refine ⟨hl, fun i v e => ?_⟩
  have hi : i < n := by
   rcases Nat.lt_or_ge i cs.length with hx | hx
   ·omega
   ·rw [List.getElem?_eq_none hx] at e; cases e
  have := mapM_some_get h i i (by simp [hi])
  rw [this, e]
 ·cases h
theorem cell_path {a : Addr} {v : Value} (h : w.cell? a = some v) : a.block < w.heap.size := by
 rcases Nat.lt_or_ge a.block w.heap.size with hx | hx
 ·exact hx
 ·unfold World.cell? at h
  rw [Array.getElem?_eq_none hx] at h
  simp at h
theorem read_rows {a : Addr} {e : TypeId} {l : List Sh} {fuel : Nat} (hc : P.cellsOf e = l.length)
  (hr : ∀ (cs : List Value) (x : DataW H × List MemPlace), DataW.trod enc P w base spare held fuel e cs = some x -> ∃ ds, DWs w ds cs /\ ShPs l ds) : ∀ (n i : Nat),
  (∀ j, i <= j -> j < i + n -> ((w.cells? base (a.add (j * P.cellsOf e)) (P.cellsOf e)).bind (DataW.trod enc P w base spare held fuel e)).isSome = true) →
  ∃ (ds : List DV) (vs : List Value), (∀ (j : Nat) v, vs[j]? = some v -> w.cell? (a.add (i * l.length + j)) = some v) /\ DWs w ds vs /\ ShRows l n ds
 | 0, i, _ => ⟨[], [], fun j v e => by simp at e, .nil, .nil l⟩
 | n + 1, i, h => by
  have h0 := h i (Nat.le_refl _) (by omega)
  rw [Option.isSome_iff_exists] at h0
  obtain ⟨x, h0⟩ := h0
  simp only [Option.bind_eq_some_iff] at h0
  obtain ⟨cs, k1, k2⟩ := h0
  obtain ⟨ds, k3, k4⟩ := hr cs x k2
  obtain ⟨kl, kc⟩ := cells?_get k1
  obtain ⟨ds', vs', g1, g2, g3⟩ := read_rows hc hr n (i + 1) (fun j hj hj' => h j (by omega) (by omega))
  refine ⟨ds ++ ds', cs ++ vs', fun j v e => ?_, k3.append g2, .cons k4 g3⟩
  rcases Nat.lt_or_ge j cs.length with hx | hx
  ·rw [List.getElem?_append_left hx] at e
   have := kc j v e
   rw [hc] at this
   have e3 : (a.add (i * l.length)).add j = a.add (i * l.length + j) := by
    unfold Addr.add
    split <;> split <;> simp_all <;> omega
   rw [e3] at this
   exact this
  ·rw [List.getElem?_append_right hx] at e
   have := g1 _ v e
   rw [Nat.succ_mul, show i * l.length + l.length + (j - cs.length) = i * l.length + j by omega] at this
   exact this
theorem cell_spot {a : Addr} {v : Value} (h : w.cell? a = some v) : a.spot = none := by
 unfold World.cell? at h
 cases hs : a.spot with
 | none => rfl
 | some x =>
  rw [hs] at h
  split at h <;> simp at h
theorem open_slT {t e : TypeId} {l : List Sh} (hu : P.underlying t = some (.slice e)) (hc : P.cellsOf e = l.length) (h0 : l.length ≠ 0) (hs : l.length < 4096)
  (hr : ∀ (fuel : Nat) (cs : List Value) (x : DataW H × List MemPlace), DataW.trod enc P w base (fun _ => true) held fuel e cs = some x -> ∃ ds, DWs w ds cs /\ ShPs l ds)
  {fuel : Nat} {cs : List Value} {x : DataW H × List MemPlace} (h : DataW.trod enc P w base (fun _ => true) held fuel t cs = some x) : ∃ ds, DWs w ds cs /\ ShPs [.sl l] ds := by
 rcases DataW.trod_slice hu h with ⟨rfl, _⟩ | ⟨a, len, cap, elems, rest, n, rfl, rfl, -, -, hle, hmax, hlen, hel, hrest, -⟩
 ·exact ⟨[.v (.slice none 0 0)], .cons (.v rfl) .nil, .cons (.nil l) .nil⟩
 ·obtain ⟨ds, vs, k1, k2, k3⟩ := read_rows (a := a) hc (hr n) len 0 (fun j _ hj => by rw [hel j (by omega)]; simp; omega)
  have hsh : ShPs [.sl l] [DV.lst l.length len ds] := .cons (.sl k3 (by omega) hs) .nil
  by_cases hcap : cap = 0
  ·subst hcap
   have : len = 0 := by omega
   subst this
   have hd : ds = [] := by cases k3; rfl
   subst hd
   exact ⟨_, .cons (.emp _ a hs) .nil, hsh⟩
  ·have hfirst : ∃ v, w.cell? (a.add (0 * P.cellsOf e)) = some v := by
    have : ∃ x, ((w.cells? base (a.add (0 * P.cellsOf e)) (P.cellsOf e)).bind (DataW.trod enc P w base (fun _ => true) held n e)) = some x := by
     by_cases hl : 0 < len
     ·rw [hel 0 hl]; exact ⟨elems[0], by simp⟩
     ·obtain ⟨hr1, hr2⟩ := hrest rfl
      have := hr2 0 (by omega)
      have e0 : len = 0 := by omega
      subst e0
      simp only [Nat.zero_add] at this
      rw [this]; exact ⟨rest[0], by simp⟩
    obtain ⟨x, hx⟩ := this
    simp only [Option.bind_eq_some_iff] at hx
    obtain ⟨cs, k1, _⟩ := hx
    obtain ⟨kl, kc⟩ := cells?_get k1
    have h0' : 0 < cs.length := by omega
    refine ⟨cs[0], ?_⟩
    have := kc 0 cs[0] (by simp)
    simpa [Addr.add] using this
   obtain ⟨v0, hv0⟩ := hfirst
   rw [Nat.zero_mul, show a.add 0 = a from rfl] at hv0
   have hsp := cell_spot hv0
   have hb := cell_path hv0
   obtain ⟨b, off, spot⟩ := a
   simp only at hsp hb
   subst hsp
   refine ⟨_, .cons (.lst hb (by rw [k3.length]) hle hs (fun j v e => ?_) k2) .nil, hsh⟩
   have := k1 j v e
   rw [Nat.zero_mul, Nat.zero_add] at this
   have e2 : (⟨b, off, none⟩ : Addr).add j = ⟨b, off + j, none⟩ := by
    unfold Addr.add; split
    ·rename_i h; subst h; rfl
    ·rfl
   rw [e2] at this; exact this
mutual
theorem open_typ : ∀ {t : TypeId} {l : List Sh}, Typ P t l -> ∀ (fuel : Nat) (cs : List Value) (x : DataW H × List MemPlace), DataW.trod enc P w base (fun _ => true) held fuel t cs = some x -> ∃ ds, DWs w ds cs /\ ShPs l ds
 | _, _, .bool hu, fuel, cs, x, h => by
  obtain ⟨b, rfl, -⟩ := DataW.trod_bool hu h
  exact ⟨_, .cons (.v rfl) .nil, .cons (.bool b) .nil⟩
 | _, _, .int hu, fuel, cs, x, h => by
  obtain ⟨n, rfl, -, hw⟩ := DataW.trod_int hu h
  simp only [Lit.wf, Bool.and_eq_true, decide_eq_true_eq] at hw
  exact ⟨_, .cons (.v rfl) .nil, .cons (.int n hw.1 hw.2) .nil⟩
 | _, _, .str hu, fuel, cs, x, h => by
  obtain ⟨s, rfl, -, hs⟩ := DataW.trod_string hu h
  exact ⟨_, .cons (.v rfl) .nil, .cons (.str s hs) .nil⟩
 | _, _, .sl hu he hc h0 hs, fuel, cs, x, h => open_slT hu hc h0 hs (open_typ he) h
 | _, _, .struct (l := l) hu hf hc, fuel, cs, x, h => by
  obtain ⟨xs, n, rfl, rfl, hl, hn, hx⟩ := DataW.trod_struct hu h
  obtain ⟨ds, k1, k2⟩ := open_fs hf n cs (fun i f e => by
   rw [hx i f (by simpa using e)]
   have hi : i < xs.length := by
    rw [hn]
    rcases Nat.lt_or_ge i _ with h' | h'
    ·exact h'
    ·rw [List.getElem?_eq_none (by simpa using h')] at e; cases e
   exact ⟨xs[i], by simp⟩) (by rw [hl, hc]; omega)
  rw [List.drop_zero, List.take_of_length_le (by rw [hl, hc]; exact Nat.le_refl _)] at k1
  exact ⟨ds, k1, k2⟩
theorem open_fs : ∀ {fs : List Field} {n : Nat} {l : List Sh}, TypFs P fs n l -> ∀ (fuel : Nat) (cs : List Value),
  (∀ (i : Nat) f, fs[i]? = some f -> ∃ x, DataW.trod enc P w base (fun _ => true) held fuel f.type ((cs.drop f.offset).take (P.cellsOf f.type)) = some x) -> n + l.length <= cs.length →
  ∃ ds, DWs w ds ((cs.drop n).take l.length) /\ ShPs l ds
 | _, _, _, .nil, fuel, cs, _, _ => ⟨[], by simp; exact .nil, .nil⟩
 | _, _, _, .cons (l := l) (l' := l') ho ht hc hs, fuel, cs, h, hl => by
  obtain ⟨x, hx⟩ := h 0 _ rfl
  rw [ho, hc] at hx
  obtain ⟨d1, k1, k2⟩ := open_typ ht fuel _ x hx
  rw [List.length_append] at hl
  obtain ⟨d2, g1, g2⟩ := open_fs hs fuel cs (fun i f e => h (i + 1) f e) (by omega)
  refine ⟨d1 ++ d2, ?_, k2.append g2⟩
  rw [List.length_append, List.take_add, List.drop_drop]
  exact k1.append g1
end
def oneT : Option TypeDesc -> Bool
 | some .bool => true
 | some (.int _) => true
 | some .string => true
 | some (.slice _) => true
 | _ => false
theorem open_one {W0 : World} {b0 : Nat} {t : TypeId} {s : Sh} {v : Value} {d : DataW H} {p : List MemPlace} (hT : Typ P t [s]) (hu : oneT (P.underlying t) = true) (hv : Value.okWide P W0 .any b0 t v)
  (h : DataW.Trod enc P w base (fun _ => true) held t v d p) : ∃ ds, DW w ds v /\ ShP s ds := by
 obtain ⟨fuel, h⟩ := h
 obtain ⟨ds, k1, k2⟩ := open_typ hT fuel _ _ h
 have hna : ∀ cs, v ≠ .agg cs := by
  intro cs e
  subst e
  unfold Value.okWide at hv
  unfold oneT at hu
  split at hu <;> rename_i hq <;> first | (cases hu; done) | (rw [hq] at hv; simp [Cell.okWide, Cell.ok, hq] at hv)
 have hc : v.cells.toList = [v] := by
  unfold Value.cells
  split
  ·exact absurd rfl (hna _)
  ·rfl
 rw [hc] at k1
 cases k2 with
 | cons k2 k3 =>
  cases k1 with
  | cons k1 _ => exact ⟨_, k1, k2⟩
theorem open_agg {W0 : World} {b0 : Nat} {t : TypeId} {l : List Sh} {fs : Array Field} {v : Value} {d : DataW H} {p : List MemPlace} (hT : Typ P t l) (hu : P.underlying t = some (.struct fs)) (hv : Value.okWide P W0 .any b0 t v)
  (h : DataW.Trod enc P w base (fun _ => true) held t v d p) : ∃ ds, DW w (.agg ds) v /\ ShPs l ds := by
 obtain ⟨fuel, h⟩ := h
 obtain ⟨ds, k1, k2⟩ := open_typ hT fuel _ _ h
 unfold Value.okWide at hv
 rw [hu] at hv
 obtain ⟨cs, rfl, _, _⟩ := hv
 exact ⟨ds, .agg k1, k2⟩
end
end Go.Am
namespace Go.Pm
open Go.RowKit Go.Am
mutual
def pvD : Sh -> DV -> PV
 | .sl l, .v _ => .lst .no l.length 0 []
 | .sl l, .lst es n cs => .lst .no es n (pvC l l cs)
 | _, .v x => .v x
 | _, _ => .junk
def pvC : List Sh -> List Sh -> List DV -> List PV
 | _, _, [] => []
 | l, [], d :: ds => match l with
  | [] => []
  | s :: r => pvD s d :: pvC l r ds
 | l, s :: r, d :: ds => pvD s d :: pvC l r ds
end
def pvs : List Sh -> List DV -> List PV
 | [], _ => []
 | _, [] => []
 | s :: r, d :: ds => pvD s d :: pvs r ds
theorem pvC_app (l : List Sh) : ∀ (r : List Sh) (a b : List DV), a.length = r.length -> pvC l r (a ++ b) = pvs r a ++ pvC l [] b
 | [], [], b, _ => rfl
 | s :: r, d :: a, b, h => by
  simp only [List.cons_append, pvC, pvs]
  rw [pvC_app l r a b (by simpa using h)]
theorem pvC_nil (l : List Sh) (h : l ≠ []) (ds : List DV) : pvC l [] ds = pvC l l ds := by
 cases l with
 | nil => exact absurd rfl h
 | cons s r => cases ds <;> simp [pvC]
def Holds (cx : Cx) (ng : Nat) (R : List (List Value × Nat)) : Prop := ∀ (i : Nat) vs es, R[i]? = some (vs, es) -> cx.role (ng + i) = .im vs
theorem Holds.left {cx : Cx} {ng : Nat} {R Y : List (List Value × Nat)} (h : Holds cx ng (R ++ Y)) : Holds cx ng R := fun i vs es e => h i vs es (by
 rw [List.getElem?_append_left]
 ·exact e
 ·rcases Nat.lt_or_ge i R.length with hx | hx
  ·exact hx
  ·rw [List.getElem?_eq_none hx] at e; cases e)
mutual
theorem lay_grow (ng : Nat) : ∀ (d : DV) (R : List (List Value × Nat)), ∃ Y, (lay ng d R).2 = R ++ Y
 | .v x, R => ⟨[], by simp [lay]⟩
 | .lst es k cs, R => by
  obtain ⟨Y, hY⟩ := lays_grow ng cs R
  exact ⟨Y ++ [((lays ng cs R).1, es)], by simp only [lay]; rw [hY, List.append_assoc]⟩
 | .agg cs, R => by
  obtain ⟨Y, hY⟩ := lays_grow ng cs R
  exact ⟨Y, by simp only [lay]; exact hY⟩
theorem lays_grow (ng : Nat) : ∀ (ds : List DV) (R : List (List Value × Nat)), ∃ Y, (lays ng ds R).2 = R ++ Y
 | [], R => ⟨[], by simp [lays]⟩
 | d :: ds, R => by
  obtain ⟨Y, hY⟩ := lay_grow ng d R
  obtain ⟨Y', hY'⟩ := lays_grow ng ds (lay ng d R).2
  exact ⟨Y ++ Y', by simp only [lays]; rw [hY', hY, List.append_assoc]⟩
end
theorem lays_app (ng : Nat) : ∀ (a b : List DV) (R : List (List Value × Nat)), lays ng (a ++ b) R = ((lays ng a R).1 ++ (lays ng b (lays ng a R).2).1, (lays ng b (lays ng a R).2).2)
 | [], b, R => by simp [lays]
 | d :: a, b, R => by
  simp only [List.cons_append, lays]
  rw [lays_app ng a b]
theorem lays_len (ng : Nat) : ∀ (a : List DV) (R : List (List Value × Nat)), (lays ng a R).1.length = a.length
 | [], R => by simp [lays]
 | d :: a, R => by simp only [lays, List.length_cons]; rw [lays_len ng a]
mutual
theorem lay_pr {cx : Cx} (ng : Nat) : ∀ {s : Sh} {d : DV}, ShP s d -> ∀ R, Holds cx ng (lay ng d R).2 -> PR cx (pvD s d) (lay ng d R).1
 | _, _, .bool b, R, _ => by simp only [lay, pvD]; exact .v rfl
 | _, _, .int n _ _, R, _ => by simp only [lay, pvD]; exact .v rfl
 | _, _, .str s _, R, _ => by simp only [lay, pvD]; exact .v rfl
 | _, _, .nil l, R, _ => by simp only [lay, pvD]; exact .l0 _ none 0 (.inl rfl)
 | _, _, .sl (l := l) (n := n) (cs := cs) h hn hl, R, hH => by
  simp only [lay] at hH ⊢
  have hrole := hH (lays ng cs R).2.length (lays ng cs R).1 l.length (by simp)
  obtain ⟨k1, k2⟩ := lay_rows ng h R hH.left
  simp only [pvD]
  have hlen : (pvC l l cs).length = (lays ng cs R).1.length := k1.length
  refine .lno hrole (by rw [hlen, Nat.zero_add]; exact Nat.le_refl _) ?_ ?_ (by rw [capOf_lo' _ _ hl]; exact Nat.le_refl _) (.inr (esOf_lo _ _ hl))
  ·rw [List.drop_zero, List.take_of_length_le (by rw [hlen]; exact Nat.le_refl _)]; exact k1
  ·rw [hlen, lays_len, h.length]
theorem lay_prs {cx : Cx} (ng : Nat) : ∀ {l : List Sh} {ds : List DV}, ShPs l ds -> ∀ R, Holds cx ng (lays ng ds R).2 -> PRs cx (pvs l ds) (lays ng ds R).1
 | _, _, .nil, R, _ => by simp only [lays, pvs]; exact .nil
 | _, _, .cons (d := d) (l' := ds) h hs, R, hH => by
  simp only [lays] at hH ⊢
  obtain ⟨Y, hY⟩ := lays_grow ng ds (lay ng d R).2
  refine .cons (lay_pr ng h R ?_) (lay_prs ng hs _ hH)
  rw [hY] at hH
  exact hH.left
theorem lay_rows {cx : Cx} (ng : Nat) : ∀ {l : List Sh} {n : Nat} {cs : List DV}, ShRows l n cs -> ∀ R, Holds cx ng (lays ng cs R).2 -> PRs cx (pvC l l cs) (lays ng cs R).1 /\ True
 | _, _, _, .nil l, R, _ => by
  refine ⟨?_, trivial⟩
  have : pvC l l [] = [] := by cases l <;> rfl
  rw [this]; simp only [lays]; exact .nil
 | _, _, _, .cons (l := l) (r := r) (cs := cs) h hs, R, hH => by
  refine ⟨?_, trivial⟩
  rw [lays_app] at hH ⊢
  simp only at hH ⊢
  obtain ⟨Y, hY⟩ := lays_grow ng cs (lays ng r R).2
  have h1 := lay_prs (cx := cx) ng h R (by rw [hY] at hH; exact hH.left)
  have h2 := (lay_rows (cx := cx) ng hs _ hH).1
  have e : pvC l l (r ++ cs) = pvs l r ++ pvC l l cs := by
   rw [pvC_app l l r cs h.length]
   by_cases hl : l = []
   ·subst hl
    cases cs with
    | nil => rfl
    | cons c cs => rfl
   ·rw [pvC_nil l hl]
  rw [e]
  exact h1.append h2
end
def cxR (ng : Nat) (R : List (List Value × Nat)) : Cx where
 at_ := fun k i => if k = 0 /\ i < ng then some i else none
 role := fun r => if r < ng then .ob 0 r else match R[r - ng]? with
  | some (vs, _) => .im vs
  | none => .none
 tk := fun _ _ => none
 nk := 1
theorem cxR_holds (ng : Nat) (R : List (List Value × Nat)) : Holds (cxR ng R) ng R := fun i vs es e => by
 unfold cxR
 dsimp only
 rw [if_neg (by omega), Nat.add_sub_cancel_left, e]
theorem memR_at {ng : Nat} {R : List (List Value × Nat)} {i : Nat} {vs : List Value} {es : Nat} (h : R[i]? = some (vs, es)) : (memR ng R).get (ng + i) = some (.row vs .ro es none) := by
 have hi : i < R.length := by
  rcases Nat.lt_or_ge i R.length with hx | hx
  ·exact hx
  ·rw [List.getElem?_eq_none hx] at h; cases h
 rw [Mem.get_def]
 unfold memR
 dsimp only
 have h1 : Nat.blt (ng + i) (ng + R.length) = true := by rw [Nat.blt_eq]; omega
 have h2 : Nat.blt (ng + i) ng = false := by
  cases e : Nat.blt (ng + i) ng with
  | false => rfl
  | true => rw [Nat.blt_eq] at e; omega
 rw [h1, cond_true, h2]
 dsimp only
 rw [show Nat.sub (ng + i) ng = i from Nat.add_sub_cancel_left ng i, nthK_map, h]
theorem cxR_pg {E : Env} {R : List (List Value × Nat)} (hw : Wf (memR E.ng R)) : PG E (cxR E.ng R) (fun _ _ => none) (memR E.ng R) where
 obj := fun k i o h => by cases h
 at_ := fun k i r h => by
  unfold cxR at h ⊢
  dsimp only at h ⊢
  split at h
  ·rename_i hc
   obtain ⟨hk, hi⟩ := hc
   subst hk
   cases h
   refine ⟨?_, ?_⟩
   ·show i < E.ng + R.length; omega
   ·exact .inl (if_pos hi)
  ·cases h
 nd := fun k i o r h => by cases h
 dd := fun r h => by
  unfold cxR at h
  dsimp only at h
  split at h
  ·cases h
  ·split at h <;> cases h
 im := fun r cells h => by
  unfold cxR at h
  dsimp only at h
  split at h
  ·cases h
  ·rename_i hr
   split at h
   ·rename_i vs es he
    cases h
    refine ⟨?_, .ro, es, none, ?_⟩
    ·show r < E.ng + R.length
     rcases Nat.lt_or_ge (r - E.ng) R.length with hx | hx
     ·omega
     ·rw [List.getElem?_eq_none hx] at he; cases he
    ·have := memR_at (ng := E.ng) he
     rwa [show E.ng + (r - E.ng) = r by omega] at this
   ·cases h
 mks := fun r h => by
  unfold cxR at h
  dsimp only at h
  split at h
  ·cases h
  ·split at h <;> cases h
 keys := fun k i hk => by
  unfold cxR at hk ⊢
  dsimp only at hk ⊢
  exact ⟨if_neg (by omega), rfl⟩
 tkin := fun k i k' i' r n es n' es' h => by cases h
 glob := fun g hg => by
  unfold cxR
  dsimp only
  exact if_pos ⟨rfl, hg⟩
 wf := hw
 pos := Nat.zero_lt_one
theorem law_calls {E : Env} {P : Program} {f : Nat} {x : Fun} {ds : List DV} {args : List PV} {vargs : List Value} {W : World} {v : Bool} (hE : EnvOk E P) (hf : E.fn f = some x) (hW : E.ng <= W.heap.size)
  (hd : DWs W ds vargs) (hp : ∀ cx, Holds cx E.ng (lays E.ng ds []).2 -> PRs cx args (lays E.ng ds []).1)
  (h : PT E P f args (fun _ _ => none) (fun x _ => x = .v (.bool v))) :
  Calls P f vargs.toArray W fun e W' => e = .returned (.bool v) /\ (∀ b, b < W.heap.size -> W'.heap[b]? = W.heap[b]?) /\ W.heap.size <= W'.heap.size /\ W'.os = W.os /\ W'.tape = W.tape /\ W'.output = W.output := by
 obtain ⟨Y, X, h1, h2, h3, h4⟩ := lays_ok E.ng hd [] [] rfl
 simp only [List.nil_append] at h1 h4
 have hPR := hp (cxR E.ng (lays E.ng ds []).2) (cxR_holds _ _)
 generalize hq : lays E.ng ds [] = q at h1 h4 hPR
 obtain ⟨vs, R⟩ := q
 simp only at h1 h4 hPR
 subst h1
 obtain ⟨k1, k2⟩ := h4 (injR E.ng X) (fun i t e => by
  unfold injR
  rw [if_neg (by omega), Nat.add_sub_cancel_left, e])
 have hrel : Rel E (injR E.ng X) (memR E.ng R) W := relR h2 hW h3 (fun i t cs es e e' => k2 i t cs es e e')
 obtain ⟨v1, m1, cx1, x1, M1, hc, -, -, hpr, rfl⟩ := h _ _ _ (cxR_pg hrel.wf) hPR
 obtain ⟨rfl, -⟩ := hpr.flat_eq
 have hu := hc.ok _ _ _ hrel k1
 rw [callFunc_enter hE hf] at hu
 have hu' : CallsIn Fence.wide 0 P f vargs.toArray W (retOnly (Got E (injR E.ng X) (memR E.ng R) W (.bool v) m1)) := hu
 refine (callsIn_wide.1 hu').mono fun e W' he => ?_
 cases e with
 | returned v' =>
  obtain ⟨ι1, hvr, hst⟩ := he
  cases hvr
  exact ⟨rfl, fun b hb => hst.keep b hb ownR, hst.size, hst.os, hst.tape, hst.output⟩
 | panicked _ => exact he.elim
 | outgrown => exact he.elim
theorem PTp.of_pure {E : Env} {P : Program} {f : Nat} {x : Fun} {v : Value} (hE : EnvOk E P) (hf : E.fn f = some x) (h : PureE P E.ng f [] v) (hv : flat v = true) : PTp E P f [] (.v v) := by
 intro M cx m vargs hpg hargs
 cases hargs
 refine ⟨v, m, cx, .v v, M, ⟨fun ι w args' hR hA => ?_, fun _ => Keep.refl _⟩, hpg, Ext.refl _ _, .v hv, rfl, rfl⟩
 cases hA
 refine (h w [] hR.ng .nil).mono fun v' w1 ⟨e, hb, hs, h1, h2, h3, h4⟩ => ?_
 subst e
 have hR' : Rel E ι m w1 := hR.more hb hs
 exact ⟨ι, VR.flat hv, ⟨Am.Sub.refl _, (fun b t e n => by rw [e] at n; cases n), hR', fun _ _ h => h, fun b hb' _ => hb b hb', hs, Nat.le_refl _, h1, h2, h3, h4⟩⟩
theorem rows_dec {α : Type} {B : α -> Prop} {enc : α -> List PV} {l : List Sh} (hl : l ≠ []) (hx : ∀ ds, ShPs l ds -> ∃ x : α, pvs l ds = enc x /\ B x) : ∀ {n : Nat} {cs : List DV}, ShRows l n cs -> ∃ xs : List α, xs.length = n /\ pvC l l cs = xs.flatMap enc /\ ∀ x ∈ xs, B x := by
 intro n
 induction n with
 | zero =>
  intro cs h
  cases h
  refine ⟨[], rfl, ?_, fun x hx => by cases hx⟩
  cases l <;> rfl
 | succ n ih =>
  intro cs h
  cases h with
  | cons h hs =>
   obtain ⟨x, h1, h2⟩ := hx _ h
   obtain ⟨xs, g1, g2, g3⟩ := ih hs
   refine ⟨x :: xs, by rw [List.length_cons, g1], ?_, fun y hy => ?_⟩
   ·rw [pvC_app l l _ _ h.length, pvC_nil l hl, h1, g2, List.flatMap_cons]
   ·rcases List.mem_cons.1 hy with rfl | hy
    ·exact h2
    ·exact g3 y hy
theorem sl_dec {α : Type} {B : α -> Prop} {enc : α -> List PV} {l : List Sh} (hl : l ≠ []) (hx : ∀ ds, ShPs l ds -> ∃ x : α, pvs l ds = enc x /\ B x) {d : DV} (h : ShP (.sl l) d) :
  ∃ xs : List α, pvD (.sl l) d = .lst .no l.length xs.length (xs.flatMap enc) /\ xs.length <= maxLen /\ ∀ x ∈ xs, B x := by
 cases h with
 | nil => exact ⟨[], by simp only [pvD]; rfl, Nat.zero_le _, fun x hx => by cases hx⟩
 | sl h hn _ =>
  obtain ⟨xs, g1, g2, g3⟩ := rows_dec hl hx h
  subst g1
  exact ⟨xs, by simp only [pvD]; rw [g2], hn, g3⟩
theorem int_dec {k : IntKind} {d : DV} (h : ShP (.int k) d) : ∃ n : Int, pvD (.int k) d = .v (.int k n) /\ k.min <= n /\ n <= k.max := by
 cases h with
 | int n h1 h2 => exact ⟨n, by simp only [pvD], h1, h2⟩
theorem str_dec {d : DV} (h : ShP .str d) : ∃ s : ByteArray, pvD .str d = .v (.string s) /\ s.size <= maxLen := by
 cases h with
 | str s h => exact ⟨s, by simp only [pvD], h⟩
theorem pvD_agg {cx : Cx} {ng : Nat} {l : List Sh} {ds : List DV} {R : List (List Value × Nat)} (h : ShPs l ds) (hH : Holds cx ng (lay ng (.agg ds) R).2) : PR cx (.agg (pvs l ds)) (lay ng (.agg ds) R).1 := by
 simp only [lay] at hH ⊢
 exact .agg (lay_prs ng h R hH)
end Go.Pm