/- TableMerge holds. Part 23 of 29; no condition. -/
import Derived.Test.YtnmidpahhhdlpaaGreatDoorM22
import Derived.ChangeArms
set_option linter.unusedVariables false
set_option linter.unusedSimpArgs false
set_option maxHeartbeats 4000000
set_option maxRecDepth 100000
noncomputable section
namespace Go.Proofs.YtnmidpahhhdlpaaGreatDoor
noncomputable section
open Go Go.Am Go.Pm
abbrev mv (d n : Nat) : RI := oV d (rmv (T n))
abbrev mw (d n : Nat) : RD := dV d (rmv (T n))
abbrev zE7 : List PV := [.v (.int .i64 0), .v (.int .i64 0), .v (.string ⟨#[]⟩), .v (.int .i64 0), .v (.int .i64 0), .lst .full 0 0 [], .lst .full 0 0 []]
def body3 : Code := match Tryz.f3.body with | some c => c | none => .skip
theorem fn3 : env.fn 3 = some ⟨81, [.tmp 4], body3⟩ := by kernel_rfl
def body4 : Code := match Tryz.f4.body with | some c => c | none => .skip
abbrev c4_17 : RC := .seq (.ops [mv 49 10,mv 50 6,oV 51 (rlen (T 50)),oV 52 (rbin env .lss 3 false false (T 49) (T 51))]) (.cond (rX 52) .skip (.exit 0))
abbrev c4_22 : RC := .seq (.drawn true [mw 55 10,dV 56 (rbin env .gtr 3 false true (T 55) (K 0)),mw 57 56,dG 58 57 true (rmv (T 6)),dG 59 57 true (rmv (T 10)),dG 60 57 true (rbin env .sub 3 false true (T 59) (K 1)),dG 61 57 true (riaddr 7 (T 58) (T 60)),dG 62 57 true (rfaddr 0 (T 61)),dG 63 57 true (rload false 1 (T 62)),dG 64 57 true (rmv (T 6)),dG 65 57 true (rmv (T 10)),dG 66 57 true (riaddr 7 (T 64) (T 65)),dG 67 57 true (rfaddr 0 (T 66)),dG 68 57 true (rload false 1 (T 67)),dCG true 69 57 true (.func 15) [(T 63), (T 68)],dG 70 57 true (run' .not (T 69)),dV 71 (rpick (T 57) (T 70) (.const (.bool false)))]) (.cond (rX 71) (.seq (.ops [oV 4 (rmv (.const (.bool false)))]) .ret) .skip)
abbrev c4_26 : RC := .seq (.ops [mv 72 6,mv 73 10,oV 74 (riaddr 7 (T 72) (T 73)),oV 75 (rfaddr 1 (T 74)),oV 76 (rfaddr 0 (T 75)),oV 77 (rload false 1 (T 76)),oV 78 (rbin env .neq 3 false true (T 77) (K 0))]) (.cond (rX 78) (.drawn true [mw 79 8,mw 80 6,mw 81 10,dV 82 (riaddr 7 (T 80) (T 81)),dV 83 (rfaddr 0 (T 82)),dV 84 (rload false 1 (T 83)),mw 85 6,mw 86 10,dV 87 (riaddr 7 (T 85) (T 86)),dV 88 (rfaddr 1 (T 87)),dV 89 (rload true 3 (T 88)),dV 90 (rbuild [.v (.string ⟨#[]⟩), .v (.int .i64 0), .v (.int .i64 0), .lst .full 0 0 []] [(0, 1), (1, 3)] [(0, (T 84)), (1, (T 89))]),dU 91 (rbuildL 4 1 [.v (.string ⟨#[]⟩), .v (.int .i64 0), .v (.int .i64 0), .lst .full 0 0 []] [(0, (T 90))]),dA 92 4 56 4 (T 79) (T 91),mw 8 92]) .skip)
abbrev c4_30 : RC := .seq (.ops [mv 93 6,mv 94 10,oV 95 (riaddr 7 (T 93) (T 94)),oV 96 (rfaddr 4 (T 95)),oV 97 (rfaddr 0 (T 96)),oV 98 (rload false 1 (T 97)),oV 99 (rbin env .neq 3 false true (T 98) (K 0))]) (.cond (rX 99) (.drawn true [mw 100 9,mw 101 6,mw 102 10,dV 103 (riaddr 7 (T 101) (T 102)),dV 104 (rfaddr 0 (T 103)),dV 105 (rload false 1 (T 104)),mw 106 6,mw 107 10,dV 108 (riaddr 7 (T 106) (T 107)),dV 109 (rfaddr 4 (T 108)),dV 110 (rload true 3 (T 109)),dV 111 (rbuild [.v (.string ⟨#[]⟩), .v (.int .i64 0), .v (.int .i64 0), .lst .full 0 0 []] [(0, 1), (1, 3)] [(0, (T 105)), (1, (T 110))]),dU 112 (rbuildL 4 1 [.v (.string ⟨#[]⟩), .v (.int .i64 0), .v (.int .i64 0), .lst .full 0 0 []] [(0, (T 111))]),dA 113 4 56 4 (T 100) (T 112),mw 9 113]) .skip)
abbrev c4_31 : RC := .seq c4_26 c4_30
abbrev c4_33 : RC := .block 1 (.seq c4_22 c4_31)
abbrev c4_34 : RC := .ops [mv 53 10,oV 54 (rbin env .add 3 false true (T 53) (K 1)),mv 10 54]
abbrev c4_35 : RC := .seq c4_33 c4_34
abbrev c4_36 : RC := .seq c4_17 c4_35
abbrev c4_50 : RC := .seq (.ops [oV 4 (rmv (.const (.bool false)))]) (.seq (.ops [oC 13 (.func 6) [],mv 5 13]) (.seq (.seq (.ops [mv 14 0,oC 15 (.func 5) [(T 14)],mv 16 15,oG 17 16 false (rmv (T 1)),oCG 18 16 false (.func 5) [(T 17)],oV 19 (rpick (T 16) (.const (.bool true)) (T 18))]) (.cond (rX 19) (.seq (.ops [mv 20 5,mv 4 20]) .ret) .skip)) (.seq (.ops [mv 22 0,mv 23 1,oC 24 (.func 8) [(T 22), (T 23)],mv 21 24,oV 25 (rext (T 21) 0),oV 26 (rext (T 21) 1),mv 6 25,mv 7 26]) (.seq (.seq (.ops [mv 27 7,oV 28 (rbin env .neq 27 false true (T 27) (K 0))]) (.cond (rX 28) (.seq (.ops [mv 29 5,mv 30 29,oG 31 30 true (rmv (T 6)),oG 32 30 true (rlen (T 31)),oG 33 30 true (rbin env .eql 3 false true (T 32) (K 0)),oV 34 (rpick (T 30) (T 33) (.const (.bool false))),mv 35 34,oG 36 35 true (rmv (T 7)),oG 37 35 true (rbin env .eql 27 false true (T 36) (K 2)),oV 38 (rpick (T 35) (T 37) (.const (.bool false))),mv 39 38,oG 40 39 true (rmv (T 0)),oCG 41 39 true (.func 14) [(T 40)],oG 42 39 true (rbin env .neq 27 false true (T 41) (K 0)),oG 43 39 true (rmv (T 42)),oG 44 43 false (rmv (T 1)),oCG 45 43 false (.func 14) [(T 44)],oG 46 43 false (rbin env .neq 27 false true (T 45) (K 0)),oG 47 39 true (rpick (T 43) (.const (.bool true)) (T 46)),oV 48 (rpick (T 39) (T 47) (.const (.bool false))),mv 4 48]) .ret) .skip)) (.seq (.ops [oV 8 (rmv (.const (.slice none 0 0))),oV 9 (rmv (.const (.slice none 0 0)))]) (.seq (.seq (.ops [oV 10 (rmv (K 0))]) (.block 0 (.loop c4_36))) (.seq (.ops [mv 115 0,mv 116 0,oC 117 (.func 10) [(T 115), (T 116)],mv 114 117,oV 118 (rext (T 114) 0),oV 119 (rext (T 114) 1),mv 11 118,mv 12 119]) (.seq (.ops [mv 120 5,mv 121 120,oG 122 121 true (rmv (T 8)),oG 123 121 true (rmv (T 0)),oCG 124 121 true (.func 13) [(T 122), (T 123)],oV 125 (rpick (T 121) (T 124) (.const (.bool false))),mv 126 125,oG 127 126 true (rmv (T 9)),oG 128 126 true (rmv (T 1)),oCG 129 126 true (.func 13) [(T 127), (T 128)],oV 130 (rpick (T 126) (T 129) (.const (.bool false))),mv 131 130,oG 132 131 true (rmv (T 12)),oG 133 131 true (rbin env .eql 27 false true (T 132) (K 0)),oV 134 (rpick (T 131) (T 133) (.const (.bool false))),mv 135 134,oG 136 135 true (rmv (T 11)),oG 137 135 true (rlen (T 136)),oG 138 135 true (rbin env .eql 3 false true (T 137) (K 0)),oV 139 (rpick (T 135) (T 138) (.const (.bool false))),mv 4 139]) .ret))))))))
theorem fn4 : env.fn 4 = some ⟨140, [.tmp 4], body4⟩ := by kernel_rfl
theorem comp4 : comp env body4 = c4_50 := by kernel_rfl
def body5 : Code := match Tryz.f5.body with | some c => c | none => .skip
abbrev c5_13 : RC := .seq (.seq (.ops [mv 4 3,mv 5 0,oV 6 (rlen (T 5)),oV 7 (rbin env .lss 3 false false (T 4) (T 6)),mv 8 7,oG 9 8 true (rmv (T 3)),oG 10 8 true (rbin env .lss 3 false true (T 9) (K 61)),oV 11 (rpick (T 8) (T 10) (.const (.bool false)))]) (.cond (rX 11) .skip (.exit 0))) (.seq (.block 1 (.seq (.ops [mv 14 0,mv 15 3,oV 16 (riaddr 4 (T 14) (T 15)),oV 17 (rfaddr 0 (T 16)),oV 18 (rload false 1 (T 17)),oV 19 (rlenS (T 18)),oV 20 (rbin env .gtr 3 false true (T 19) (K 100)),mv 21 20,oG 22 21 false (rmv (T 0)),oG 23 21 false (rmv (T 3)),oG 24 21 false (riaddr 4 (T 22) (T 23)),oG 25 21 false (rfaddr 1 (T 24)),oG 26 21 false (rload true 3 (T 25)),oCG 27 21 false (.func 16) [(T 26)],oV 28 (rpick (T 21) (.const (.bool true)) (T 27))]) (.cond (rX 28) (.seq (.ops [oV 2 (rmv (.const (.bool true)))]) .ret) .skip))) (.ops [mv 12 3,oV 13 (rbin env .add 3 false true (T 12) (K 1)),mv 3 13]))
abbrev c5_20 : RC := .seq (.ops [oV 2 (rmv (.const (.bool false)))]) (.seq (.seq (.ops [oV 3 (rmv (K 0))]) (.block 0 (.loop c5_13))) (.seq (.ops [mv 29 0,oV 30 (rlen (T 29)),oV 31 (rbin env .gtr 3 false true (T 30) (K 60)),mv 2 31]) .ret))
theorem fn5 : env.fn 5 = some ⟨32, [.tmp 2], body5⟩ := by kernel_rfl
theorem comp5 : comp env body5 = c5_20 := by kernel_rfl
def body6 : Code := match Tryz.f6.body with | some c => c | none => .skip
theorem fn6 : env.fn 6 = some ⟨53, [.tmp 0], body6⟩ := by kernel_rfl
def body8 : Code := match Tryz.f8.body with | some c => c | none => .skip
abbrev c8_13 : RC := .seq (.ops [oV 4 (rmv (.const (.slice none 0 0))),oV 5 (rmv (K 0))]) (.seq (.seq (.ops [mv 7 0,oC 8 (.func 14) [(T 7)],oV 9 (rbin env .neq 27 false true (T 8) (K 0)),mv 10 9,oG 11 10 false (rmv (T 1)),oCG 12 10 false (.func 14) [(T 11)],oG 13 10 false (rbin env .neq 27 false true (T 12) (K 0)),oV 14 (rpick (T 10) (.const (.bool true)) (T 13))]) (.cond (rX 14) (.seq (.ops [oV 4 (rmv (.const (.slice none 0 0))),oV 5 (rmv (K 2))]) .ret) .skip)) (.seq (.ops [oU 6 (rnew [.lst .full 0 0 []])]) (.seq (.ops [mv 15 0,oC 16 (.func 25) [(T 15)],mv 17 1,oC 18 (.func 25) [(T 17)],oV 19 (rfn 27 [] [(T 6)]),oC 20 (.func 24) [(T 16), (T 18), (.func 26), (T 19)]]) (.seq (.ops [oV 21 (rload false 1 (T 6)),mv 4 21,oV 5 (rmv (K 0))]) .ret))))
theorem fn8 : env.fn 8 = some ⟨22, [.tmp 4, .tmp 5], body8⟩ := by kernel_rfl
theorem comp8 : comp env body8 = c8_13 := by kernel_rfl
def body10 : Code := match Tryz.f10.body with | some c => c | none => .skip
abbrev c10_5 : RC := .seq (.ops [oV 4 (rmv (.const (.slice none 0 0))),oV 5 (rmv (K 0))]) (.seq (.ops [mv 9 0,mv 10 1,oC 11 (.func 8) [(T 9), (T 10)],mv 8 11,oV 12 (rext (T 8) 0),oV 13 (rext (T 8) 1),mv 6 12,mv 7 13]) (.seq (.ops [mv 14 6,oC 15 (.func 31) [(T 14), (.func 32)],mv 16 7,mv 4 15,mv 5 16]) .ret))
theorem fn10 : env.fn 10 = some ⟨17, [.tmp 4, .tmp 5], body10⟩ := by kernel_rfl
theorem comp10 : comp env body10 = c10_5 := by kernel_rfl
def body13 : Code := match Tryz.f13.body with | some c => c | none => .skip
abbrev c13_18 : RC := .seq (.seq (.ops [mv 11 5,mv 12 0,oV 13 (rlen (T 12)),oV 14 (rbin env .lss 3 false false (T 11) (T 13))]) (.cond (rX 14) .skip (.exit 0))) (.seq (.block 1 (.seq (.drawn true [mw 17 0,mw 18 5,dV 19 (riaddr 4 (T 17) (T 18)),dV 20 (rfaddr 0 (T 19)),dV 21 (rload false 1 (T 20)),mw 22 1,mw 23 5,dV 24 (riaddr 4 (T 22) (T 23)),dV 25 (rfaddr 0 (T 24)),dV 26 (rload false 1 (T 25)),dV 27 (rbin env .neq 9 false false (T 21) (T 26)),mw 28 27,dG 29 28 false (rmv (T 0)),dG 30 28 false (rmv (T 5)),dG 31 28 false (riaddr 4 (T 29) (T 30)),dG 32 28 false (rfaddr 1 (T 31)),dG 33 28 false (rload true 3 (T 32)),dG 34 28 false (rmv (T 1)),dG 35 28 false (rmv (T 5)),dG 36 28 false (riaddr 4 (T 34) (T 35)),dG 37 28 false (rfaddr 1 (T 36)),dG 38 28 false (rload true 3 (T 37)),dCG true 39 28 false (.func 35) [(T 33), (T 38)],dG 40 28 false (run' .not (T 39)),dV 41 (rpick (T 28) (.const (.bool true)) (T 40))]) (.cond (rX 41) (.seq (.ops [oV 4 (rmv (.const (.bool false)))]) .ret) .skip))) (.ops [mv 15 5,oV 16 (rbin env .add 3 false true (T 15) (K 1)),mv 5 16]))
abbrev c13_26 : RC := .seq (.ops [oV 4 (rmv (.const (.bool false)))]) (.seq (.seq (.ops [mv 6 0,oV 7 (rlen (T 6)),mv 8 1,oV 9 (rlen (T 8)),oV 10 (rbin env .neq 3 false false (T 7) (T 9))]) (.cond (rX 10) (.seq (.ops [oV 4 (rmv (.const (.bool false)))]) .ret) .skip)) (.seq (.seq (.ops [oV 5 (rmv (K 0))]) (.block 0 (.loop c13_18))) (.seq (.ops [oV 4 (rmv (.const (.bool true)))]) .ret)))
theorem fn13 : env.fn 13 = some ⟨42, [.tmp 4], body13⟩ := by kernel_rfl
theorem comp13 : comp env body13 = c13_26 := by kernel_rfl
def body14 : Code := match Tryz.f14.body with | some c => c | none => .skip
abbrev c14_20 : RC := .seq (.ops [oV 11 (rbin env .lss 3 false false (T 10) (T 9))]) (.seq (.cond (rX 11) .skip (.exit 0)) (.seq (.block 1 (.seq (.ops [mv 12 10,oV 13 (riaddr 4 (T 8) (T 10)),oV 14 (rload true 4 (T 13)),oU 4 (rnew [.v (.string ⟨#[]⟩), .v (.int .i64 0), .v (.int .i64 0), .lst .full 0 0 []]),mv 3 12,oS (rstore 4 (T 4) (T 14))]) (.seq (.drawn true [dV 15 (rfaddr 0 (T 4)),dV 16 (rload false 1 (T 15)),dC true 17 (.func 36) [(T 16)],dV 18 (rbin env .neq 27 false true (T 17) (K 0)),mw 19 18,dG 20 19 false (rfaddr 1 (T 4)),dG 21 19 false (rload true 3 (T 20)),dCG true 22 19 false (.func 37) [(T 21)],dG 23 19 false (rbin env .neq 27 false true (T 22) (K 0)),dV 24 (rpick (T 19) (.const (.bool true)) (T 23)),mw 25 24,dG 26 25 false (rfaddr 1 (T 4)),dG 27 25 false (rfaddr 0 (T 26)),dG 28 25 false (rload false 1 (T 27)),dG 29 25 false (rbin env .eql 3 false true (T 28) (K 3)),dV 30 (rpick (T 25) (.const (.bool true)) (T 29)),mw 31 30,dG 32 31 false (rmv (T 3)),dG 33 31 false (rbin env .gtr 3 false true (T 32) (K 0)),dG 34 31 false (rmv (T 33)),dG 35 34 true (rmv (T 0)),dG 36 34 true (rmv (T 3)),dG 37 34 true (rbin env .sub 3 false true (T 36) (K 1)),dG 38 34 true (riaddr 4 (T 35) (T 37)),dG 39 34 true (rfaddr 0 (T 38)),dG 40 34 true (rload false 1 (T 39)),dG 41 34 true (rfaddr 0 (T 4)),dG 42 34 true (rload false 1 (T 41)),dCG true 43 34 true (.func 15) [(T 40), (T 42)],dG 44 34 true (run' .not (T 43)),dG 45 31 false (rpick (T 34) (T 44) (.const (.bool false))),dV 46 (rpick (T 31) (.const (.bool true)) (T 45)),mw 47 46,dG 48 47 false (rmv (T 0)),dG 49 47 false (rfaddr 0 (T 4)),dG 50 47 false (rload false 1 (T 49)),dCG true 51 47 false (.func 38) [(T 48), (T 50)],dG 52 47 false (rbin env .neq 27 false true (T 51) (K 0)),dV 53 (rpick (T 47) (.const (.bool true)) (T 52))]) (.cond (rX 53) (.seq (.ops [oV 2 (rmv (K 2))]) .ret) .skip)))) (.ops [oV 54 (rbin env .add 3 false true (T 10) (K 1)),mv 10 54])))
abbrev c14_28 : RC := .seq (.ops [oV 2 (rmv (K 0))]) (.seq (.seq (.ops [mv 5 0,oV 6 (rlen (T 5)),oV 7 (rbin env .gtr 3 false true (T 6) (K 200))]) (.cond (rX 7) (.seq (.ops [oV 2 (rmv (K 2))]) .ret) .skip)) (.seq (.seq (.ops [mv 8 0,oV 9 (rlen (T 8)),oV 10 (rmv (K 0))]) (.block 0 (.loop c14_20))) (.seq (.ops [oV 2 (rmv (K 0))]) .ret)))
theorem fn14 : env.fn 14 = some ⟨55, [.tmp 2], body14⟩ := by kernel_rfl
theorem comp14 : comp env body14 = c14_28 := by kernel_rfl
def body15 : Code := match Tryz.f15.body with | some c => c | none => .skip
abbrev c15_3 : RC := .seq (.ops [oV 4 (rmv (.const (.bool false)))]) (.seq (.ops [mv 5 0,mv 6 1,oC 7 (.func 39) [(T 5), (T 6)],oV 8 (rbin env .lss 3 false true (T 7) (K 0)),mv 4 8]) .ret)
theorem fn15 : env.fn 15 = some ⟨9, [.tmp 4], body15⟩ := by kernel_rfl
theorem comp15 : comp env body15 = c15_3 := by kernel_rfl
def body16 : Code := match Tryz.f16.body with | some c => c | none => .skip
abbrev c16_3 : RC := .seq (.ops [oU 1 (rbox (T 0)),oV 2 (rmv (.const (.bool false)))]) (.seq (.ops [oV 3 (rfaddr 2 (T 1)),oV 4 (rload false 1 (T 3)),oV 5 (rlen (T 4)),oV 6 (rbin env .gtr 3 false true (T 5) (K 1200)),mv 2 6]) .ret)
theorem fn16 : env.fn 16 = some ⟨7, [.tmp 2], body16⟩ := by kernel_rfl
theorem comp16 : comp env body16 = c16_3 := by kernel_rfl
def body24 : Code := match Tryz.f24.body with | some c => c | none => .skip
abbrev c24_24 : RC := .seq (.seq (.ops [mv 10 8,mv 11 0,oV 12 (rlen (T 11)),oV 13 (rbin env .lss 3 false false (T 10) (T 12)),mv 14 13,oG 15 14 false (rmv (T 9)),oG 16 14 false (rmv (T 1)),oG 17 14 false (rlen (T 16)),oG 18 14 false (rbin env .lss 3 false false (T 15) (T 17)),oV 19 (rpick (T 14) (.const (.bool true)) (T 18))]) (.cond (rX 19) .skip (.exit 0))) (.block 1 (.seq (.block 2 (.seq (.drawn true [mw 21 9,mw 22 1,dV 23 (rlen (T 22)),dV 24 (rbin env .eql 3 false false (T 21) (T 23)),mw 25 24,dG 26 25 false (rmv (T 8)),dG 27 25 false (rmv (T 0)),dG 28 25 false (rlen (T 27)),dG 29 25 false (rbin env .lss 3 false false (T 26) (T 28)),dG 30 25 false (rmv (T 29)),dG 31 30 true (rmv (T 2)),dG 32 30 true (rmv (T 0)),dG 33 30 true (rmv (T 8)),dG 34 30 true (riaddr 4 (T 32) (T 33)),dG 35 30 true (rload true 4 (T 34)),dG 36 30 true (rmv (T 1)),dG 37 30 true (rmv (T 9)),dG 38 30 true (riaddr 4 (T 36) (T 37)),dG 39 30 true (rload true 4 (T 38)),dCG true 40 30 true (T 31) [(T 35), (T 39)],dG 41 30 true (rbin env .lss 3 false true (T 40) (K 0)),dG 42 25 false (rpick (T 30) (T 41) (.const (.bool false))),dV 43 (rpick (T 25) (.const (.bool true)) (T 42)),mw 20 43]) (.cond (rX 20) (.seq (.ops [mv 44 3,mv 45 0,mv 46 8,oV 47 (riaddr 4 (T 45) (T 46)),oC 48 (T 44) [(T 47), (.const (.pointer none))]]) (.seq (.ops [mv 49 8,oV 50 (rbin env .add 3 false true (T 49) (K 1)),mv 8 50]) (.exit 1))) (.seq (.drawn true [mw 52 8,mw 53 0,dV 54 (rlen (T 53)),dV 55 (rbin env .eql 3 false false (T 52) (T 54)),mw 56 55,dG 57 56 false (rmv (T 2)),dG 58 56 false (rmv (T 1)),dG 59 56 false (rmv (T 9)),dG 60 56 false (riaddr 4 (T 58) (T 59)),dG 61 56 false (rload true 4 (T 60)),dG 62 56 false (rmv (T 0)),dG 63 56 false (rmv (T 8)),dG 64 56 false (riaddr 4 (T 62) (T 63)),dG 65 56 false (rload true 4 (T 64)),dCG true 66 56 false (T 57) [(T 61), (T 65)],dG 67 56 false (rbin env .lss 3 false true (T 66) (K 0)),dV 68 (rpick (T 56) (.const (.bool true)) (T 67)),mw 51 68]) (.cond (rX 51) (.seq (.ops [mv 69 3,mv 70 1,mv 71 9,oV 72 (riaddr 4 (T 70) (T 71)),oC 73 (T 69) [(.const (.pointer none)), (T 72)]]) (.seq (.ops [mv 74 9,oV 75 (rbin env .add 3 false true (T 74) (K 1)),mv 9 75]) (.exit 1))) .skip))))) (.seq (.drawn true [mw 76 3,mw 77 0,mw 78 8,dV 79 (riaddr 4 (T 77) (T 78)),mw 80 1,mw 81 9,dV 82 (riaddr 4 (T 80) (T 81)),dC true 83 (T 76) [(T 79), (T 82)]]) (.ops [mv 84 8,oV 85 (rbin env .add 3 false true (T 84) (K 1)),mv 86 9,oV 87 (rbin env .add 3 false true (T 86) (K 1)),mv 8 85,mv 9 87]))))
abbrev c24_28 : RC := .seq (.ops [oV 8 (rmv (K 0)),oV 9 (rmv (K 0))]) (.seq .skip (.block 0 (.loop c24_24)))
abbrev c24_29 : RC := .scope (subc [0] body24)
theorem fn24 : env.fn 24 = some ⟨88, [], body24⟩ := by kernel_rfl
theorem comp24 : comp env body24 = c24_29 := by kernel_rfl
theorem piece24_1 : comp env (subc [0] body24) = c24_28 := by kernel_rfl
def body25 : Code := match Tryz.f25.body with | some c => c | none => .skip
abbrev c25_12 : RC := .seq (.ops [oV 9 (rbin env .lss 3 false false (T 8) (T 7))]) (.seq (.cond (rX 9) .skip (.exit 0)) (.seq (.block 1 (.seq (.ops [oV 10 (riaddr 4 (T 6) (T 8)),oV 11 (rload true 4 (T 10)),oU 5 (rnew [.v (.string ⟨#[]⟩), .v (.int .i64 0), .v (.int .i64 0), .lst .full 0 0 []]),oS (rstore 4 (T 5) (T 11))]) (.ops [mv 12 3,oV 13 (rload true 4 (T 5)),oC 14 (.func 42) [(T 13)],oU 15 (rbuildL 4 1 [.v (.string ⟨#[]⟩), .v (.int .i64 0), .v (.int .i64 0), .lst .full 0 0 []] [(0, (T 14))]),oA 16 4 56 4 (T 12) (T 15),mv 3 16]))) (.ops [oV 17 (rbin env .add 3 false true (T 8) (K 1)),mv 8 17])))
abbrev c25_20 : RC := .seq (.ops [oV 2 (rmv (.const (.slice none 0 0)))]) (.seq (.ops [oV 3 (rmv (.const (.slice none 0 0)))]) (.seq (.seq (.ops [mv 6 0,oV 7 (rlen (T 6)),oV 8 (rmv (K 0))]) (.block 0 (.loop c25_12))) (.seq (.ops [mv 18 3,mv 2 18]) .ret)))
theorem fn25 : env.fn 25 = some ⟨19, [.tmp 2], body25⟩ := by kernel_rfl
theorem comp25 : comp env body25 = c25_20 := by kernel_rfl
def body26 : Code := match Tryz.f26.body with | some c => c | none => .skip
abbrev c26_15 : RC := .seq (.ops [oU 2 (rbox (T 0)),oU 3 (rbox (T 1)),oV 4 (rmv (K 0))]) (.seq (.block 0 (.seq (.ops [oV 6 (rfaddr 0 (T 2)),oV 7 (rload false 1 (T 6)),oV 8 (rfaddr 0 (T 3)),oV 9 (rload false 1 (T 8)),oC 10 (.func 15) [(T 7), (T 9)],mv 5 10]) (.cond (rX 5) (.seq (.ops [oV 4 (rmv (K (-1)))]) .ret) (.seq (.ops [oV 12 (rfaddr 0 (T 3)),oV 13 (rload false 1 (T 12)),oV 14 (rfaddr 0 (T 2)),oV 15 (rload false 1 (T 14)),oC 16 (.func 15) [(T 13), (T 15)],mv 11 16]) (.cond (rX 11) (.seq (.ops [oV 4 (rmv (K 1))]) .ret) .skip))))) (.seq (.ops [oV 4 (rmv (K 0))]) .ret))
theorem fn26 : env.fn 26 = some ⟨17, [.tmp 4], body26⟩ := by kernel_rfl
theorem comp26 : comp env body26 = c26_15 := by kernel_rfl
def body27 : Code := match Tryz.f27.body with | some c => c | none => .skip
abbrev c27_4 : RC := .seq (.ops [mv 6 0,oV 7 (rbin env .neq 52 false true (T 6) (.const (.pointer none)))]) (.cond (rX 7) (.drawn true [mw 8 0,dV 9 (rnil (T 8)),dV 10 (rfaddr 0 (T 9)),dV 11 (rload false 1 (T 10)),mw 12 0,dV 13 (rnil (T 12)),dV 14 (rfaddr 1 (T 13)),dV 15 (rload true 3 (T 14)),dV 16 (rfaddr 0 (T 5)),.sto (rI none none (rstore 1 (T 16) (T 11))) (fun s => pev s.tm (T 16)) (fun s => [(T 14)].map (pev s.tm)),dV 17 (rfaddr 1 (T 5)),dS (rstore 3 (T 17) (T 15))]) .skip)
abbrev c27_8 : RC := .seq (.ops [mv 18 1,oV 19 (rbin env .neq 52 false true (T 18) (.const (.pointer none)))]) (.cond (rX 19) (.drawn true [mw 20 1,dV 21 (rnil (T 20)),dV 22 (rfaddr 0 (T 21)),dV 23 (rload false 1 (T 22)),mw 24 1,dV 25 (rnil (T 24)),dV 26 (rfaddr 1 (T 25)),dV 27 (rload true 3 (T 26)),dV 28 (rfaddr 0 (T 5)),.sto (rI none none (rstore 1 (T 28) (T 23))) (fun s => pev s.tm (T 28)) (fun s => [(T 26)].map (pev s.tm)),dV 29 (rfaddr 4 (T 5)),dS (rstore 3 (T 29) (T 27))]) .skip)
abbrev c27_12 : RC := .seq (.ops [oU 5 (rnew [.v (.string ⟨#[]⟩), .v (.int .i64 0), .v (.int .i64 0), .lst .full 0 0 [], .v (.int .i64 0), .v (.int .i64 0), .lst .full 0 0 []])]) (.seq c27_4 (.seq c27_8 (.ops [oV 30 (rload false 1 (T 2)),oV 31 (rload true 7 (T 5)),oU 32 (rbuildL 7 1 [.v (.string ⟨#[]⟩), .v (.int .i64 0), .v (.int .i64 0), .lst .full 0 0 [], .v (.int .i64 0), .v (.int .i64 0), .lst .full 0 0 []] [(0, (T 31))]),oA 33 7 96 7 (T 30) (T 32),oS (rstore 1 (T 2) (T 33))])))
theorem fn27 : env.fn 27 = some ⟨34, [], body27⟩ := by kernel_rfl
theorem comp27 : comp env body27 = c27_12 := by kernel_rfl
def body31 : Code := match Tryz.f31.body with | some c => c | none => .skip
abbrev c31_22 : RC := .seq (.seq (.ops [mv 16 6,mv 17 0,oV 18 (rlen (T 17)),oV 19 (rbin env .lss 3 false false (T 16) (T 18))]) (.cond (rX 19) .skip (.exit 0))) (.seq (.block 1 (.seq (.ops [mv 22 0,mv 23 6,oV 24 (riaddr 7 (T 22) (T 23)),oV 25 (rload true 7 (T 24)),oU 7 (rnew [.v (.string ⟨#[]⟩), .v (.int .i64 0), .v (.int .i64 0), .lst .full 0 0 [], .v (.int .i64 0), .v (.int .i64 0), .lst .full 0 0 []]),oS (rstore 7 (T 7) (T 25))]) (.seq (.ops [mv 26 1,oV 27 (rload true 7 (T 7)),oC 28 (T 26) [(T 27)],oV 29 (run' .not (T 28))]) (.cond (rX 29) (.seq (.ops [mv 30 0,mv 31 5,oV 32 (rload true 7 (T 7)),oV 33 (riaddr 7 (T 30) (T 31)),oS (rstore 7 (T 33) (T 32))]) (.ops [mv 34 5,oV 35 (rbin env .add 3 false true (T 34) (K 1)),mv 5 35])) .skip)))) (.ops [mv 20 6,oV 21 (rbin env .add 3 false true (T 20) (K 1)),mv 6 21]))
abbrev c31_33 : RC := .seq (.ops [oV 4 (rmv (.const (.slice none 0 0)))]) (.seq (.ops [mv 8 0,mv 9 1,oC 10 (.func 55) [(T 8), (T 9)],mv 5 10]) (.seq (.seq (.ops [mv 11 5,oV 12 (rbin env .eql 3 false true (T 11) (K (-1)))]) (.cond (rX 12) (.seq (.ops [mv 13 0,mv 4 13]) .ret) .skip)) (.seq (.seq (.ops [mv 14 5,oV 15 (rbin env .add 3 false true (T 14) (K 1)),mv 6 15]) (.block 0 (.loop c31_22))) (.seq (.ops [mv 36 0,mv 37 5,oV 38 (rsliceL 7 (T 36) (some (T 37)) none none),oS (rclear 7 [.v (.string ⟨#[]⟩), .v (.int .i64 0), .v (.int .i64 0), .lst .full 0 0 [], .v (.int .i64 0), .v (.int .i64 0), .lst .full 0 0 []] (T 38))]) (.seq (.ops [mv 39 0,mv 40 5,oV 41 (rsliceL 7 (T 39) none (some (T 40)) none),mv 4 41]) .ret)))))
theorem fn31 : env.fn 31 = some ⟨42, [.tmp 4], body31⟩ := by kernel_rfl
theorem comp31 : comp env body31 = c31_33 := by kernel_rfl
def body32 : Code := match Tryz.f32.body with | some c => c | none => .skip
abbrev c32_3 : RC := .seq (.ops [oU 1 (rbox (T 0)),oV 2 (rmv (.const (.bool false)))]) (.seq (.ops [oV 3 (rfaddr 1 (T 1)),oV 4 (rload true 3 (T 3)),oV 5 (rfaddr 4 (T 1)),oV 6 (rload true 3 (T 5)),oC 7 (.func 33) [(T 4), (T 6)],mv 2 7]) .ret)
theorem fn32 : env.fn 32 = some ⟨8, [.tmp 2], body32⟩ := by kernel_rfl
theorem comp32 : comp env body32 = c32_3 := by kernel_rfl
def body33 : Code := match Tryz.f33.body with | some c => c | none => .skip
abbrev c33_3 : RC := .seq (.ops [oU 2 (rbox (T 0)),oU 3 (rbox (T 1)),oV 4 (rmv (.const (.bool false)))]) (.seq (.ops [oV 5 (rload true 3 (T 2)),oV 6 (rload true 3 (T 3)),oC 7 (.func 56) [(T 5), (T 6)],oV 8 (rbin env .eql 3 false true (T 7) (K 0)),mv 4 8]) .ret)
theorem fn33 : env.fn 33 = some ⟨9, [.tmp 4], body33⟩ := by kernel_rfl
theorem comp33 : comp env body33 = c33_3 := by kernel_rfl
def body35 : Code := match Tryz.f35.body with | some c => c | none => .skip
abbrev c35_3 : RC := .seq (.ops [oU 2 (rbox (T 0)),oU 3 (rbox (T 1)),oV 4 (rmv (.const (.bool false)))]) (.seq (.ops [oV 5 (rfaddr 0 (T 2)),oV 6 (rload false 1 (T 5)),oV 7 (rfaddr 0 (T 3)),oV 8 (rload false 1 (T 7)),oV 9 (rbin env .eql 3 false false (T 6) (T 8)),mv 10 9,oG 11 10 true (rfaddr 1 (T 2)),oG 12 10 true (rload false 1 (T 11)),oG 13 10 true (rfaddr 1 (T 3)),oG 14 10 true (rload false 1 (T 13)),oG 15 10 true (rbin env .eql 3 false false (T 12) (T 14)),oV 16 (rpick (T 10) (T 15) (.const (.bool false))),mv 17 16,oG 18 17 true (rfaddr 2 (T 2)),oG 19 17 true (rload false 1 (T 18)),oG 20 17 true (rfaddr 2 (T 3)),oG 21 17 true (rload false 1 (T 20)),oCG 22 17 true (.func 57) [(T 19), (T 21)],oV 23 (rpick (T 17) (T 22) (.const (.bool false))),mv 4 23]) .ret)
theorem fn35 : env.fn 35 = some ⟨24, [.tmp 4], body35⟩ := by kernel_rfl
theorem comp35 : comp env body35 = c35_3 := by kernel_rfl
def body36 : Code := match Tryz.f36.body with | some c => c | none => .skip
abbrev c36_3 : RC := .ops [mv 5 8]
abbrev c36_15 : RC := .block 1 (.seq (.ops [oV 9 (rload false 1 (T 3)),oV 10 (rbin env .add 3 false true (T 9) (K 1)),oS (rstore 1 (T 3) (T 10))]) (.block 2 (.seq (.seq (.ops [oV 12 (rload false 1 (T 3)),oV 13 (rbin env .gtr 3 false true (T 12) (K 6)),mv 11 13]) (.cond (rX 11) .skip (.ops [mv 14 5,oC 15 (.func 59) [(T 14)],oV 16 (run' .not (T 15)),mv 11 16]))) (.cond (rX 11) (.seq (.ops [oS (rstore 1 (T 4) (K 2))]) (.exit 0)) .skip))))
abbrev c36_23 : RC := .seq (.ops [oU 3 (rnew [.v (.int .i64 0)]),oU 4 (rnew [.v (.int .i64 0)]),oS (rstore 1 (T 3) (K 0)),oS (rstore 1 (T 4) (K 0))]) (.seq .skip (.seq (.seq (.ops [mv 6 0,oC 7 (.func 58) [(T 6), (.const (.string ⟨#[47]⟩))]]) (.block 0 (.range (fun s => pev s.tm (T 7)) [8] (subc [1, 0, 1, 1, 0, 1, 0, 0] body36) (subc [1, 0, 1, 1, 0, 1, 0, 1] body36)))) (.seq (.ops [oV 17 (rload false 1 (T 4)),mv 2 17]) .ret)))
abbrev c36_25 : RC := .seq (.ops [oV 2 (rmv (K 0))]) (.scope (subc [1, 0] body36))
theorem fn36 : env.fn 36 = some ⟨18, [.tmp 2], body36⟩ := by kernel_rfl
theorem comp36 : comp env body36 = c36_25 := by kernel_rfl
theorem piece36_1 : comp env (subc [1, 0, 1, 1, 0, 1, 0, 0] body36) = c36_3 := by kernel_rfl
theorem piece36_2 : comp env (subc [1, 0, 1, 1, 0, 1, 0, 1] body36) = c36_15 := by kernel_rfl
theorem piece36_3 : comp env (subc [1, 0] body36) = c36_23 := by kernel_rfl
def body37 : Code := match Tryz.f37.body with | some c => c | none => .skip
abbrev c37_17 : RC := .seq (.ops [oU 1 (rbox (T 0)),oV 2 (rmv (K 0))]) (.seq (.seq (.ops [oV 4 (rfaddr 0 (T 1)),oV 5 (rload false 1 (T 4)),oV 6 (rbin env .lss 3 false true (T 5) (K 1)),mv 7 6,oG 8 7 false (rfaddr 0 (T 1)),oG 9 7 false (rload false 1 (T 8)),oG 10 7 false (rbin env .gtr 3 false true (T 9) (K 3)),oV 11 (rpick (T 7) (.const (.bool true)) (T 10))]) (.cond (rX 11) (.seq (.ops [oV 2 (rmv (K 2))]) .ret) .skip)) (.seq (.seq (.drawn true [dV 13 (rfaddr 0 (T 1)),dV 14 (rload false 1 (T 13)),dU 3 (rnew [.v (.int .i64 0), .v (.int .i64 0)]),dC false 12 (.func 60) [],dV 15 (ridxA 4 true 2 (T 12) (T 14)),dS (rstore 2 (T 3) (T 15))]) (.seq (.ops [oV 16 (rfaddr 1 (T 1)),oV 17 (rload false 1 (T 16)),oV 18 (rbin env .lss 3 false true (T 17) (K 0)),mv 19 18,oG 20 19 false (rfaddr 1 (T 1)),oG 21 19 false (rload false 1 (T 20)),oG 22 19 false (rfaddr 0 (T 3)),oG 23 19 false (rload false 1 (T 22)),oG 24 19 false (rbin env .gtr 3 false false (T 21) (T 23)),oV 25 (rpick (T 19) (.const (.bool true)) (T 24)),mv 26 25,oG 27 26 false (rfaddr 2 (T 1)),oG 28 26 false (rload false 1 (T 27)),oG 29 26 false (rlen (T 28)),oG 30 26 false (rfaddr 1 (T 3)),oG 31 26 false (rload false 1 (T 30)),oG 32 26 false (rbin env .gtr 3 false false (T 29) (T 31)),oV 33 (rpick (T 26) (.const (.bool true)) (T 32))]) (.cond (rX 33) (.seq (.ops [oV 2 (rmv (K 2))]) .ret) .skip))) (.seq (.ops [oV 2 (rmv (K 0))]) .ret)))
theorem fn37 : env.fn 37 = some ⟨34, [.tmp 2], body37⟩ := by kernel_rfl
theorem comp37 : comp env body37 = c37_17 := by kernel_rfl
def body38 : Code := match Tryz.f38.body with | some c => c | none => .skip
abbrev c38_25 : RC := .seq (.ops [oV 4 (rmv (K 0))]) (.seq (.ops [mv 10 1,oC 11 (.func 61) [(T 10)],mv 9 11,oV 12 (rext (T 9) 0),oV 13 (rext (T 9) 1),mv 5 12,mv 6 13]) (.seq (.seq (.ops [mv 14 6,oV 15 (run' .not (T 14))]) (.cond (rX 15) (.seq (.ops [oV 4 (rmv (K 0))]) .ret) .skip)) (.seq (.ops [mv 17 0,mv 18 5,oC 19 (.func 40) [(T 17), (T 18)],mv 16 19,oV 20 (rext (T 16) 0),oV 21 (rext (T 16) 1),mv 7 20,mv 8 21]) (.seq (.block 0 (.seq (.ops [mv 23 8,oV 24 (run' .not (T 23)),mv 22 24]) (.cond (rX 22) (.seq (.ops [oV 4 (rmv (K 6))]) .ret) (.seq (.ops [mv 26 0,mv 27 7,oV 28 (riaddr 4 (T 26) (T 27)),oV 29 (rfaddr 1 (T 28)),oV 30 (rfaddr 0 (T 29)),oV 31 (rload false 1 (T 30)),oV 32 (rbin env .neq 3 false true (T 31) (K 2)),mv 25 32]) (.cond (rX 25) (.seq (.ops [oV 4 (rmv (K 12))]) .ret) .skip))))) (.seq (.ops [oV 4 (rmv (K 0))]) .ret)))))
theorem fn38 : env.fn 38 = some ⟨33, [.tmp 4], body38⟩ := by kernel_rfl
theorem comp38 : comp env body38 = c38_25 := by kernel_rfl
def body39 : Code := match Tryz.f39.body with | some c => c | none => .skip
abbrev c39_3 : RC := .seq (.ops [oV 4 (rmv (K 0))]) (.seq (.ops [mv 5 0,oC 6 (.func 63) [(T 5), (.const (.string ⟨#[47]⟩))],mv 7 1,oC 8 (.func 63) [(T 7), (.const (.string ⟨#[47]⟩))],oC 9 (.func 62) [(T 6), (T 8), (.func 64)],mv 4 9]) .ret)
theorem fn39 : env.fn 39 = some ⟨10, [.tmp 4], body39⟩ := by kernel_rfl
theorem comp39 : comp env body39 = c39_3 := by kernel_rfl
def body40 : Code := match Tryz.f40.body with | some c => c | none => .skip
abbrev c40_5 : RC := .seq (.ops [oU 3 (rbox (T 1)),oV 4 (rmv (K 0)),oV 5 (rmv (.const (.bool false)))]) (.seq (.ops [mv 7 0,oV 8 (rfn 67 [] [(T 3)]),oC 9 (.func 66) [(T 7), (T 8)],mv 6 9]) (.seq (.ops [mv 10 6,mv 11 6,oV 12 (rbin env .geq 3 false true (T 11) (K 0)),mv 4 10,mv 5 12]) .ret))
theorem fn40 : env.fn 40 = some ⟨13, [.tmp 4, .tmp 5], body40⟩ := by kernel_rfl
theorem comp40 : comp env body40 = c40_5 := by kernel_rfl
def body42 : Code := match Tryz.f42.body with | some c => c | none => .skip
abbrev c42_5 : RC := .seq (.ops [oU 1 (rbox (T 0)),oU 2 (rnew [.v (.string ⟨#[]⟩), .v (.int .i64 0), .v (.int .i64 0), .lst .full 0 0 []])]) (.seq (.ops [oV 3 (rfaddr 1 (T 1)),oV 4 (rfaddr 2 (T 3)),oV 5 (rload false 1 (T 4)),oC 6 (.func 69) [(T 5)],oV 7 (rfaddr 1 (T 1)),oV 8 (rfaddr 2 (T 7)),oS (rstore 1 (T 8) (T 6))]) (.seq (.ops [oV 9 (rload true 4 (T 1)),oS (rstore 4 (T 2) (T 9))]) .ret))
theorem fn42 : env.fn 42 = some ⟨10, [.cell 2 40], body42⟩ := by kernel_rfl
theorem comp42 : comp env body42 = c42_5 := by kernel_rfl
def body55 : Code := match Tryz.f55.body with | some c => c | none => .skip
abbrev c55_15 : RC := .seq (.ops [oV 9 (rbin env .lss 3 false false (T 8) (T 7))]) (.seq (.cond (rX 9) .skip (.exit 0)) (.seq (.block 1 (.seq (.ops [mv 10 8,mv 5 10]) (.seq (.ops [mv 11 1,mv 12 0,mv 13 5,oV 14 (riaddr 7 (T 12) (T 13)),oV 15 (rload true 7 (T 14)),oC 16 (T 11) [(T 15)]]) (.cond (rX 16) (.seq (.ops [mv 17 5,mv 4 17]) .ret) .skip)))) (.ops [oV 18 (rbin env .add 3 false true (T 8) (K 1)),mv 8 18])))
abbrev c55_22 : RC := .seq (.ops [oV 4 (rmv (K 0))]) (.seq (.seq (.ops [mv 6 0,oV 7 (rlen (T 6)),oV 8 (rmv (K 0))]) (.block 0 (.loop c55_15))) (.seq (.ops [oV 4 (rmv (K (-1)))]) .ret))
theorem fn55 : env.fn 55 = some ⟨19, [.tmp 4], body55⟩ := by kernel_rfl
theorem comp55 : comp env body55 = c55_22 := by kernel_rfl
def body56 : Code := match Tryz.f56.body with | some c => c | none => .skip
abbrev c56_5 : RC := .seq (.ops [oU 2 (rbox (T 0)),oU 3 (rbox (T 1)),oV 4 (rmv (K 0))]) (.seq (.drawn true [dV 6 (rfaddr 0 (T 2)),dV 7 (rload false 1 (T 6)),dV 8 (rfaddr 0 (T 3)),dV 9 (rload false 1 (T 8)),dV 11 (rfaddr 1 (T 2)),dV 12 (rload false 1 (T 11)),dV 13 (rfaddr 1 (T 3)),dV 14 (rload false 1 (T 13)),dV 16 (rfaddr 2 (T 2)),dV 17 (rload false 1 (T 16)),dV 18 (rfaddr 2 (T 3)),dV 19 (rload false 1 (T 18)),dU 5 (rnew [.v (.int .i64 0), .v (.int .i64 0), .v (.int .i64 0)]),dC false 10 (.func 79) [(T 7), (T 9)],dC false 15 (.func 79) [(T 12), (T 14)],dC false 20 (.func 80) [(T 17), (T 19)],dV 21 (rbuildA 1 [.v (.int .i64 0), .v (.int .i64 0), .v (.int .i64 0)] [(0, (T 10)), (1, (T 15)), (2, (T 20))]),dS (rstore 3 (T 5) (T 21))]) (.seq (.ops [oV 22 (rsliceA 3 (T 5)),oC 23 (.func 81) [(T 22)],mv 4 23]) .ret))
theorem fn56 : env.fn 56 = some ⟨24, [.tmp 4], body56⟩ := by kernel_rfl
theorem comp56 : comp env body56 = c56_5 := by kernel_rfl
def body57 : Code := match Tryz.f57.body with | some c => c | none => .skip
abbrev c57_3 : RC := .seq (.ops [oV 4 (rmv (.const (.bool false)))]) (.seq (.ops [mv 5 0,oU 6 (rconvB (T 5)),mv 7 1,oU 8 (rconvB (T 7)),oV 9 (rbin env .eql 9 false false (T 6) (T 8)),mv 4 9]) .ret)
theorem fn57 : env.fn 57 = some ⟨10, [.tmp 4], body57⟩ := by kernel_rfl
theorem comp57 : comp env body57 = c57_3 := by kernel_rfl
def body58 : Code := match Tryz.f58.body with | some c => c | none => .skip
abbrev c58_3 : RC := .seq (.ops [oV 4 (rmv (.const (.nilFunc)))]) (.seq (.ops [mv 5 0,mv 6 1,oC 7 (.func 82) [(T 5), (T 6), (K 0)],mv 4 7]) .ret)
theorem fn58 : env.fn 58 = some ⟨8, [.tmp 4], body58⟩ := by kernel_rfl
theorem comp58 : comp env body58 = c58_3 := by kernel_rfl
def body59 : Code := match Tryz.f59.body with | some c => c | none => .skip
abbrev c59_3 : RC := .seq (.ops [oV 2 (rmv (.const (.bool false)))]) (.seq (.ops [mv 3 0,oV 4 (rbin env .neq 9 false true (T 3) (.const (.string ⟨#[]⟩))),mv 5 4,oG 6 5 true (rmv (T 0)),oG 7 5 true (rlenS (T 6)),oG 8 5 true (rbin env .leq 3 false true (T 7) (K 12)),oV 9 (rpick (T 5) (T 8) (.const (.bool false))),mv 10 9,oG 11 10 true (rmv (T 0)),oG 12 10 true (rbin env .neq 9 false true (T 11) (.const (.string ⟨#[46]⟩))),oV 13 (rpick (T 10) (T 12) (.const (.bool false))),mv 14 13,oG 15 14 true (rmv (T 0)),oG 16 14 true (rbin env .neq 9 false true (T 15) (.const (.string ⟨#[46, 46]⟩))),oV 17 (rpick (T 14) (T 16) (.const (.bool false))),mv 18 17,oG 19 18 true (rmv (T 0)),oCG 20 18 true (.func 83) [(T 19), (.const (.string ⟨#[97, 98, 99, 100, 101, 102, 103, 104, 105, 106, 107, 108, 109, 110, 111, 112, 113, 114, 115, 116, 117, 118, 119, 120, 121, 122, 48, 49, 50, 51, 52, 53, 54, 55, 56, 57, 46, 95, 45]⟩))],oG 21 18 true (rbin env .eql 9 false true (T 20) (.const (.string ⟨#[]⟩))),oV 22 (rpick (T 18) (T 21) (.const (.bool false))),mv 23 22,oG 24 23 true (rmv (T 0)),oCG 25 23 true (.func 84) [(T 24), (.func 85)],oG 26 23 true (run' .not (T 25)),oV 27 (rpick (T 23) (T 26) (.const (.bool false))),mv 2 27]) .ret)
theorem fn59 : env.fn 59 = some ⟨28, [.tmp 2], body59⟩ := by kernel_rfl
theorem comp59 : comp env body59 = c59_3 := by kernel_rfl
def body60 : Code := match Tryz.f60.body with | some c => c | none => .skip
abbrev c60_3 : RC := .seq (.ops [oU 0 (rnew [.v (.int .i64 0), .v (.int .i64 0), .v (.int .i64 0), .v (.int .i64 0), .v (.int .i64 0), .v (.int .i64 0), .v (.int .i64 0), .v (.int .i64 0)])]) (.seq (.ops [oV 1 (rbuild [.v (.int .i64 0), .v (.int .i64 0)] [(0, 1), (1, 1)] [(0, (K 511)), (1, (K 1000))]),oV 2 (rbuild [.v (.int .i64 0), .v (.int .i64 0)] [(0, 1), (1, 1)] [(0, (K 511))]),oV 3 (rbuild [.v (.int .i64 0), .v (.int .i64 0)] [(0, 1), (1, 1)] []),oV 4 (rbuildA 2 [.v (.int .i64 0), .v (.int .i64 0), .v (.int .i64 0), .v (.int .i64 0), .v (.int .i64 0), .v (.int .i64 0), .v (.int .i64 0), .v (.int .i64 0)] [(1, (T 1)), (2, (T 2)), (3, (T 3))]),oS (rstore 8 (T 0) (T 4))]) .ret)
theorem fn60 : env.fn 60 = some ⟨5, [.cell 0 85], body60⟩ := by kernel_rfl
theorem comp60 : comp env body60 = c60_3 := by kernel_rfl
def body61 : Code := match Tryz.f61.body with | some c => c | none => .skip
abbrev c61_5 : RC := .seq (.ops [oV 2 (rmv (.const (.string ⟨#[]⟩))),oV 3 (rmv (.const (.bool false)))]) (.seq (.ops [mv 7 0,oC 8 (.func 87) [(T 7)],mv 6 8,oV 9 (rext (T 6) 0),oV 10 (rext (T 6) 1),mv 4 9,mv 5 10]) (.seq (.ops [mv 11 4,mv 12 4,oV 13 (rbin env .neq 9 false true (T 12) (.const (.string ⟨#[]⟩))),mv 2 11,mv 3 13]) .ret))
theorem fn61 : env.fn 61 = some ⟨14, [.tmp 2, .tmp 3], body61⟩ := by kernel_rfl
theorem comp61 : comp env body61 = c61_5 := by kernel_rfl
def body62 : Code := match Tryz.f62.body with | some c => c | none => .skip
abbrev c62_25 : RC := .seq (.ops [oV 14 (rbin env .lss 3 false false (T 13) (T 12))]) (.seq (.cond (rX 14) .skip (.exit 0)) (.seq (.block 1 (.seq (.ops [mv 15 13,oV 16 (riaddr 1 (T 11) (T 13)),oV 17 (rload false 1 (T 16)),mv 7 15,mv 8 17]) (.seq (.seq (.ops [mv 18 7,mv 19 1,oV 20 (rlen (T 19)),oV 21 (rbin env .geq 3 false false (T 18) (T 20))]) (.cond (rX 21) (.seq (.ops [oV 6 (rmv (K 1))]) .ret) .skip)) (.seq (.ops [mv 22 1,mv 23 7,oV 24 (riaddr 1 (T 22) (T 23)),oV 25 (rload false 1 (T 24)),mv 9 25]) (.seq (.ops [mv 26 2,mv 27 8,mv 28 9,oC 29 (T 26) [(T 27), (T 28)],mv 10 29]) (.seq (.ops [mv 30 10,oV 31 (rbin env .neq 3 false true (T 30) (K 0))]) (.cond (rX 31) (.seq (.ops [mv 32 10,mv 6 32]) .ret) .skip))))))) (.ops [oV 33 (rbin env .add 3 false true (T 13) (K 1)),mv 13 33])))
abbrev c62_38 : RC := .seq (.ops [oV 6 (rmv (K 0))]) (.seq (.seq (.ops [mv 11 0,oV 12 (rlen (T 11)),oV 13 (rmv (K 0))]) (.block 0 (.loop c62_25))) (.seq (.seq (.ops [mv 34 0,oV 35 (rlen (T 34)),mv 36 1,oV 37 (rlen (T 36)),oV 38 (rbin env .lss 3 false false (T 35) (T 37))]) (.cond (rX 38) (.seq (.ops [oV 6 (rmv (K (-1)))]) .ret) .skip)) (.seq (.ops [oV 6 (rmv (K 0))]) .ret)))
theorem fn62 : env.fn 62 = some ⟨39, [.tmp 6], body62⟩ := by kernel_rfl
theorem comp62 : comp env body62 = c62_38 := by kernel_rfl
def body63 : Code := match Tryz.f63.body with | some c => c | none => .skip
abbrev c63_3 : RC := .seq (.ops [oV 4 (rmv (.const (.slice none 0 0)))]) (.seq (.ops [mv 5 0,mv 6 1,oC 7 (.func 88) [(T 5), (T 6), (K 0), (K (-1))],mv 4 7]) .ret)
theorem fn63 : env.fn 63 = some ⟨8, [.tmp 4], body63⟩ := by kernel_rfl
theorem comp63 : comp env body63 = c63_3 := by kernel_rfl
def body64 : Code := match Tryz.f64.body with | some c => c | none => .skip
abbrev c64_3 : RC := .seq (.ops [oV 4 (rmv (K 0))]) (.seq (.ops [mv 5 0,mv 6 1,oC 7 (.func 65) [(T 5), (T 6)],mv 4 7]) .ret)
theorem fn64 : env.fn 64 = some ⟨8, [.tmp 4], body64⟩ := by kernel_rfl
theorem comp64 : comp env body64 = c64_3 := by kernel_rfl
def body65 : Code := match Tryz.f65.body with | some c => c | none => .skip
abbrev c65_37 : RC := .seq (.ops [oV 4 (rmv (K 0))]) (.seq (.ops [mv 7 0,oC 8 (.func 89) [(T 7)],mv 5 8]) (.seq (.ops [mv 9 1,oC 10 (.func 89) [(T 9)],mv 6 10]) (.seq (.seq (.ops [mv 11 5]) (.cond (rX 11) (.seq (.seq (.ops [mv 12 6]) (.cond (rX 12) (.seq (.ops [oV 4 (rmv (K 0))]) .ret) .skip)) (.seq (.ops [oV 4 (rmv (K (-1)))]) .ret)) .skip)) (.seq (.seq (.ops [mv 13 6]) (.cond (rX 13) (.seq (.ops [oV 4 (rmv (K 1))]) .ret) .skip)) (.seq (.seq (.ops [mv 14 0,mv 15 1,oV 16 (rbin env .lss 9 false false (T 14) (T 15))]) (.cond (rX 16) (.seq (.ops [oV 4 (rmv (K (-1)))]) .ret) .skip)) (.seq (.seq (.ops [mv 17 0,mv 18 1,oV 19 (rbin env .gtr 9 false false (T 17) (T 18))]) (.cond (rX 19) (.seq (.ops [oV 4 (rmv (K 1))]) .ret) .skip)) (.seq (.ops [oV 4 (rmv (K 0))]) .ret)))))))
theorem fn65 : env.fn 65 = some ⟨20, [.tmp 4], body65⟩ := by kernel_rfl
theorem comp65 : comp env body65 = c65_37 := by kernel_rfl
def body66 : Code := match Tryz.f66.body with | some c => c | none => .skip
abbrev c66_15 : RC := .seq (.ops [oV 9 (rbin env .lss 3 false false (T 8) (T 7))]) (.seq (.cond (rX 9) .skip (.exit 0)) (.seq (.block 1 (.seq (.ops [mv 10 8,mv 5 10]) (.seq (.ops [mv 11 1,mv 12 0,mv 13 5,oV 14 (riaddr 4 (T 12) (T 13)),oV 15 (rload true 4 (T 14)),oC 16 (T 11) [(T 15)]]) (.cond (rX 16) (.seq (.ops [mv 17 5,mv 4 17]) .ret) .skip)))) (.ops [oV 18 (rbin env .add 3 false true (T 8) (K 1)),mv 8 18])))
abbrev c66_22 : RC := .seq (.ops [oV 4 (rmv (K 0))]) (.seq (.seq (.ops [mv 6 0,oV 7 (rlen (T 6)),oV 8 (rmv (K 0))]) (.block 0 (.loop c66_15))) (.seq (.ops [oV 4 (rmv (K (-1)))]) .ret))
theorem fn66 : env.fn 66 = some ⟨19, [.tmp 4], body66⟩ := by kernel_rfl
theorem comp66 : comp env body66 = c66_22 := by kernel_rfl
def body67 : Code := match Tryz.f67.body with | some c => c | none => .skip
abbrev c67_3 : RC := .seq (.ops [oU 2 (rbox (T 0)),oV 3 (rmv (.const (.bool false)))]) (.seq (.ops [oV 4 (rfaddr 0 (T 2)),oV 5 (rload false 1 (T 4)),oV 6 (rload false 1 (T 1)),oV 7 (rbin env .eql 9 false false (T 5) (T 6)),mv 3 7]) .ret)
theorem fn67 : env.fn 67 = some ⟨8, [.tmp 3], body67⟩ := by kernel_rfl
theorem comp67 : comp env body67 = c67_3 := by kernel_rfl
def body69 : Code := match Tryz.f69.body with | some c => c | none => .skip
abbrev c69_9 : RC := .seq (.ops [oV 2 (rmv (.const (.slice none 0 0)))]) (.seq (.seq (.ops [mv 3 0,oL 4 false (T 3)]) (.cond (rX 4) (.seq (.ops [oV 2 (rmv (.const (.slice none 0 0)))]) .ret) .skip)) (.seq (.ops [oU 5 (rbuildL 1 0 [] []),mv 6 0,oA 7 1 1 1 (T 5) (T 6),mv 2 7]) .ret))
theorem fn69 : env.fn 69 = some ⟨8, [.tmp 2], body69⟩ := by kernel_rfl
theorem comp69 : comp env body69 = c69_9 := by kernel_rfl
def body79 : Code := match Tryz.f79.body with | some c => c | none => .skip
abbrev c79_37 : RC := .seq (.ops [oV 4 (rmv (K 0))]) (.seq (.ops [mv 7 0,oC 8 (.func 105) [(T 7)],mv 5 8]) (.seq (.ops [mv 9 1,oC 10 (.func 105) [(T 9)],mv 6 10]) (.seq (.seq (.ops [mv 11 5]) (.cond (rX 11) (.seq (.seq (.ops [mv 12 6]) (.cond (rX 12) (.seq (.ops [oV 4 (rmv (K 0))]) .ret) .skip)) (.seq (.ops [oV 4 (rmv (K (-1)))]) .ret)) .skip)) (.seq (.seq (.ops [mv 13 6]) (.cond (rX 13) (.seq (.ops [oV 4 (rmv (K 1))]) .ret) .skip)) (.seq (.seq (.ops [mv 14 0,mv 15 1,oV 16 (rbin env .lss 3 false false (T 14) (T 15))]) (.cond (rX 16) (.seq (.ops [oV 4 (rmv (K (-1)))]) .ret) .skip)) (.seq (.seq (.ops [mv 17 0,mv 18 1,oV 19 (rbin env .gtr 3 false false (T 17) (T 18))]) (.cond (rX 19) (.seq (.ops [oV 4 (rmv (K 1))]) .ret) .skip)) (.seq (.ops [oV 4 (rmv (K 0))]) .ret)))))))
theorem fn79 : env.fn 79 = some ⟨20, [.tmp 4], body79⟩ := by kernel_rfl
theorem comp79 : comp env body79 = c79_37 := by kernel_rfl
def body80 : Code := match Tryz.f80.body with | some c => c | none => .skip
abbrev c80_3 : RC := .seq (.ops [oV 4 (rmv (K 0))]) (.seq (.ops [mv 5 0,mv 6 1,oC 7 (.func 106) [(T 5), (T 6)],mv 4 7]) .ret)
theorem fn80 : env.fn 80 = some ⟨8, [.tmp 4], body80⟩ := by kernel_rfl
theorem comp80 : comp env body80 = c80_3 := by kernel_rfl
def body81 : Code := match Tryz.f81.body with | some c => c | none => .skip
abbrev c81_16 : RC := .seq (.ops [oV 9 (rbin env .lss 3 false false (T 8) (T 7))]) (.seq (.cond (rX 9) .skip (.exit 0)) (.seq (.block 1 (.seq (.ops [oV 10 (riaddr 1 (T 6) (T 8)),oV 11 (rload false 1 (T 10)),mv 5 11]) (.seq (.ops [mv 12 5,mv 13 3,oV 14 (rbin env .neq 3 false false (T 12) (T 13))]) (.cond (rX 14) (.seq (.ops [mv 15 5,mv 2 15]) .ret) .skip)))) (.ops [oV 16 (rbin env .add 3 false true (T 8) (K 1)),mv 8 16])))
abbrev c81_24 : RC := .seq (.ops [oV 2 (rmv (K 0))]) (.seq (.ops [oV 3 (rmv (K 0))]) (.seq (.seq (.ops [mv 6 0,oV 7 (rlen (T 6)),oV 8 (rmv (K 0))]) (.block 0 (.loop c81_16))) (.seq (.ops [mv 17 3,mv 2 17]) .ret)))
theorem fn81 : env.fn 81 = some ⟨18, [.tmp 2], body81⟩ := by kernel_rfl
theorem comp81 : comp env body81 = c81_24 := by kernel_rfl
def body82 : Code := match Tryz.f82.body with | some c => c | none => .skip
abbrev c82_3 : RC := .seq (.ops [oU 3 (rbox (T 0)),oU 4 (rbox (T 1)),oU 5 (rbox (T 2)),oV 6 (rmv (.const (.nilFunc)))]) (.seq (.ops [oV 7 (rfn 107 [] [(T 4), (T 3), (T 5)]),mv 6 7]) .ret)
theorem fn82 : env.fn 82 = some ⟨8, [.tmp 6], body82⟩ := by kernel_rfl
theorem comp82 : comp env body82 = c82_3 := by kernel_rfl
def body83 : Code := match Tryz.f83.body with | some c => c | none => .skip
abbrev c83_23 : RC := .seq (.ops [oV 4 (rmv (.const (.string ⟨#[]⟩)))]) (.seq (.seq (.ops [mv 7 0,oV 8 (rbin env .eql 9 false true (T 7) (.const (.string ⟨#[]⟩))),mv 9 8,oG 10 9 false (rmv (T 1)),oG 11 9 false (rbin env .eql 9 false true (T 10) (.const (.string ⟨#[]⟩))),oV 12 (rpick (T 9) (.const (.bool true)) (T 11))]) (.cond (rX 12) (.seq (.ops [mv 13 0,mv 4 13]) .ret) .skip)) (.seq (.seq (.ops [mv 14 1,oV 15 (rlenS (T 14)),oV 16 (rbin env .eql 3 false true (T 15) (K 1)),mv 17 16,oG 18 17 true (rmv (T 1)),oG 19 17 true (ridxS (T 18) (K 0)),oG 20 17 true (rbin env .lss 5 false true (T 19) (.const (.int .u8 128))),oV 21 (rpick (T 17) (T 20) (.const (.bool false)))]) (.cond (rX 21) (.seq (.drawn true [mw 22 0,mw 23 1,dV 24 (ridxS (T 23) (K 0)),mw 26 1,dV 27 (ridxS (T 26) (K 0)),dC true 25 (.func 111) [(T 22), (T 24)],dC true 28 (.func 110) [(T 25), (T 27)],mw 4 28]) .ret) .skip)) (.seq (.seq (.ops [mv 30 1,oC 31 (.func 112) [(T 30)],mv 29 31,oV 32 (rext (T 29) 0),oV 33 (rext (T 29) 1),oU 5 (rnew [.v (.bool false), .v (.bool false), .v (.bool false), .v (.bool false), .v (.bool false), .v (.bool false), .v (.bool false), .v (.bool false), .v (.bool false), .v (.bool false), .v (.bool false), .v (.bool false), .v (.bool false), .v (.bool false), .v (.bool false), .v (.bool false), .v (.bool false), .v (.bool false), .v (.bool false), .v (.bool false), .v (.bool false), .v (.bool false), .v (.bool false), .v (.bool false), .v (.bool false), .v (.bool false), .v (.bool false), .v (.bool false), .v (.bool false), .v (.bool false), .v (.bool false), .v (.bool false), .v (.bool false), .v (.bool false), .v (.bool false), .v (.bool false), .v (.bool false), .v (.bool false), .v (.bool false), .v (.bool false), .v (.bool false), .v (.bool false), .v (.bool false), .v (.bool false), .v (.bool false), .v (.bool false), .v (.bool false), .v (.bool false), .v (.bool false), .v (.bool false), .v (.bool false), .v (.bool false), .v (.bool false), .v (.bool false), .v (.bool false), .v (.bool false), .v (.bool false), .v (.bool false), .v (.bool false), .v (.bool false), .v (.bool false), .v (.bool false), .v (.bool false), .v (.bool false), .v (.bool false), .v (.bool false), .v (.bool false), .v (.bool false), .v (.bool false), .v (.bool false), .v (.bool false), .v (.bool false), .v (.bool false), .v (.bool false), .v (.bool false), .v (.bool false), .v (.bool false), .v (.bool false), .v (.bool false), .v (.bool false), .v (.bool false), .v (.bool false), .v (.bool false), .v (.bool false), .v (.bool false), .v (.bool false), .v (.bool false), .v (.bool false), .v (.bool false), .v (.bool false), .v (.bool false), .v (.bool false), .v (.bool false), .v (.bool false), .v (.bool false), .v (.bool false), .v (.bool false), .v (.bool false), .v (.bool false), .v (.bool false), .v (.bool false), .v (.bool false), .v (.bool false), .v (.bool false), .v (.bool false), .v (.bool false), .v (.bool false), .v (.bool false), .v (.bool false), .v (.bool false), .v (.bool false), .v (.bool false), .v (.bool false), .v (.bool false), .v (.bool false), .v (.bool false), .v (.bool false), .v (.bool false), .v (.bool false), .v (.bool false), .v (.bool false), .v (.bool false), .v (.bool false), .v (.bool false), .v (.bool false), .v (.bool false), .v (.bool false), .v (.bool false), .v (.bool false), .v (.bool false), .v (.bool false), .v (.bool false), .v (.bool false), .v (.bool false), .v (.bool false), .v (.bool false), .v (.bool false), .v (.bool false), .v (.bool false), .v (.bool false), .v (.bool false), .v (.bool false), .v (.bool false), .v (.bool false), .v (.bool false), .v (.bool false), .v (.bool false), .v (.bool false), .v (.bool false), .v (.bool false), .v (.bool false), .v (.bool false), .v (.bool false), .v (.bool false), .v (.bool false), .v (.bool false), .v (.bool false), .v (.bool false), .v (.bool false), .v (.bool false), .v (.bool false), .v (.bool false), .v (.bool false), .v (.bool false), .v (.bool false), .v (.bool false), .v (.bool false), .v (.bool false), .v (.bool false), .v (.bool false), .v (.bool false), .v (.bool false), .v (.bool false), .v (.bool false), .v (.bool false), .v (.bool false), .v (.bool false), .v (.bool false), .v (.bool false), .v (.bool false), .v (.bool false), .v (.bool false), .v (.bool false), .v (.bool false), .v (.bool false), .v (.bool false), .v (.bool false), .v (.bool false), .v (.bool false), .v (.bool false), .v (.bool false), .v (.bool false), .v (.bool false), .v (.bool false), .v (.bool false), .v (.bool false), .v (.bool false), .v (.bool false), .v (.bool false), .v (.bool false), .v (.bool false), .v (.bool false), .v (.bool false), .v (.bool false), .v (.bool false), .v (.bool false), .v (.bool false), .v (.bool false), .v (.bool false), .v (.bool false), .v (.bool false), .v (.bool false), .v (.bool false), .v (.bool false), .v (.bool false), .v (.bool false), .v (.bool false), .v (.bool false), .v (.bool false), .v (.bool false), .v (.bool false), .v (.bool false), .v (.bool false), .v (.bool false), .v (.bool false), .v (.bool false), .v (.bool false), .v (.bool false), .v (.bool false), .v (.bool false), .v (.bool false), .v (.bool false), .v (.bool false), .v (.bool false), .v (.bool false), .v (.bool false), .v (.bool false), .v (.bool false), .v (.bool false), .v (.bool false), .v (.bool false), .v (.bool false), .v (.bool false), .v (.bool false), .v (.bool false), .v (.bool false), .v (.bool false), .v (.bool false), .v (.bool false), .v (.bool false), .v (.bool false), .v (.bool false), .v (.bool false), .v (.bool false), .v (.bool false), .v (.bool false)]),oS (rstore 256 (T 5) (T 32)),mv 6 33]) (.seq (.ops [mv 34 6]) (.cond (rX 34) (.seq (.ops [mv 35 0,oC 36 (.func 114) [(T 35), (T 5)],oC 37 (.func 113) [(T 36), (T 5)],mv 4 37]) .ret) .skip))) (.seq (.ops [mv 38 0,mv 39 1,oC 40 (.func 116) [(T 38), (T 39)],mv 41 1,oC 42 (.func 115) [(T 40), (T 41)],mv 4 42]) .ret))))
theorem fn83 : env.fn 83 = some ⟨43, [.tmp 4], body83⟩ := by kernel_rfl
theorem comp83 : comp env body83 = c83_23 := by kernel_rfl
def body84 : Code := match Tryz.f84.body with | some c => c | none => .skip
abbrev c84_3 : RC := .seq (.ops [oV 4 (rmv (.const (.bool false)))]) (.seq (.ops [mv 5 0,mv 6 1,oC 7 (.func 117) [(T 5), (T 6)],oV 8 (rbin env .geq 3 false true (T 7) (K 0)),mv 4 8]) .ret)
theorem fn84 : env.fn 84 = some ⟨9, [.tmp 4], body84⟩ := by kernel_rfl
theorem comp84 : comp env body84 = c84_3 := by kernel_rfl
def body85 : Code := match Tryz.f85.body with | some c => c | none => .skip
abbrev c85_3 : RC := .seq (.ops [oV 2 (rmv (.const (.bool false)))]) (.seq (.ops [mv 3 0,oC 4 (.func 86) [(.const (.string ⟨#[97, 98, 99, 100, 101, 102, 103, 104, 105, 106, 107, 108, 109, 110, 111, 112, 113, 114, 115, 116, 117, 118, 119, 120, 121, 122, 48, 49, 50, 51, 52, 53, 54, 55, 56, 57, 46, 95, 45]⟩)), (T 3)],oV 5 (run' .not (T 4)),mv 2 5]) .ret)
theorem fn85 : env.fn 85 = some ⟨6, [.tmp 2], body85⟩ := by kernel_rfl
theorem comp85 : comp env body85 = c85_3 := by kernel_rfl
def body86 : Code := match Tryz.f86.body with | some c => c | none => .skip
abbrev c86_3 : RC := .seq (.ops [oV 4 (rmv (.const (.bool false)))]) (.seq (.ops [mv 5 0,mv 6 1,oC 7 (.func 118) [(T 5), (T 6)],oV 8 (rbin env .geq 3 false true (T 7) (K 0)),mv 4 8]) .ret)
theorem fn86 : env.fn 86 = some ⟨9, [.tmp 4], body86⟩ := by kernel_rfl
theorem comp86 : comp env body86 = c86_3 := by kernel_rfl
def body87 : Code := match Tryz.f87.body with | some c => c | none => .skip
abbrev c87_17 : RC := .seq (.ops [oV 2 (rmv (.const (.string ⟨#[]⟩))),oV 3 (rmv (.const (.string ⟨#[]⟩)))]) (.seq (.seq (.ops [mv 5 0,oC 6 (.func 36) [(T 5)],oV 7 (rbin env .neq 27 false true (T 6) (K 0))]) (.cond (rX 7) (.seq (.ops [oV 2 (rmv (.const (.string ⟨#[]⟩))),oV 3 (rmv (.const (.string ⟨#[]⟩)))]) .ret) .skip)) (.seq (.seq (.ops [mv 8 0,oC 9 (.func 119) [(T 8), (.const (.int .u8 47))],mv 4 9]) (.seq (.ops [mv 10 4,oV 11 (rbin env .geq 3 false true (T 10) (K 0))]) (.cond (rX 11) (.seq (.drawn true [mw 12 0,mw 13 4,dV 14 (rsliceS (T 12) none (some (T 13))),mw 15 0,mw 16 4,dV 17 (rbin env .add 3 false true (T 16) (K 1)),dV 18 (rsliceS (T 15) (some (T 17)) none),mw 2 14,mw 3 18]) .ret) .skip))) (.seq (.ops [mv 19 0,oV 2 (rmv (.const (.string ⟨#[]⟩))),mv 3 19]) .ret)))
theorem fn87 : env.fn 87 = some ⟨20, [.tmp 2, .tmp 3], body87⟩ := by kernel_rfl
theorem comp87 : comp env body87 = c87_17 := by kernel_rfl
def body88 : Code := match Tryz.f88.body with | some c => c | none => .skip
abbrev c88_34 : RC := .seq (.seq (.ops [mv 34 10,mv 35 3,oV 36 (rbin env .lss 3 false false (T 34) (T 35))]) (.cond (rX 36) .skip (.exit 0))) (.block 1 (.seq (.ops [mv 37 0,mv 38 1,oC 39 (.func 109) [(T 37), (T 38)],mv 11 39]) (.seq (.seq (.ops [mv 40 11,oV 41 (rbin env .lss 3 false true (T 40) (K 0))]) (.cond (rX 41) (.exit 0) .skip)) (.seq (.ops [mv 42 9,mv 43 10,mv 44 0,mv 45 11,mv 46 2,oV 47 (rbin env .add 3 false false (T 45) (T 46)),oV 48 (rsliceS (T 44) none (some (T 47))),oV 49 (riaddr 1 (T 42) (T 43)),oS (rstore 1 (T 49) (T 48))]) (.seq (.ops [mv 50 0,mv 51 11,mv 52 1,oV 53 (rlenS (T 52)),oV 54 (rbin env .add 3 false false (T 51) (T 53)),oV 55 (rsliceS (T 50) (some (T 54)) none),mv 0 55]) (.ops [mv 56 10,oV 57 (rbin env .add 3 false true (T 56) (K 1)),mv 10 57]))))))
abbrev c88_49 : RC := .seq (.ops [oV 8 (rmv (.const (.slice none 0 0)))]) (.seq (.seq (.ops [mv 12 3,oV 13 (rbin env .eql 3 false true (T 12) (K 0))]) (.cond (rX 13) (.seq (.ops [oV 8 (rmv (.const (.slice none 0 0)))]) .ret) .skip)) (.seq (.seq (.ops [mv 14 1,oV 15 (rbin env .eql 9 false true (T 14) (.const (.string ⟨#[]⟩)))]) (.cond (rX 15) (.seq (.ops [mv 16 0,mv 17 3,oC 18 (.func 120) [(T 16), (T 17)],mv 8 18]) .ret) .skip)) (.seq (.seq (.ops [mv 19 3,oV 20 (rbin env .lss 3 false true (T 19) (K 0))]) (.cond (rX 20) (.ops [mv 21 0,mv 22 1,oC 23 (.func 121) [(T 21), (T 22)],oV 24 (rbin env .add 3 false true (T 23) (K 1)),mv 3 24]) .skip)) (.seq (.ops [mv 25 3,mv 26 0,oV 27 (rlenS (T 26)),oV 28 (rbin env .add 3 false true (T 27) (K 1)),oV 29 (rmm minV [(T 25), (T 28)]),mv 3 29]) (.seq (.ops [mv 30 3,oU 31 (rmake 1 16 [.v (.string ⟨#[]⟩)] (T 30) (T 30)),mv 9 31]) (.seq (.ops [mv 32 3,oV 33 (rbin env .sub 3 false true (T 32) (K 1)),mv 3 33]) (.seq (.ops [oV 10 (rmv (K 0))]) (.seq (.block 0 (.loop c88_34)) (.seq (.ops [mv 58 9,mv 59 10,mv 60 0,oV 61 (riaddr 1 (T 58) (T 59)),oS (rstore 1 (T 61) (T 60))]) (.seq (.ops [mv 62 9,mv 63 10,oV 64 (rbin env .add 3 false true (T 63) (K 1)),oV 65 (rsliceL 1 (T 62) none (some (T 64)) none),mv 8 65]) .ret))))))))))
theorem fn88 : env.fn 88 = some ⟨66, [.tmp 8], body88⟩ := by kernel_rfl
theorem comp88 : comp env body88 = c88_49 := by kernel_rfl
def body89 : Code := match Tryz.f89.body with | some c => c | none => .skip
abbrev c89_3 : RC := .seq (.ops [oV 2 (rmv (.const (.bool false)))]) (.seq (.ops [mv 3 0,mv 4 0,oV 5 (rbin env .neq 9 false false (T 3) (T 4)),mv 2 5]) .ret)
theorem fn89 : env.fn 89 = some ⟨6, [.tmp 2], body89⟩ := by kernel_rfl
theorem comp89 : comp env body89 = c89_3 := by kernel_rfl
def body105 : Code := match Tryz.f105.body with | some c => c | none => .skip
abbrev c105_3 : RC := .seq (.ops [oV 2 (rmv (.const (.bool false)))]) (.seq (.ops [mv 3 0,mv 4 0,oV 5 (rbin env .neq 3 false false (T 3) (T 4)),mv 2 5]) .ret)
theorem fn105 : env.fn 105 = some ⟨6, [.tmp 2], body105⟩ := by kernel_rfl
theorem comp105 : comp env body105 = c105_3 := by kernel_rfl
def body107 : Code := match Tryz.f107.body with | some c => c | none => .skip
abbrev c107_31 : RC := .block 3 (.seq (.ops [oV 29 (rload false 1 (T 2)),oV 30 (rload false 1 (T 1)),oC 31 (.func 109) [(T 29), (T 30)],mv 7 31]) (.seq (.seq (.ops [mv 32 7,oV 33 (rbin env .lss 3 false true (T 32) (K 0))]) (.cond (rX 33) (.exit 2) .skip)) (.seq (.ops [oV 34 (rload false 1 (T 2)),mv 35 7,oV 36 (rload false 1 (T 3)),oV 37 (rbin env .add 3 false false (T 35) (T 36)),oV 38 (rsliceS (T 34) none (some (T 37))),mv 8 38]) (.seq (.seq (.ops [mv 39 0,mv 40 8,oC 41 (T 39) [(T 40)],oV 42 (run' .not (T 41))]) (.cond (rX 42) .ret .skip)) (.ops [oV 43 (rload false 1 (T 2)),mv 44 7,oV 45 (rload false 1 (T 1)),oV 46 (rlenS (T 45)),oV 47 (rbin env .add 3 false false (T 44) (T 46)),oV 48 (rsliceS (T 43) (some (T 47)) none),oS (rstore 1 (T 2) (T 48))])))))
abbrev c107_36 : RC := .seq (.seq (.ops [oV 9 (rload false 1 (T 1)),oV 10 (rlenS (T 9)),oV 11 (rbin env .eql 3 false true (T 10) (K 0))]) (.cond (rX 11) (.seq (.block 0 (.loop (.seq (.seq (.ops [oV 12 (rload false 1 (T 2)),oV 13 (rlenS (T 12)),oV 14 (rbin env .gtr 3 false true (T 13) (K 0))]) (.cond (rX 14) .skip (.exit 0))) (.block 1 (.seq (.ops [oV 16 (rload false 1 (T 2)),oC 17 (.func 108) [(T 16)],mv 15 17,oV 18 (rext (T 15) 0),oV 19 (rext (T 15) 1),mv 5 18,mv 6 19]) (.seq (.seq (.ops [mv 20 0,oV 21 (rload false 1 (T 2)),mv 22 6,oV 23 (rsliceS (T 21) none (some (T 22))),oC 24 (T 20) [(T 23)],oV 25 (run' .not (T 24))]) (.cond (rX 25) .ret .skip)) (.ops [oV 26 (rload false 1 (T 2)),mv 27 6,oV 28 (rsliceS (T 26) (some (T 27)) none),oS (rstore 1 (T 2) (T 28))]))))))) .ret) .skip)) (.seq (.block 2 (.loop c107_31)) (.ops [mv 49 0,oV 50 (rload false 1 (T 2)),oC 51 (T 49) [(T 50)]]))
theorem fn107 : env.fn 107 = some ⟨52, [], body107⟩ := by kernel_rfl
theorem comp107 : comp env body107 = c107_36 := by kernel_rfl
def body109 : Code := match Tryz.f109.body with | some c => c | none => .skip
abbrev c109_3 : RC := .seq (.ops [oV 4 (rmv (K 0))]) (.seq (.ops [mv 5 0,mv 6 1,oC 7 (.func 129) [(T 5), (T 6)],mv 4 7]) .ret)
theorem fn109 : env.fn 109 = some ⟨8, [.tmp 4], body109⟩ := by kernel_rfl
theorem comp109 : comp env body109 = c109_3 := by kernel_rfl
def body112 : Code := match Tryz.f112.body with | some c => c | none => .skip
abbrev c112_17 : RC := .seq (.seq (.ops [mv 6 4,mv 7 0,oV 8 (rlenS (T 7)),oV 9 (rbin env .lss 3 false false (T 6) (T 8))]) (.cond (rX 9) .skip (.exit 0))) (.seq (.block 1 (.seq (.ops [mv 12 0,mv 13 4,oV 14 (ridxS (T 12) (T 13)),mv 5 14]) (.seq (.seq (.ops [mv 15 5,oV 16 (rbin env .geq 5 false true (T 15) (.const (.int .u8 128)))]) (.cond (rX 16) (.seq (.ops [oV 17 (rload true 256 (T 2)),oS (rstore 256 (T 2) (T 17)),oV 3 (rmv (.const (.bool false)))]) .ret) .skip)) (.ops [mv 18 5,oV 19 (riaddrA 256 1 (T 2) (T 18)),oS (rstore 1 (T 19) (.const (.bool true)))])))) (.ops [mv 10 4,oV 11 (rbin env .add 3 false true (T 10) (K 1)),mv 4 11]))
abbrev c112_24 : RC := .seq (.ops [oU 2 (rnew [.v (.bool false), .v (.bool false), .v (.bool false), .v (.bool false), .v (.bool false), .v (.bool false), .v (.bool false), .v (.bool false), .v (.bool false), .v (.bool false), .v (.bool false), .v (.bool false), .v (.bool false), .v (.bool false), .v (.bool false), .v (.bool false), .v (.bool false), .v (.bool false), .v (.bool false), .v (.bool false), .v (.bool false), .v (.bool false), .v (.bool false), .v (.bool false), .v (.bool false), .v (.bool false), .v (.bool false), .v (.bool false), .v (.bool false), .v (.bool false), .v (.bool false), .v (.bool false), .v (.bool false), .v (.bool false), .v (.bool false), .v (.bool false), .v (.bool false), .v (.bool false), .v (.bool false), .v (.bool false), .v (.bool false), .v (.bool false), .v (.bool false), .v (.bool false), .v (.bool false), .v (.bool false), .v (.bool false), .v (.bool false), .v (.bool false), .v (.bool false), .v (.bool false), .v (.bool false), .v (.bool false), .v (.bool false), .v (.bool false), .v (.bool false), .v (.bool false), .v (.bool false), .v (.bool false), .v (.bool false), .v (.bool false), .v (.bool false), .v (.bool false), .v (.bool false), .v (.bool false), .v (.bool false), .v (.bool false), .v (.bool false), .v (.bool false), .v (.bool false), .v (.bool false), .v (.bool false), .v (.bool false), .v (.bool false), .v (.bool false), .v (.bool false), .v (.bool false), .v (.bool false), .v (.bool false), .v (.bool false), .v (.bool false), .v (.bool false), .v (.bool false), .v (.bool false), .v (.bool false), .v (.bool false), .v (.bool false), .v (.bool false), .v (.bool false), .v (.bool false), .v (.bool false), .v (.bool false), .v (.bool false), .v (.bool false), .v (.bool false), .v (.bool false), .v (.bool false), .v (.bool false), .v (.bool false), .v (.bool false), .v (.bool false), .v (.bool false), .v (.bool false), .v (.bool false), .v (.bool false), .v (.bool false), .v (.bool false), .v (.bool false), .v (.bool false), .v (.bool false), .v (.bool false), .v (.bool false), .v (.bool false), .v (.bool false), .v (.bool false), .v (.bool false), .v (.bool false), .v (.bool false), .v (.bool false), .v (.bool false), .v (.bool false), .v (.bool false), .v (.bool false), .v (.bool false), .v (.bool false), .v (.bool false), .v (.bool false), .v (.bool false), .v (.bool false), .v (.bool false), .v (.bool false), .v (.bool false), .v (.bool false), .v (.bool false), .v (.bool false), .v (.bool false), .v (.bool false), .v (.bool false), .v (.bool false), .v (.bool false), .v (.bool false), .v (.bool false), .v (.bool false), .v (.bool false), .v (.bool false), .v (.bool false), .v (.bool false), .v (.bool false), .v (.bool false), .v (.bool false), .v (.bool false), .v (.bool false), .v (.bool false), .v (.bool false), .v (.bool false), .v (.bool false), .v (.bool false), .v (.bool false), .v (.bool false), .v (.bool false), .v (.bool false), .v (.bool false), .v (.bool false), .v (.bool false), .v (.bool false), .v (.bool false), .v (.bool false), .v (.bool false), .v (.bool false), .v (.bool false), .v (.bool false), .v (.bool false), .v (.bool false), .v (.bool false), .v (.bool false), .v (.bool false), .v (.bool false), .v (.bool false), .v (.bool false), .v (.bool false), .v (.bool false), .v (.bool false), .v (.bool false), .v (.bool false), .v (.bool false), .v (.bool false), .v (.bool false), .v (.bool false), .v (.bool false), .v (.bool false), .v (.bool false), .v (.bool false), .v (.bool false), .v (.bool false), .v (.bool false), .v (.bool false), .v (.bool false), .v (.bool false), .v (.bool false), .v (.bool false), .v (.bool false), .v (.bool false), .v (.bool false), .v (.bool false), .v (.bool false), .v (.bool false), .v (.bool false), .v (.bool false), .v (.bool false), .v (.bool false), .v (.bool false), .v (.bool false), .v (.bool false), .v (.bool false), .v (.bool false), .v (.bool false), .v (.bool false), .v (.bool false), .v (.bool false), .v (.bool false), .v (.bool false), .v (.bool false), .v (.bool false), .v (.bool false), .v (.bool false), .v (.bool false), .v (.bool false), .v (.bool false), .v (.bool false), .v (.bool false), .v (.bool false), .v (.bool false), .v (.bool false), .v (.bool false), .v (.bool false), .v (.bool false), .v (.bool false), .v (.bool false), .v (.bool false), .v (.bool false), .v (.bool false), .v (.bool false), .v (.bool false), .v (.bool false), .v (.bool false), .v (.bool false), .v (.bool false), .v (.bool false), .v (.bool false), .v (.bool false), .v (.bool false), .v (.bool false), .v (.bool false), .v (.bool false), .v (.bool false), .v (.bool false)]),oV 3 (rmv (.const (.bool false)))]) (.seq (.seq (.ops [oV 4 (rmv (K 0))]) (.block 0 (.loop c112_17))) (.seq (.ops [oV 20 (rload true 256 (T 2)),oS (rstore 256 (T 2) (T 20)),oV 3 (rmv (.const (.bool true)))]) .ret))
theorem fn112 : env.fn 112 = some ⟨21, [.cell 2 130, .tmp 3], body112⟩ := by kernel_rfl
theorem comp112 : comp env body112 = c112_24 := by kernel_rfl
def body113 : Code := match Tryz.f113.body with | some c => c | none => .skip
abbrev c113_10 : RC := .seq (.seq (.ops [mv 5 0,oV 6 (rlenS (T 5)),oV 7 (rbin env .gtr 3 false true (T 6) (K 0))]) (.cond (rX 7) .skip (.exit 0))) (.block 1 (.seq (.seq (.ops [mv 8 1,mv 9 0,oV 10 (ridxS (T 9) (K 0)),oC 11 (.func 130) [(T 8), (T 10)],oV 12 (run' .not (T 11))]) (.cond (rX 12) (.exit 0) .skip)) (.ops [mv 13 0,oV 14 (rsliceS (T 13) (some (K 1)) none),mv 0 14])))
abbrev c113_16 : RC := .seq (.ops [oV 4 (rmv (.const (.string ⟨#[]⟩)))]) (.seq (.block 0 (.loop c113_10)) (.seq (.ops [mv 15 0,mv 4 15]) .ret))
theorem fn113 : env.fn 113 = some ⟨16, [.tmp 4], body113⟩ := by kernel_rfl
theorem comp113 : comp env body113 = c113_16 := by kernel_rfl
def body114 : Code := match Tryz.f114.body with | some c => c | none => .skip
abbrev c114_10 : RC := .seq (.seq (.ops [mv 5 0,oV 6 (rlenS (T 5)),oV 7 (rbin env .gtr 3 false true (T 6) (K 0))]) (.cond (rX 7) .skip (.exit 0))) (.block 1 (.seq (.seq (.ops [mv 8 1,mv 9 0,mv 10 0,oV 11 (rlenS (T 10)),oV 12 (rbin env .sub 3 false true (T 11) (K 1)),oV 13 (ridxS (T 9) (T 12)),oC 14 (.func 130) [(T 8), (T 13)],oV 15 (run' .not (T 14))]) (.cond (rX 15) (.exit 0) .skip)) (.ops [mv 16 0,mv 17 0,oV 18 (rlenS (T 17)),oV 19 (rbin env .sub 3 false true (T 18) (K 1)),oV 20 (rsliceS (T 16) none (some (T 19))),mv 0 20])))
abbrev c114_16 : RC := .seq (.ops [oV 4 (rmv (.const (.string ⟨#[]⟩)))]) (.seq (.block 0 (.loop c114_10)) (.seq (.ops [mv 21 0,mv 4 21]) .ret))
theorem fn114 : env.fn 114 = some ⟨22, [.tmp 4], body114⟩ := by kernel_rfl
theorem comp114 : comp env body114 = c114_16 := by kernel_rfl
def body117 : Code := match Tryz.f117.body with | some c => c | none => .skip
abbrev c117_3 : RC := .seq (.ops [oV 4 (rmv (K 0))]) (.seq (.ops [mv 5 0,mv 6 1,oC 7 (.func 132) [(T 5), (T 6), (.const (.bool true))],mv 4 7]) .ret)
theorem fn117 : env.fn 117 = some ⟨8, [.tmp 4], body117⟩ := by kernel_rfl
theorem comp117 : comp env body117 = c117_3 := by kernel_rfl
def body118 : Code := match Tryz.f118.body with | some c => c | none => .skip
abbrev c118_141 : RC := .seq (.ops [oV 4 (rmv (K 0))]) (.block 0 (.seq (.ops [mv 161 1,oV 162 (rbin env .leq 21 true false (.const (.int .i32 0)) (T 161)),mv 163 162,oG 164 163 true (rmv (T 1)),oG 165 163 true (rbin env .lss 21 false true (T 164) (.const (.int .i32 128))),oV 166 (rpick (T 163) (T 165) (.const (.bool false))),mv 160 166]) (.cond (rX 160) (.seq (.ops [mv 167 0,mv 168 1,oU 169 (rconvI .u8 (T 168)),oC 170 (.func 133) [(T 167), (T 169)],mv 4 170]) .ret) (.seq (.ops [mv 172 1,oV 173 (rbin env .eql 21 false true (T 172) (.const (.int .i32 65533))),mv 171 173]) (.cond (rX 171) (.seq (.seq (.ops [mv 174 0,oU 175 (rrange (T 174))]) (.block 9 (.loop (.seq (.ops [oU 176 (rnext (T 175)),oV 177 (rext (T 176) 0)]) (.seq (.cond (rX 177) .skip (.exit 9)) (.block 10 (.seq (.ops [oV 178 (rext (T 176) 1),oV 179 (rext (T 176) 2),mv 5 178,mv 6 179]) (.seq (.ops [mv 180 6,oV 181 (rbin env .eql 21 false true (T 180) (.const (.int .i32 65533)))]) (.cond (rX 181) (.seq (.ops [mv 182 5,mv 4 182]) .ret) .skip))))))))) (.seq (.ops [oV 4 (rmv (K (-1)))]) .ret)) (.seq (.ops [mv 184 1,oC 185 (.func 134) [(T 184)],oV 186 (run' .not (T 185)),mv 183 186]) (.cond (rX 183) (.seq (.ops [oV 4 (rmv (K (-1)))]) .ret) (.scope (subc [1, 0, 1, 1, 1, 1, 1, 1, 0] body118)))))))))
theorem fn118 : env.fn 118 = some ⟨187, [.tmp 4], body118⟩ := by kernel_rfl
theorem comp118 : comp env body118 = c118_141 := by kernel_rfl
def body119 : Code := match Tryz.f119.body with | some c => c | none => .skip
abbrev c119_3 : RC := .seq (.ops [oV 4 (rmv (K 0))]) (.seq (.ops [mv 5 0,mv 6 1,oC 7 (.func 137) [(T 5), (T 6)],mv 4 7]) .ret)
theorem fn119 : env.fn 119 = some ⟨8, [.tmp 4], body119⟩ := by kernel_rfl
theorem comp119 : comp env body119 = c119_3 := by kernel_rfl
def body121 : Code := match Tryz.f121.body with | some c => c | none => .skip
abbrev c121_29 : RC := .seq (.ops [oV 4 (rmv (K 0))]) (.seq (.seq (.ops [mv 7 1,oV 8 (rlenS (T 7)),oV 9 (rbin env .eql 3 false true (T 8) (K 0))]) (.cond (rX 9) (.seq (.ops [mv 10 0,oC 11 (.func 138) [(T 10)],oV 12 (rbin env .add 3 false true (T 11) (K 1)),mv 4 12]) .ret) .skip)) (.seq (.seq (.ops [mv 13 1,oV 14 (rlenS (T 13)),oV 15 (rbin env .eql 3 false true (T 14) (K 1))]) (.cond (rX 15) (.seq (.ops [mv 16 0,mv 17 1,oV 18 (ridxS (T 17) (K 0)),oC 19 (.func 139) [(T 16), (T 18)],mv 4 19]) .ret) .skip)) (.seq (.ops [oV 5 (rmv (K 0))]) (.block 0 (.loop (.block 1 (.seq (.ops [mv 20 0,mv 21 1,oC 22 (.func 109) [(T 20), (T 21)],mv 6 22]) (.seq (.seq (.ops [mv 23 6,oV 24 (rbin env .eql 3 false true (T 23) (K (-1)))]) (.cond (rX 24) (.seq (.ops [mv 25 5,mv 4 25]) .ret) .skip)) (.seq (.ops [mv 26 5,oV 27 (rbin env .add 3 false true (T 26) (K 1)),mv 5 27]) (.ops [mv 28 0,mv 29 6,mv 30 1,oV 31 (rlenS (T 30)),oV 32 (rbin env .add 3 false false (T 29) (T 31)),oV 33 (rsliceS (T 28) (some (T 32)) none),mv 0 33]))))))))))
theorem fn121 : env.fn 121 = some ⟨34, [.tmp 4], body121⟩ := by kernel_rfl
theorem comp121 : comp env body121 = c121_29 := by kernel_rfl
def body129 : Code := match Tryz.f129.body with | some c => c | none => .skip
abbrev c129_94 : RC := .seq (.ops [oV 4 (rmv (K 0))]) (.seq (.ops [mv 14 1,oV 15 (rlenS (T 14)),mv 5 15]) (.seq (.block 0 (.seq (.ops [mv 17 5,oV 18 (rbin env .eql 3 false true (T 17) (K 0)),mv 19 18,oG 20 19 false (rmv (T 1)),oG 21 19 false (rmv (T 0)),oG 22 19 false (rbin env .eql 9 false false (T 20) (T 21)),oV 23 (rpick (T 19) (.const (.bool true)) (T 22)),mv 16 23]) (.cond (rX 16) (.seq (.ops [oV 4 (rmv (K 0))]) .ret) (.seq (.ops [mv 25 5,oV 26 (rbin env .eql 3 false true (T 25) (K 1)),mv 24 26]) (.cond (rX 24) (.seq (.ops [mv 27 0,mv 28 1,oV 29 (ridxS (T 28) (K 0)),oC 30 (.func 141) [(T 27), (T 29)],mv 4 30]) .ret) (.seq (.ops [mv 32 5,mv 33 0,oV 34 (rlenS (T 33)),oV 35 (rbin env .geq 3 false false (T 32) (T 34)),mv 31 35]) (.cond (rX 31) (.seq (.ops [oV 4 (rmv (K (-1)))]) .ret) (.seq (.ops [mv 37 5,oV 38 (rload false 1 (.global 0)),oV 39 (rbin env .leq 3 false false (T 37) (T 38)),mv 40 39,oG 41 40 true (rmv (T 0)),oG 42 40 true (rlenS (T 41)),oG 43 40 true (rbin env .leq 3 false true (T 42) (K 64)),oV 44 (rpick (T 40) (T 43) (.const (.bool false))),mv 36 44]) (.cond (rX 36) (.seq (.ops [mv 45 0,mv 46 1,oC 47 (.func 136) [(T 45), (T 46)],mv 4 47]) .ret) .skip))))))))) (.seq (.ops [mv 48 1,oV 49 (ridxS (T 48) (K 0)),mv 6 49]) (.seq (.ops [mv 50 1,oV 51 (ridxS (T 50) (K 1)),mv 7 51]) (.seq (.ops [oV 8 (rmv (K 0))]) (.seq (.ops [mv 52 0,oV 53 (rlenS (T 52)),mv 54 5,oV 55 (rbin env .sub 3 false false (T 53) (T 54)),oV 56 (rbin env .add 3 false true (T 55) (K 1)),mv 9 56]) (.seq (.ops [oV 10 (rmv (K 0))]) (.seq (.block 1 (.loop (.seq (.seq (.ops [mv 57 8,mv 58 9,oV 59 (rbin env .lss 3 false false (T 57) (T 58))]) (.cond (rX 59) .skip (.exit 1))) (.block 2 (.seq (.seq (.ops [mv 60 0,mv 61 8,oV 62 (ridxS (T 60) (T 61)),mv 63 6,oV 64 (rbin env .neq 5 false false (T 62) (T 63))]) (.cond (rX 64) (.seq (.ops [mv 65 0,mv 66 8,oV 67 (rbin env .add 3 false true (T 66) (K 1)),mv 68 9,oV 69 (rsliceS (T 65) (some (T 67)) (some (T 68))),mv 70 6,oC 71 (.func 141) [(T 69), (T 70)],mv 11 71]) (.seq (.seq (.ops [mv 72 11,oV 73 (rbin env .lss 3 false true (T 72) (K 0))]) (.cond (rX 73) (.seq (.ops [oV 4 (rmv (K (-1)))]) .ret) .skip)) (.ops [mv 74 8,mv 75 11,oV 76 (rbin env .add 3 false true (T 75) (K 1)),oV 77 (rbin env .add 3 false false (T 74) (T 76)),mv 8 77]))) .skip)) (.seq (.seq (.ops [mv 78 0,mv 79 8,oV 80 (rbin env .add 3 false true (T 79) (K 1)),oV 81 (ridxS (T 78) (T 80)),mv 82 7,oV 83 (rbin env .eql 5 false false (T 81) (T 82)),mv 84 83,oG 85 84 true (rmv (T 0)),oG 86 84 true (rmv (T 8)),oG 87 84 true (rmv (T 8)),oG 88 84 true (rmv (T 5)),oG 89 84 true (rbin env .add 3 false false (T 87) (T 88)),oG 90 84 true (rsliceS (T 85) (some (T 86)) (some (T 89))),oG 91 84 true (rmv (T 1)),oG 92 84 true (rbin env .eql 9 false false (T 90) (T 91)),oV 93 (rpick (T 84) (T 92) (.const (.bool false)))]) (.cond (rX 93) (.seq (.ops [mv 94 8,mv 4 94]) .ret) .skip)) (.seq (.ops [mv 95 8,oV 96 (rbin env .add 3 false true (T 95) (K 1)),mv 8 96]) (.seq (.ops [mv 97 10,oV 98 (rbin env .add 3 false true (T 97) (K 1)),mv 10 98]) (.seq (.ops [mv 99 5,oV 100 (rload false 1 (.global 0)),oV 101 (rbin env .leq 3 false false (T 99) (T 100)),mv 102 101,oG 103 102 true (rmv (T 10)),oG 104 102 true (rmv (T 8)),oCG 105 102 true (.func 135) [(T 104)],oG 106 102 true (rbin env .gtr 3 false false (T 103) (T 105)),oV 107 (rpick (T 102) (T 106) (.const (.bool false)))]) (.cond (rX 107) (.seq (.ops [mv 108 0,mv 109 8,oV 110 (rsliceS (T 108) (some (T 109)) none),mv 111 1,oC 112 (.func 136) [(T 110), (T 111)],mv 12 112]) (.seq (.seq (.ops [mv 113 12,oV 114 (rbin env .geq 3 false true (T 113) (K 0))]) (.cond (rX 114) (.seq (.ops [mv 115 12,mv 116 8,oV 117 (rbin env .add 3 false false (T 115) (T 116)),mv 4 117]) .ret) .skip)) (.seq (.ops [oV 4 (rmv (K (-1)))]) .ret))) (.seq (.ops [mv 118 5,oV 119 (rload false 1 (.global 0)),oV 120 (rbin env .gtr 3 false false (T 118) (T 119)),mv 121 120,oG 122 121 true (rmv (T 10)),oG 123 121 true (rmv (T 8)),oG 124 121 true (rbin env .shr 3 false true (T 123) (.const (.int .u64 4))),oG 125 121 true (rbin env .add 3 true false (K 4) (T 124)),oG 126 121 true (rbin env .geq 3 false false (T 122) (T 125)),oV 127 (rpick (T 121) (T 126) (.const (.bool false))),mv 128 127,oG 129 128 true (rmv (T 8)),oG 130 128 true (rmv (T 9)),oG 131 128 true (rbin env .lss 3 false false (T 129) (T 130)),oV 132 (rpick (T 128) (T 131) (.const (.bool false)))]) (.cond (rX 132) (.seq (.ops [mv 133 0,mv 134 8,oV 135 (rsliceS (T 133) (some (T 134)) none),mv 136 1,oC 137 (.func 142) [(T 135), (T 136)],mv 13 137]) (.seq (.seq (.ops [mv 138 13,oV 139 (rbin env .lss 3 false true (T 138) (K 0))]) (.cond (rX 139) (.seq (.ops [oV 4 (rmv (K (-1)))]) .ret) .skip)) (.seq (.ops [mv 140 8,mv 141 13,oV 142 (rbin env .add 3 false false (T 140) (T 141)),mv 4 142]) .ret))) .skip)))))))))))) (.seq (.ops [oV 4 (rmv (K (-1)))]) .ret)))))))))
theorem fn129 : env.fn 129 = some ⟨143, [.tmp 4], body129⟩ := by kernel_rfl
theorem comp129 : comp env body129 = c129_94 := by kernel_rfl
def body130 : Code := match Tryz.f130.body with | some c => c | none => .skip
abbrev c130_3 : RC := .seq (.ops [oV 4 (rmv (.const (.bool false)))]) (.seq (.ops [mv 5 0,mv 6 1,oV 7 (rnil (T 5)),oV 8 (riaddrA 256 1 (T 7) (T 6)),oV 9 (rload false 1 (T 8)),mv 4 9]) .ret)
theorem fn130 : env.fn 130 = some ⟨10, [.tmp 4], body130⟩ := by kernel_rfl
theorem comp130 : comp env body130 = c130_3 := by kernel_rfl
def body132 : Code := match Tryz.f132.body with | some c => c | none => .skip
abbrev c132_13 : RC := .seq (.ops [oU 11 (rnext (T 10)),oV 12 (rext (T 11) 0)]) (.seq (.cond (rX 12) .skip (.exit 0)) (.block 1 (.seq (.ops [oV 13 (rext (T 11) 1),oV 14 (rext (T 11) 2),mv 7 13,mv 8 14]) (.seq (.ops [mv 15 1,mv 16 8,oC 17 (T 15) [(T 16)],mv 18 2,oV 19 (rbin env .eql 4 false false (T 17) (T 18))]) (.cond (rX 19) (.seq (.ops [mv 20 7,mv 6 20]) .ret) .skip)))))
abbrev c132_20 : RC := .seq (.ops [oV 6 (rmv (K 0))]) (.seq (.seq (.ops [mv 9 0,oU 10 (rrange (T 9))]) (.block 0 (.loop c132_13))) (.seq (.ops [oV 6 (rmv (K (-1)))]) .ret))
theorem fn132 : env.fn 132 = some ⟨21, [.tmp 6], body132⟩ := by kernel_rfl
theorem comp132 : comp env body132 = c132_20 := by kernel_rfl
def body133 : Code := match Tryz.f133.body with | some c => c | none => .skip
abbrev c133_3 : RC := .seq (.ops [oV 4 (rmv (K 0))]) (.seq (.ops [mv 5 0,mv 6 1,oC 7 (.func 141) [(T 5), (T 6)],mv 4 7]) .ret)
theorem fn133 : env.fn 133 = some ⟨8, [.tmp 4], body133⟩ := by kernel_rfl
theorem comp133 : comp env body133 = c133_3 := by kernel_rfl
def body137 : Code := match Tryz.f137.body with | some c => c | none => .skip
abbrev c137_13 : RC := .seq (.seq (.ops [mv 9 5,oV 10 (rbin env .geq 3 false true (T 9) (K 0))]) (.cond (rX 10) .skip (.exit 0))) (.seq (.block 1 (.seq (.ops [mv 13 0,mv 14 5,oV 15 (ridxS (T 13) (T 14)),mv 16 1,oV 17 (rbin env .eql 5 false false (T 15) (T 16))]) (.cond (rX 17) (.seq (.ops [mv 18 5,mv 4 18]) .ret) .skip))) (.ops [mv 11 5,oV 12 (rbin env .sub 3 false true (T 11) (K 1)),mv 5 12]))
abbrev c137_20 : RC := .seq (.ops [oV 4 (rmv (K 0))]) (.seq (.seq (.ops [mv 6 0,oV 7 (rlenS (T 6)),oV 8 (rbin env .sub 3 false true (T 7) (K 1)),mv 5 8]) (.block 0 (.loop c137_13))) (.seq (.ops [oV 4 (rmv (K (-1)))]) .ret))
theorem fn137 : env.fn 137 = some ⟨19, [.tmp 4], body137⟩ := by kernel_rfl
theorem comp137 : comp env body137 = c137_20 := by kernel_rfl
def body141 : Code := match Tryz.f141.body with | some c => c | none => .skip
abbrev c141_3 : RC := .seq (.ops [oV 4 (rmv (K 0))]) (.seq (.ops [mv 5 0,mv 6 1,oC 7 (.func 144) [(T 5), (T 6)],mv 4 7]) .ret)
theorem fn141 : env.fn 141 = some ⟨8, [.tmp 4], body141⟩ := by kernel_rfl
theorem comp141 : comp env body141 = c141_3 := by kernel_rfl
end
end Go.Proofs.YtnmidpahhhdlpaaGreatDoor
end
namespace Go.Am
open Go.RowKit
inductive Sh where
 | bool | int (k : IntKind) | str | sl (l : List Sh)
mutual
inductive Typ (P : Program) : TypeId -> List Sh -> Prop where
 | bool {t : TypeId} (h : P.underlying t = some .bool) : Typ P t [.bool]
 | int {t : TypeId} {k : IntKind} (h : P.underlying t = some (.int k)) : Typ P t [.int k]
 | str {t : TypeId} (h : P.underlying t = some .string) : Typ P t [.str]
 | sl {t e : TypeId} {l : List Sh} (h : P.underlying t = some (.slice e)) (he : Typ P e l) (hc : P.cellsOf e = l.length) (h0 : l.length ≠ 0) (hs : l.length < 4096) : Typ P t [.sl l]
 | struct {t : TypeId} {fs : Array Field} {l : List Sh} (h : P.underlying t = some (.struct fs)) (hf : TypFs P fs.toList 0 l) (hc : P.cellsOf t = l.length) : Typ P t l
inductive TypFs (P : Program) : List Field -> Nat -> List Sh -> Prop where
 | nil {n : Nat} : TypFs P [] n []
 | cons {f : Field} {fs : List Field} {n : Nat} {l l' : List Sh} (ho : f.offset = n) (h : Typ P f.type l) (hc : P.cellsOf f.type = l.length) (hs : TypFs P fs (n + l.length) l') : TypFs P (f :: fs) n (l ++ l')
end
mutual
inductive ShP : Sh -> DV -> Prop where
 | bool (b : Bool) : ShP .bool (.v (.bool b))
 | int {k : IntKind} (n : Int) (h1 : k.min <= n) (h2 : n <= k.max) : ShP (.int k) (.v (.int k n))
 | str (s : ByteArray) (h : s.size <= maxLen) : ShP .str (.v (.string s))
 | nil (l : List Sh) : ShP (.sl l) (.v (.slice none 0 0))
 | sl {l : List Sh} {n : Nat} {cs : List DV} (h : ShRows l n cs) (hn : n <= maxLen) (hl : l.length < 4096) : ShP (.sl l) (.lst l.length n cs)
inductive ShPs : List Sh -> List DV -> Prop where
 | nil : ShPs [] []
 | cons {s : Sh} {d : DV} {l : List Sh} {l' : List DV} (h : ShP s d) (hs : ShPs l l') : ShPs (s :: l) (d :: l')
inductive ShRows : List Sh -> Nat -> List DV -> Prop where
 | nil (l : List Sh) : ShRows l 0 []
 | cons {l : List Sh} {n : Nat} {r cs : List DV} (h : ShPs l r) (hs : ShRows l n cs) : ShRows l (n + 1) (r ++ cs)
end
theorem ShPs.length : ∀ {l : List Sh} {ds : List DV}, ShPs l ds -> ds.length = l.length
 | _, _, .nil => rfl
 | _, _, .cons _ hs => by simp only [List.length_cons, hs.length]
theorem ShPs.append : ∀ {l l' : List Sh} {ds ds' : List DV}, ShPs l ds -> ShPs l' ds' -> ShPs (l ++ l') (ds ++ ds')
 | _, _, _, _, .nil, h' => h'
 | _, _, _, _, .cons h hs, h' => .cons h (hs.append h')
theorem ShRows.length {l : List Sh} : ∀ {n : Nat} {cs : List DV}, ShRows l n cs -> cs.length = n * l.length
 | _, _, .nil _ => by simp
 | _, _, .cons h hs => by rw [List.length_append, h.length, hs.length, Nat.succ_mul, Nat.add_comm]
theorem DWs.append {w : World} {l l' : List DV} {vs vs' : List Value} (h : DWs w l vs) (h' : DWs w l' vs') : DWs w (l ++ l') (vs ++ vs') := by
 cases h with
 | nil => exact h'
 | cons h hs => exact .cons h (hs.append h')
section
variable {H : Type} {enc : TypeId × Value -> H} {P : Program} {w : World} {base : Nat} {spare : Nat -> Bool} {held : Bool}
theorem cells?_get {a : Addr} {n : Nat} {cs : List Value} (h : w.cells? base a n = some cs) : cs.length = n /\ ∀ (i : Nat) v, cs[i]? = some v -> w.cell? (a.add i) = some v := by
 unfold World.cells? at h
 split at h
 ·have hl := mapM_some_length h
  simp at hl
  refine ⟨hl, fun i v e => ?_⟩
  have hi : i < n := by
   rcases Nat.lt_or_ge i cs.length with hx | hx
   ·omega
   ·rw [List.getElem?_eq_none hx] at e; cases e
  have := mapM_some_get h i i (by simp [hi])
  rw [this, e]
 ·cases h
theorem cell_path {a : Addr} {v : Value} (h : w.cell? a = some v) : a.block < w.heap.size := by
 rcases Nat.lt_or_ge a.block w.heap.size with hx | hx
 ·exact hx
 ·unfold World.cell? at h
  rw [Array.getElem?_eq_none hx] at h
  simp at h
theorem read_rows {a : Addr} {e : TypeId} {l : List Sh} {fuel : Nat} (hc : P.cellsOf e = l.length)
  (hr : ∀ (cs : List Value) (x : DataW H × List MemPlace), DataW.trod enc P w base spare held fuel e cs = some x -> ∃ ds, DWs w ds cs /\ ShPs l ds) : ∀ (n i : Nat),
  (∀ j, i <= j -> j < i + n -> ((w.cells? base (a.add (j * P.cellsOf e)) (P.cellsOf e)).bind (DataW.trod enc P w base spare held fuel e)).isSome = true) →
  ∃ (ds : List DV) (vs : List Value), (∀ (j : Nat) v, vs[j]? = some v -> w.cell? (a.add (i * l.length + j)) = some v) /\ DWs w ds vs /\ ShRows l n ds
 | 0, i, _ => ⟨[], [], fun j v e => by simp at e, .nil, .nil l⟩
 | n + 1, i, h => by
  have h0 := h i (Nat.le_refl _) (by omega)
  rw [Option.isSome_iff_exists] at h0
  obtain ⟨x, h0⟩ := h0
  simp only [Option.bind_eq_some_iff] at h0
  obtain ⟨cs, k1, k2⟩ := h0
  obtain ⟨ds, k3, k4⟩ := hr cs x k2
  obtain ⟨kl, kc⟩ := cells?_get k1
  obtain ⟨ds', vs', g1, g2, g3⟩ := read_rows hc hr n (i + 1) (fun j hj hj' => h j (by omega) (by omega))
  refine ⟨ds ++ ds', cs ++ vs', fun j v e => ?_, k3.append g2, .cons k4 g3⟩
  rcases Nat.lt_or_ge j cs.length with hx | hx
  ·rw [List.getElem?_append_left hx] at e
   have := kc j v e
   rw [hc] at this
   have e3 : (a.add (i * l.length)).add j = a.add (i * l.length + j) := by
    unfold Addr.add
    split <;> split <;> simp_all <;> omega
   rw [e3] at this
   exact this
  ·rw [List.getElem?_append_right hx] at e
   have := g1 _ v e
   rw [Nat.succ_mul, show i * l.length + l.length + (j - cs.length) = i * l.length + j by omega] at this
   exact this
theorem cell_spot {a : Addr} {v : Value} (h : w.cell? a = some v) : a.spot = none := by
 unfold World.cell? at h
 cases hs : a.spot with
 | none => rfl
 | some x =>
  rw [hs] at h
  split at h <;> simp at h
theorem open_slT {t e : TypeId} {l : List Sh} (hu : P.underlying t = some (.slice e)) (hc : P.cellsOf e = l.length) (h0 : l.length ≠ 0) (hs : l.length < 4096)
  (hr : ∀ (fuel : Nat) (cs : List Value) (x : DataW H × List MemPlace), DataW.trod enc P w base (fun _ => true) held fuel e cs = some x -> ∃ ds, DWs w ds cs /\ ShPs l ds)
  {fuel : Nat} {cs : List Value} {x : DataW H × List MemPlace} (h : DataW.trod enc P w base (fun _ => true) held fuel t cs = some x) : ∃ ds, DWs w ds cs /\ ShPs [.sl l] ds := by
 rcases DataW.trod_slice hu h with ⟨rfl, _⟩ | ⟨a, len, cap, elems, rest, n, rfl, rfl, -, -, hle, hmax, hlen, hel, hrest, -⟩
 ·exact ⟨[.v (.slice none 0 0)], .cons (.v rfl) .nil, .cons (.nil l) .nil⟩
 ·obtain ⟨ds, vs, k1, k2, k3⟩ := read_rows (a := a) hc (hr n) len 0 (fun j _ hj => by rw [hel j (by omega)]; simp; omega)
  have hsh : ShPs [.sl l] [DV.lst l.length len ds] := .cons (.sl k3 (by omega) hs) .nil
  by_cases hcap : cap = 0
  ·subst hcap
   have : len = 0 := by omega
   subst this
   have hd : ds = [] := by cases k3; rfl
   subst hd
   exact ⟨_, .cons (.emp _ a hs) .nil, hsh⟩
  ·have hfirst : ∃ v, w.cell? (a.add (0 * P.cellsOf e)) = some v := by
    have : ∃ x, ((w.cells? base (a.add (0 * P.cellsOf e)) (P.cellsOf e)).bind (DataW.trod enc P w base (fun _ => true) held n e)) = some x := by
     by_cases hl : 0 < len
     ·rw [hel 0 hl]; exact ⟨elems[0], by simp⟩
     ·obtain ⟨hr1, hr2⟩ := hrest rfl
      have := hr2 0 (by omega)
      have e0 : len = 0 := by omega
      subst e0
      simp only [Nat.zero_add] at this
      rw [this]; exact ⟨rest[0], by simp⟩
    obtain ⟨x, hx⟩ := this
    simp only [Option.bind_eq_some_iff] at hx
    obtain ⟨cs, k1, _⟩ := hx
    obtain ⟨kl, kc⟩ := cells?_get k1
    have h0' : 0 < cs.length := by omega
    refine ⟨cs[0], ?_⟩
    have := kc 0 cs[0] (by simp)
    simpa [Addr.add] using this
   obtain ⟨v0, hv0⟩ := hfirst
   rw [Nat.zero_mul, show a.add 0 = a from rfl] at hv0
   have hsp := cell_spot hv0
   have hb := cell_path hv0
   obtain ⟨b, off, spot⟩ := a
   simp only at hsp hb
   subst hsp
   refine ⟨_, .cons (.lst hb (by rw [k3.length]) hle hs (fun j v e => ?_) k2) .nil, hsh⟩
   have := k1 j v e
   rw [Nat.zero_mul, Nat.zero_add] at this
   have e2 : (⟨b, off, none⟩ : Addr).add j = ⟨b, off + j, none⟩ := by
    unfold Addr.add; split
    ·rename_i h; subst h; rfl
    ·rfl
   rw [e2] at this; exact this
mutual
theorem open_typ : ∀ {t : TypeId} {l : List Sh}, Typ P t l -> ∀ (fuel : Nat) (cs : List Value) (x : DataW H × List MemPlace), DataW.trod enc P w base (fun _ => true) held fuel t cs = some x -> ∃ ds, DWs w ds cs /\ ShPs l ds
 | _, _, .bool hu, fuel, cs, x, h => by
  obtain ⟨b, rfl, -⟩ := DataW.trod_bool hu h
  exact ⟨_, .cons (.v rfl) .nil, .cons (.bool b) .nil⟩
 | _, _, .int hu, fuel, cs, x, h => by
  obtain ⟨n, rfl, -, hw⟩ := DataW.trod_int hu h
  simp only [Lit.wf, Bool.and_eq_true, decide_eq_true_eq] at hw
  exact ⟨_, .cons (.v rfl) .nil, .cons (.int n hw.1 hw.2) .nil⟩
 | _, _, .str hu, fuel, cs, x, h => by
  obtain ⟨s, rfl, -, hs⟩ := DataW.trod_string hu h
  exact ⟨_, .cons (.v rfl) .nil, .cons (.str s hs) .nil⟩
 | _, _, .sl hu he hc h0 hs, fuel, cs, x, h => open_slT hu hc h0 hs (open_typ he) h
 | _, _, .struct (l := l) hu hf hc, fuel, cs, x, h => by
  obtain ⟨xs, n, rfl, rfl, hl, hn, hx⟩ := DataW.trod_struct hu h
  obtain ⟨ds, k1, k2⟩ := open_fs hf n cs (fun i f e => by
   rw [hx i f (by simpa using e)]
   have hi : i < xs.length := by
    rw [hn]
    rcases Nat.lt_or_ge i _ with h' | h'
    ·exact h'
    ·rw [List.getElem?_eq_none (by simpa using h')] at e; cases e
   exact ⟨xs[i], by simp⟩) (by rw [hl, hc]; omega)
  rw [List.drop_zero, List.take_of_length_le (by rw [hl, hc]; exact Nat.le_refl _)] at k1
  exact ⟨ds, k1, k2⟩
theorem open_fs : ∀ {fs : List Field} {n : Nat} {l : List Sh}, TypFs P fs n l -> ∀ (fuel : Nat) (cs : List Value),
  (∀ (i : Nat) f, fs[i]? = some f -> ∃ x, DataW.trod enc P w base (fun _ => true) held fuel f.type ((cs.drop f.offset).take (P.cellsOf f.type)) = some x) -> n + l.length <= cs.length →
  ∃ ds, DWs w ds ((cs.drop n).take l.length) /\ ShPs l ds
 | _, _, _, .nil, fuel, cs, _, _ => ⟨[], by simp; exact .nil, .nil⟩
 | _, _, _, .cons (l := l) (l' := l') ho ht hc hs, fuel, cs, h, hl => by
  obtain ⟨x, hx⟩ := h 0 _ rfl
  rw [ho, hc] at hx
  obtain ⟨d1, k1, k2⟩ := open_typ ht fuel _ x hx
  rw [List.length_append] at hl
  obtain ⟨d2, g1, g2⟩ := open_fs hs fuel cs (fun i f e => h (i + 1) f e) (by omega)
  refine ⟨d1 ++ d2, ?_, k2.append g2⟩
  rw [List.length_append, List.take_add, List.drop_drop]
  exact k1.append g1
end
def oneT : Option TypeDesc -> Bool
 | some .bool => true
 | some (.int _) => true
 | some .string => true
 | some (.slice _) => true
 | _ => false
theorem open_one {W0 : World} {b0 : Nat} {t : TypeId} {s : Sh} {v : Value} {d : DataW H} {p : List MemPlace} (hT : Typ P t [s]) (hu : oneT (P.underlying t) = true) (hv : Value.okWide P W0 .any b0 t v)
  (h : DataW.Trod enc P w base (fun _ => true) held t v d p) : ∃ ds, DW w ds v /\ ShP s ds := by
 obtain ⟨fuel, h⟩ := h
 obtain ⟨ds, k1, k2⟩ := open_typ hT fuel _ _ h
 have hna : ∀ cs, v ≠ .agg cs := by
  intro cs e
  subst e
  unfold Value.okWide at hv
  unfold oneT at hu
  split at hu <;> rename_i hq <;> first | (cases hu; done) | (rw [hq] at hv; simp [Cell.okWide, Cell.ok, hq] at hv)
 have hc : v.cells.toList = [v] := by
  unfold Value.cells
  split
  ·exact absurd rfl (hna _)
  ·rfl
 rw [hc] at k1
 cases k2 with
 | cons k2 k3 =>
  cases k1 with
  | cons k1 _ => exact ⟨_, k1, k2⟩
theorem open_agg {W0 : World} {b0 : Nat} {t : TypeId} {l : List Sh} {fs : Array Field} {v : Value} {d : DataW H} {p : List MemPlace} (hT : Typ P t l) (hu : P.underlying t = some (.struct fs)) (hv : Value.okWide P W0 .any b0 t v)
  (h : DataW.Trod enc P w base (fun _ => true) held t v d p) : ∃ ds, DW w (.agg ds) v /\ ShPs l ds := by
 obtain ⟨fuel, h⟩ := h
 obtain ⟨ds, k1, k2⟩ := open_typ hT fuel _ _ h
 unfold Value.okWide at hv
 rw [hu] at hv
 obtain ⟨cs, rfl, _, _⟩ := hv
 exact ⟨ds, .agg k1, k2⟩
end
end Go.Am
namespace Go.Pm
open Go.RowKit Go.Am
mutual
def pvD : Sh -> DV -> PV
 | .sl l, .v _ => .lst .no l.length 0 []
 | .sl l, .lst es n cs => .lst .no es n (pvC l l cs)
 | _, .v x => .v x
 | _, _ => .junk
def pvC : List Sh -> List Sh -> List DV -> List PV
 | _, _, [] => []
 | l, [], d :: ds => match l with
  | [] => []
  | s :: r => pvD s d :: pvC l r ds
 | l, s :: r, d :: ds => pvD s d :: pvC l r ds
end
def pvs : List Sh -> List DV -> List PV
 | [], _ => []
 | _, [] => []
 | s :: r, d :: ds => pvD s d :: pvs r ds
theorem pvC_app (l : List Sh) : ∀ (r : List Sh) (a b : List DV), a.length = r.length -> pvC l r (a ++ b) = pvs r a ++ pvC l [] b
 | [], [], b, _ => rfl
 | s :: r, d :: a, b, h => by
  simp only [List.cons_append, pvC, pvs]
  rw [pvC_app l r a b (by simpa using h)]
theorem pvC_nil (l : List Sh) (h : l ≠ []) (ds : List DV) : pvC l [] ds = pvC l l ds := by
 cases l with
 | nil => exact absurd rfl h
 | cons s r => cases ds <;> simp [pvC]
def Holds (cx : Cx) (ng : Nat) (R : List (List Value × Nat)) : Prop := ∀ (i : Nat) vs es, R[i]? = some (vs, es) -> cx.role (ng + i) = .im vs
theorem Holds.left {cx : Cx} {ng : Nat} {R Y : List (List Value × Nat)} (h : Holds cx ng (R ++ Y)) : Holds cx ng R := fun i vs es e => h i vs es (by
 rw [List.getElem?_append_left]
 ·exact e
 ·rcases Nat.lt_or_ge i R.length with hx | hx
  ·exact hx
  ·rw [List.getElem?_eq_none hx] at e; cases e)
mutual
theorem lay_grow (ng : Nat) : ∀ (d : DV) (R : List (List Value × Nat)), ∃ Y, (lay ng d R).2 = R ++ Y
 | .v x, R => ⟨[], by simp [lay]⟩
 | .lst es k cs, R => by
  obtain ⟨Y, hY⟩ := lays_grow ng cs R
  exact ⟨Y ++ [((lays ng cs R).1, es)], by simp only [lay]; rw [hY, List.append_assoc]⟩
 | .agg cs, R => by
  obtain ⟨Y, hY⟩ := lays_grow ng cs R
  exact ⟨Y, by simp only [lay]; exact hY⟩
theorem lays_grow (ng : Nat) : ∀ (ds : List DV) (R : List (List Value × Nat)), ∃ Y, (lays ng ds R).2 = R ++ Y
 | [], R => ⟨[], by simp [lays]⟩
 | d :: ds, R => by
  obtain ⟨Y, hY⟩ := lay_grow ng d R
  obtain ⟨Y', hY'⟩ := lays_grow ng ds (lay ng d R).2
  exact ⟨Y ++ Y', by simp only [lays]; rw [hY', hY, List.append_assoc]⟩
end
theorem lays_app (ng : Nat) : ∀ (a b : List DV) (R : List (List Value × Nat)), lays ng (a ++ b) R = ((lays ng a R).1 ++ (lays ng b (lays ng a R).2).1, (lays ng b (lays ng a R).2).2)
 | [], b, R => by simp [lays]
 | d :: a, b, R => by
  simp only [List.cons_append, lays]
  rw [lays_app ng a b]
theorem lays_len (ng : Nat) : ∀ (a : List DV) (R : List (List Value × Nat)), (lays ng a R).1.length = a.length
 | [], R => by simp [lays]
 | d :: a, R => by simp only [lays, List.length_cons]; rw [lays_len ng a]
mutual
theorem lay_pr {cx : Cx} (ng : Nat) : ∀ {s : Sh} {d : DV}, ShP s d -> ∀ R, Holds cx ng (lay ng d R).2 -> PR cx (pvD s d) (lay ng d R).1
 | _, _, .bool b, R, _ => by simp only [lay, pvD]; exact .v rfl
 | _, _, .int n _ _, R, _ => by simp only [lay, pvD]; exact .v rfl
 | _, _, .str s _, R, _ => by simp only [lay, pvD]; exact .v rfl
 | _, _, .nil l, R, _ => by simp only [lay, pvD]; exact .l0 _ none 0 (.inl rfl)
 | _, _, .sl (l := l) (n := n) (cs := cs) h hn hl, R, hH => by
  simp only [lay] at hH ⊢
  have hrole := hH (lays ng cs R).2.length (lays ng cs R).1 l.length (by simp)
  obtain ⟨k1, k2⟩ := lay_rows ng h R hH.left
  simp only [pvD]
  have hlen : (pvC l l cs).length = (lays ng cs R).1.length := k1.length
  refine .lno hrole (by rw [hlen, Nat.zero_add]; exact Nat.le_refl _) ?_ ?_ (by rw [capOf_lo' _ _ hl]; exact Nat.le_refl _) (.inr (esOf_lo _ _ hl))
  ·rw [List.drop_zero, List.take_of_length_le (by rw [hlen]; exact Nat.le_refl _)]; exact k1
  ·rw [hlen, lays_len, h.length]
theorem lay_prs {cx : Cx} (ng : Nat) : ∀ {l : List Sh} {ds : List DV}, ShPs l ds -> ∀ R, Holds cx ng (lays ng ds R).2 -> PRs cx (pvs l ds) (lays ng ds R).1
 | _, _, .nil, R, _ => by simp only [lays, pvs]; exact .nil
 | _, _, .cons (d := d) (l' := ds) h hs, R, hH => by
  simp only [lays] at hH ⊢
  obtain ⟨Y, hY⟩ := lays_grow ng ds (lay ng d R).2
  refine .cons (lay_pr ng h R ?_) (lay_prs ng hs _ hH)
  rw [hY] at hH
  exact hH.left
theorem lay_rows {cx : Cx} (ng : Nat) : ∀ {l : List Sh} {n : Nat} {cs : List DV}, ShRows l n cs -> ∀ R, Holds cx ng (lays ng cs R).2 -> PRs cx (pvC l l cs) (lays ng cs R).1 /\ True
 | _, _, _, .nil l, R, _ => by
  refine ⟨?_, trivial⟩
  have : pvC l l [] = [] := by cases l <;> rfl
  rw [this]; simp only [lays]; exact .nil
 | _, _, _, .cons (l := l) (r := r) (cs := cs) h hs, R, hH => by
  refine ⟨?_, trivial⟩
  rw [lays_app] at hH ⊢
  simp only at hH ⊢
  obtain ⟨Y, hY⟩ := lays_grow ng cs (lays ng r R).2
  have h1 := lay_prs (cx := cx) ng h R (by rw [hY] at hH; exact hH.left)
  have h2 := (lay_rows (cx := cx) ng hs _ hH).1
  have e : pvC l l (r ++ cs) = pvs l r ++ pvC l l cs := by
   rw [pvC_app l l r cs h.length]
   by_cases hl : l = []
   ·subst hl
    cases cs with
    | nil => rfl
    | cons c cs => rfl
   ·rw [pvC_nil l hl]
  rw [e]
  exact h1.append h2
end
def cxR (ng : Nat) (R : List (List Value × Nat)) : Cx where
 at_ := fun k i => if k = 0 /\ i < ng then some i else none
 role := fun r => if r < ng then .ob 0 r else match R[r - ng]? with
  | some (vs, _) => .im vs
  | none => .none
 tk := fun _ _ => none
 nk := 1
theorem cxR_holds (ng : Nat) (R : List (List Value × Nat)) : Holds (cxR ng R) ng R := fun i vs es e => by
 unfold cxR
 dsimp only
 rw [if_neg (by omega), Nat.add_sub_cancel_left, e]
theorem memR_at {ng : Nat} {R : List (List Value × Nat)} {i : Nat} {vs : List Value} {es : Nat} (h : R[i]? = some (vs, es)) : (memR ng R).get (ng + i) = some (.row vs .ro es none) := by
 have hi : i < R.length := by
  rcases Nat.lt_or_ge i R.length with hx | hx
  ·exact hx
  ·rw [List.getElem?_eq_none hx] at h; cases h
 rw [Mem.get_def]
 unfold memR
 dsimp only
 have h1 : Nat.blt (ng + i) (ng + R.length) = true := by rw [Nat.blt_eq]; omega
 have h2 : Nat.blt (ng + i) ng = false := by
  cases e : Nat.blt (ng + i) ng with
  | false => rfl
  | true => rw [Nat.blt_eq] at e; omega
 rw [h1, cond_true, h2]
 dsimp only
 rw [show Nat.sub (ng + i) ng = i from Nat.add_sub_cancel_left ng i, nthK_map, h]
theorem cxR_pg {E : Env} {R : List (List Value × Nat)} (hw : Wf (memR E.ng R)) : PG E (cxR E.ng R) (fun _ _ => none) (memR E.ng R) where
 obj := fun k i o h => by cases h
 at_ := fun k i r h => by
  unfold cxR at h ⊢
  dsimp only at h ⊢
  split at h
  ·rename_i hc
   obtain ⟨hk, hi⟩ := hc
   subst hk
   cases h
   refine ⟨?_, ?_⟩
   ·show i < E.ng + R.length; omega
   ·exact .inl (if_pos hi)
  ·cases h
 nd := fun k i o r h => by cases h
 dd := fun r h => by
  unfold cxR at h
  dsimp only at h
  split at h
  ·cases h
  ·split at h <;> cases h
 im := fun r cells h => by
  unfold cxR at h
  dsimp only at h
  split at h
  ·cases h
  ·rename_i hr
   split at h
   ·rename_i vs es he
    cases h
    refine ⟨?_, .ro, es, none, ?_⟩
    ·show r < E.ng + R.length
     rcases Nat.lt_or_ge (r - E.ng) R.length with hx | hx
     ·omega
     ·rw [List.getElem?_eq_none hx] at he; cases he
    ·have := memR_at (ng := E.ng) he
     rwa [show E.ng + (r - E.ng) = r by omega] at this
   ·cases h
 mks := fun r h => by
  unfold cxR at h
  dsimp only at h
  split at h
  ·cases h
  ·split at h <;> cases h
 keys := fun k i hk => by
  unfold cxR at hk ⊢
  dsimp only at hk ⊢
  exact ⟨if_neg (by omega), rfl⟩
 tkin := fun k i k' i' r n es n' es' h => by cases h
 glob := fun g hg => by
  unfold cxR
  dsimp only
  exact if_pos ⟨rfl, hg⟩
 wf := hw
 pos := Nat.zero_lt_one
theorem law_calls {E : Env} {P : Program} {f : Nat} {x : Fun} {ds : List DV} {args : List PV} {vargs : List Value} {W : World} {v : Bool} (hE : EnvOk E P) (hf : E.fn f = some x) (hW : E.ng <= W.heap.size)
  (hd : DWs W ds vargs) (hp : ∀ cx, Holds cx E.ng (lays E.ng ds []).2 -> PRs cx args (lays E.ng ds []).1)
  (h : PT E P f args (fun _ _ => none) (fun x _ => x = .v (.bool v))) :
  Calls P f vargs.toArray W fun e W' => e = .returned (.bool v) /\ (∀ b, b < W.heap.size -> W'.heap[b]? = W.heap[b]?) /\ W.heap.size <= W'.heap.size /\ W'.os = W.os /\ W'.tape = W.tape /\ W'.output = W.output := by
 obtain ⟨Y, X, h1, h2, h3, h4⟩ := lays_ok E.ng hd [] [] rfl
 simp only [List.nil_append] at h1 h4
 have hPR := hp (cxR E.ng (lays E.ng ds []).2) (cxR_holds _ _)
 generalize hq : lays E.ng ds [] = q at h1 h4 hPR
 obtain ⟨vs, R⟩ := q
 simp only at h1 h4 hPR
 subst h1
 obtain ⟨k1, k2⟩ := h4 (injR E.ng X) (fun i t e => by
  unfold injR
  rw [if_neg (by omega), Nat.add_sub_cancel_left, e])
 have hrel : Rel E (injR E.ng X) (memR E.ng R) W := relR h2 hW h3 (fun i t cs es e e' => k2 i t cs es e e')
 obtain ⟨v1, m1, cx1, x1, M1, hc, -, -, hpr, rfl⟩ := h _ _ _ (cxR_pg hrel.wf) hPR
 obtain ⟨rfl, -⟩ := hpr.flat_eq
 have hu := hc.ok _ _ _ hrel k1
 rw [callFunc_enter hE hf] at hu
 have hu' : CallsIn Fence.wide 0 P f vargs.toArray W (retOnly (Got E (injR E.ng X) (memR E.ng R) W (.bool v) m1)) := hu
 refine (callsIn_wide.1 hu').mono fun e W' he => ?_
 cases e with
 | returned v' =>
  obtain ⟨ι1, hvr, hst⟩ := he
  cases hvr
  exact ⟨rfl, fun b hb => hst.keep b hb ownR, hst.size, hst.os, hst.tape, hst.output⟩
 | panicked _ => exact he.elim
 | outgrown => exact he.elim
theorem PTp.of_pure {E : Env} {P : Program} {f : Nat} {x : Fun} {v : Value} (hE : EnvOk E P) (hf : E.fn f = some x) (h : PureE P E.ng f [] v) (hv : flat v = true) : PTp E P f [] (.v v) := by
 intro M cx m vargs hpg hargs
 cases hargs
 refine ⟨v, m, cx, .v v, M, ⟨fun ι w args' hR hA => ?_, fun _ => Keep.refl _⟩, hpg, Ext.refl _ _, .v hv, rfl, rfl⟩
 cases hA
 refine (h w [] hR.ng .nil).mono fun v' w1 ⟨e, hb, hs, h1, h2, h3⟩ => ?_
 subst e
 have hR' : Rel E ι m w1 := hR.more hb hs
 exact ⟨ι, VR.flat hv, ⟨Am.Sub.refl _, (fun b t e n => by rw [e] at n; cases n), hR', fun _ _ h => h, fun b hb' _ => hb b hb', hs, Nat.le_refl _, h1, h2, h3⟩⟩
theorem rows_dec {α : Type} {B : α -> Prop} {enc : α -> List PV} {l : List Sh} (hl : l ≠ []) (hx : ∀ ds, ShPs l ds -> ∃ x : α, pvs l ds = enc x /\ B x) : ∀ {n : Nat} {cs : List DV}, ShRows l n cs -> ∃ xs : List α, xs.length = n /\ pvC l l cs = xs.flatMap enc /\ ∀ x ∈ xs, B x := by
 intro n
 induction n with
 | zero =>
  intro cs h
  cases h
  refine ⟨[], rfl, ?_, fun x hx => by cases hx⟩
  cases l <;> rfl
 | succ n ih =>
  intro cs h
  cases h with
  | cons h hs =>
   obtain ⟨x, h1, h2⟩ := hx _ h
   obtain ⟨xs, g1, g2, g3⟩ := ih hs
   refine ⟨x :: xs, by rw [List.length_cons, g1], ?_, fun y hy => ?_⟩
   ·rw [pvC_app l l _ _ h.length, pvC_nil l hl, h1, g2, List.flatMap_cons]
   ·rcases List.mem_cons.1 hy with rfl | hy
    ·exact h2
    ·exact g3 y hy
theorem sl_dec {α : Type} {B : α -> Prop} {enc : α -> List PV} {l : List Sh} (hl : l ≠ []) (hx : ∀ ds, ShPs l ds -> ∃ x : α, pvs l ds = enc x /\ B x) {d : DV} (h : ShP (.sl l) d) :
  ∃ xs : List α, pvD (.sl l) d = .lst .no l.length xs.length (xs.flatMap enc) /\ xs.length <= maxLen /\ ∀ x ∈ xs, B x := by
 cases h with
 | nil => exact ⟨[], by simp only [pvD]; rfl, Nat.zero_le _, fun x hx => by cases hx⟩
 | sl h hn _ =>
  obtain ⟨xs, g1, g2, g3⟩ := rows_dec hl hx h
  subst g1
  exact ⟨xs, by simp only [pvD]; rw [g2], hn, g3⟩
theorem int_dec {k : IntKind} {d : DV} (h : ShP (.int k) d) : ∃ n : Int, pvD (.int k) d = .v (.int k n) /\ k.min <= n /\ n <= k.max := by
 cases h with
 | int n h1 h2 => exact ⟨n, by simp only [pvD], h1, h2⟩
theorem str_dec {d : DV} (h : ShP .str d) : ∃ s : ByteArray, pvD .str d = .v (.string s) /\ s.size <= maxLen := by
 cases h with
 | str s h => exact ⟨s, by simp only [pvD], h⟩
theorem pvD_agg {cx : Cx} {ng : Nat} {l : List Sh} {ds : List DV} {R : List (List Value × Nat)} (h : ShPs l ds) (hH : Holds cx ng (lay ng (.agg ds) R).2) : PR cx (.agg (pvs l ds)) (lay ng (.agg ds) R).1 := by
 simp only [lay] at hH ⊢
 exact .agg (lay_prs ng h R hH)
end Go.Pm