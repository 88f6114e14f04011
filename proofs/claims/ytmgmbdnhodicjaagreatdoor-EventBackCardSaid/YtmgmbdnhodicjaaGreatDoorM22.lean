/- EventBack. Part 22 of 30; no condition. -/
import Derived.Test.YtmgmbdnhodicjaaGreatDoorM21
import Derived.ChangeArms
set_option linter.unusedVariables false
set_option linter.unusedSimpArgs false
section
set_option maxRecDepth 100000
namespace Go.Proofs.YtmgmbdnhodicjaaGreatDoor
noncomputable section
open Go Go.Am Go.Pm
def body3 : Code := match Tryz.f3.body with | some c => c | none => .skip
theorem fn3 : env.fn 3 = some ⟨111, [.tmp 6], body3⟩ := by kernel_rfl
def body8 : Code := match Tryz.f8.body with | some c => c | none => .skip
theorem fn8 : env.fn 8 = some ⟨62, [.tmp 0], body8⟩ := by kernel_rfl
def body9 : Code := match Tryz.f9.body with | some c => c | none => .skip
abbrev c9_34 : RC := .seq (.ops [oV 57 (rmv (T 1)),oC 58 (.func 51) [(T 57)],oV 56 (rmv (T 58)),oV 59 (rext (T 56) 0),oV 60 (rext (T 56) 1),oU 10 (rnew [.v (.int .i64 0), .v (.int .i64 0), .v (.string ⟨#[]⟩), .v (.int .i64 0), .v (.int .i64 0), .lst .full 0 0 [], .lst .full 0 0 []]),oU 11 (rnew [.v (.int .i64 0), .v (.int .i64 0)]),oS (rstore 7 (T 10) (T 59)),oS (rstore 2 (T 11) (T 60))]) (.seq (.seq (.ops [oV 61 (rfaddr 0 (T 11)),oV 62 (rload false 1 (T 61)),oV 63 (rbin env .neq 26 false true (T 62) (K 0))]) (.cond (rX 63) (.seq (.ops [oV 64 (rmv (T 5)),oV 65 (rmv (T 64)),oG 66 65 true (rfaddr 2 (T 10)),oG 67 65 true (rload false 1 (T 66)),oG 68 65 true (rbin env .eql 9 false true (T 67) (.const (.string ⟨#[]⟩))),oV 69 (rpick (T 65) (T 68) (.const (.bool false))),oV 70 (rmv (T 69)),oG 71 70 true (rfaddr 1 (T 11)),oG 72 70 true (rload false 1 (T 71)),oG 73 70 true (rbin env .geq 3 false true (T 72) (K 0)),oV 74 (rpick (T 70) (T 73) (.const (.bool false))),oV 75 (rmv (T 74)),oG 76 75 true (rfaddr 1 (T 11)),oG 77 75 true (rload false 1 (T 76)),oG 78 75 true (rmv (T 1)),oG 79 75 true (rlen (T 78)),oG 80 75 true (rbin env .leq 3 false false (T 77) (T 79)),oV 81 (rpick (T 75) (T 80) (.const (.bool false))),oV 4 (rmv (T 81))]) .ret) .skip)) (.seq (.ops [oV 83 (rload true 7 (T 10)),oC 84 (.func 39) [(T 83)],oV 82 (rmv (T 84)),oV 85 (rext (T 82) 0),oV 86 (rext (T 82) 1),oV 12 (rmv (T 85)),oV 13 (rmv (T 86))]) (.seq (.ops [oV 87 (rmv (T 5)),oV 88 (rmv (T 87)),oG 89 88 true (rmv (T 13)),oG 90 88 true (rbin env .eql 26 false true (T 89) (K 0)),oV 91 (rpick (T 88) (T 90) (.const (.bool false))),oV 92 (rmv (T 91)),oG 93 92 true (rmv (T 12)),oG 94 92 true (rmv (T 1)),oCG 95 92 true (.func 41) [(T 93), (T 94)],oV 96 (rpick (T 92) (T 95) (.const (.bool false))),oV 4 (rmv (T 96))]) .ret)))
abbrev c9_40 : RC := .seq (.ops [oU 2 (rbox (T 0)),oV 4 (rmv (.const (.bool false)))]) (.seq (.ops [oC 14 (.func 8) [],oV 5 (rmv (T 14))]) (.seq (.seq (.ops [oV 15 (rload true 7 (T 2)),oU 16 (rbuildL 7 1 [.v (.int .i64 0), .v (.int .i64 0), .v (.string ⟨#[]⟩), .v (.int .i64 0), .v (.int .i64 0), .lst .full 0 0 [], .lst .full 0 0 []] [(0, (T 15))]),oC 17 (.func 30) [(T 16), (K 1)],oV 18 (rmv (T 17)),oG 19 18 false (rmv (T 1)),oG 20 18 false (rlen (T 19)),oG 21 18 false (rbin env .gtr 3 false true (T 20) (K 4000)),oV 22 (rpick (T 18) (.const (.bool true)) (T 21))]) (.cond (rX 22) (.seq (.ops [oV 23 (rmv (T 5)),oV 4 (rmv (T 23))]) .ret) .skip)) (.seq (.ops [oV 25 (rload true 7 (T 2)),oC 26 (.func 39) [(T 25)],oV 24 (rmv (T 26)),oV 27 (rext (T 24) 0),oV 28 (rext (T 24) 1),oV 6 (rmv (T 27)),oV 7 (rmv (T 28))]) (.seq (.seq (.ops [oV 29 (rmv (T 7)),oV 30 (rload true 7 (T 2)),oC 31 (.func 42) [(T 30)],oV 32 (rbin env .neq 26 false false (T 29) (T 31)),oV 33 (rmv (T 32)),oG 34 33 false (rload true 7 (T 2)),oCG 35 33 false (.func 25) [(T 34)],oG 36 33 false (rmv (T 6)),oG 37 33 false (rlen (T 36)),oG 38 33 false (rbin env .neq 3 false false (T 35) (T 37)),oV 39 (rpick (T 33) (.const (.bool true)) (T 38))]) (.cond (rX 39) (.seq (.ops [oV 4 (rmv (.const (.bool false)))]) .ret) .skip)) (.seq (.seq (.ops [oV 40 (rmv (T 7)),oV 41 (rbin env .eql 26 false true (T 40) (K 0))]) (.cond (rX 41) (.seq (.ops [oV 43 (rmv (T 6)),oC 44 (.func 51) [(T 43)],oV 42 (rmv (T 44)),oV 45 (rext (T 42) 0),oV 46 (rext (T 42) 1),oU 8 (rnew [.v (.int .i64 0), .v (.int .i64 0), .v (.string ⟨#[]⟩), .v (.int .i64 0), .v (.int .i64 0), .lst .full 0 0 [], .lst .full 0 0 []]),oU 9 (rnew [.v (.int .i64 0), .v (.int .i64 0)]),oS (rstore 7 (T 8) (T 45)),oS (rstore 2 (T 9) (T 46))]) (.seq (.ops [oV 47 (rfaddr 0 (T 9)),oV 48 (rload false 1 (T 47)),oV 49 (rbin env .neq 26 false true (T 48) (K 0)),oV 50 (rmv (T 49)),oG 51 50 false (rload true 7 (T 8)),oG 52 50 false (rload true 7 (T 2)),oCG 53 50 false (.func 19) [(T 51), (T 52)],oG 54 50 false (run' .not (T 53)),oV 55 (rpick (T 50) (.const (.bool true)) (T 54))]) (.cond (rX 55) (.seq (.ops [oV 4 (rmv (.const (.bool false)))]) .ret) .skip))) .skip)) c9_34)))))
theorem fn9 : env.fn 9 = some ⟨97, [.tmp 4], body9⟩ := by kernel_rfl
theorem comp9 : comp env body9 = c9_40 := by kernel_rfl
def body19 : Code := match Tryz.f19.body with | some c => c | none => .skip
abbrev c19_3 : RC := .seq (.ops [oU 2 (rbox (T 0)),oU 3 (rbox (T 1)),oV 4 (rmv (.const (.bool false)))]) (.seq (.ops [oV 5 (rfaddr 0 (T 2)),oV 6 (rload true 2 (T 5)),oV 7 (rfaddr 0 (T 3)),oV 8 (rload true 2 (T 7)),oV 9 (rbin env .eql 33 false false (T 6) (T 8)),oV 10 (rmv (T 9)),oG 11 10 true (rfaddr 2 (T 2)),oG 12 10 true (rload false 1 (T 11)),oG 13 10 true (rfaddr 2 (T 3)),oG 14 10 true (rload false 1 (T 13)),oG 15 10 true (rbin env .eql 9 false false (T 12) (T 14)),oV 16 (rpick (T 10) (T 15) (.const (.bool false))),oV 17 (rmv (T 16)),oG 18 17 true (rfaddr 3 (T 2)),oG 19 17 true (rload true 3 (T 18)),oG 20 17 true (rfaddr 3 (T 3)),oG 21 17 true (rload true 3 (T 20)),oCG 22 17 true (.func 69) [(T 19), (T 21)],oV 23 (rpick (T 17) (T 22) (.const (.bool false))),oV 24 (rmv (T 23)),oG 25 24 true (rfaddr 6 (T 2)),oG 26 24 true (rload false 1 (T 25)),oG 27 24 true (rfaddr 6 (T 3)),oG 28 24 true (rload false 1 (T 27)),oCG 29 24 true (.func 35) [(T 26), (T 28)],oV 30 (rpick (T 24) (T 29) (.const (.bool false))),oV 4 (rmv (T 30))]) .ret)
theorem fn19 : env.fn 19 = some ⟨31, [.tmp 4], body19⟩ := by kernel_rfl
theorem comp19 : comp env body19 = c19_3 := by kernel_rfl
def body25 : Code := match Tryz.f25.body with | some c => c | none => .skip
abbrev c25_5 : RC := .seq (.ops [oU 1 (rbox (T 0)),oV 2 (rmv (K 0))]) (.seq (.ops [oV 6 (rload true 7 (T 1)),oC 7 (.func 39) [(T 6)],oV 5 (rmv (T 7)),oV 8 (rext (T 5) 0),oV 9 (rext (T 5) 1),oV 3 (rmv (T 8)),oV 4 (rmv (T 9))]) (.seq (.ops [oV 10 (rmv (T 3)),oV 11 (rlen (T 10)),oV 2 (rmv (T 11))]) .ret))
theorem fn25 : env.fn 25 = some ⟨12, [.tmp 2], body25⟩ := by kernel_rfl
theorem comp25 : comp env body25 = c25_5 := by kernel_rfl
def body30 : Code := match Tryz.f30.body with | some c => c | none => .skip
abbrev c30_13 : RC := .seq (.seq (.ops [oV 6 (rmv (T 5)),oV 7 (rmv (T 0)),oV 8 (rlen (T 7)),oV 9 (rbin env .lss 3 false false (T 6) (T 8)),oV 10 (rmv (T 9)),oG 11 10 true (rmv (T 5)),oG 12 10 true (rmv (T 1)),oG 13 10 true (rbin env .leq 3 false false (T 11) (T 12)),oV 14 (rpick (T 10) (T 13) (.const (.bool false)))]) (.cond (rX 14) .skip (.exit 0))) (.seq (.block 1 (.seq (.ops [oV 17 (rmv (T 0)),oV 18 (rmv (T 5)),oV 19 (riaddr 7 (T 17) (T 18)),oV 20 (rfaddr 2 (T 19)),oV 21 (rload false 1 (T 20)),oV 22 (rlenS (T 21)),oV 23 (rbin env .gtr 3 false true (T 22) (K 100)),oV 24 (rmv (T 23)),oG 25 24 false (rmv (T 0)),oG 26 24 false (rmv (T 5)),oG 27 24 false (riaddr 7 (T 25) (T 26)),oG 28 24 false (rfaddr 3 (T 27)),oG 29 24 false (rload true 3 (T 28)),oCG 30 24 false (.func 72) [(T 29)],oV 31 (rpick (T 24) (.const (.bool true)) (T 30)),oV 32 (rmv (T 31)),oG 33 32 false (rmv (T 0)),oG 34 32 false (rmv (T 5)),oG 35 32 false (riaddr 7 (T 33) (T 34)),oG 36 32 false (rfaddr 6 (T 35)),oG 37 32 false (rload false 1 (T 36)),oG 38 32 false (rlen (T 37)),oG 39 32 false (rbin env .gtr 3 false true (T 38) (K 100)),oV 40 (rpick (T 32) (.const (.bool true)) (T 39))]) (.cond (rX 40) (.seq (.ops [oV 4 (rmv (.const (.bool true)))]) .ret) .skip))) (.ops [oV 15 (rmv (T 5)),oV 16 (rbin env .add 3 false true (T 15) (K 1)),oV 5 (rmv (T 16))]))
abbrev c30_20 : RC := .seq (.ops [oV 4 (rmv (.const (.bool false)))]) (.seq (.seq (.ops [oV 5 (rmv (K 0))]) (.block 0 (.loop c30_13))) (.seq (.ops [oV 41 (rmv (T 0)),oV 42 (rlen (T 41)),oV 43 (rmv (T 1)),oV 44 (rbin env .gtr 3 false false (T 42) (T 43)),oV 4 (rmv (T 44))]) .ret))
theorem fn30 : env.fn 30 = some ⟨45, [.tmp 4], body30⟩ := by kernel_rfl
theorem comp30 : comp env body30 = c30_20 := by kernel_rfl
def body35 : Code := match Tryz.f35.body with | some c => c | none => .skip
abbrev c35_18 : RC := .seq (.seq (.ops [oV 11 (rmv (T 5)),oV 12 (rmv (T 0)),oV 13 (rlen (T 12)),oV 14 (rbin env .lss 3 false false (T 11) (T 13))]) (.cond (rX 14) .skip (.exit 0))) (.seq (.block 1 (.seq (.drawn true [dV 17 (rmv (T 0)),dV 18 (rmv (T 5)),dV 19 (riaddr 3 (T 17) (T 18)),dV 20 (rload true 3 (T 19)),dV 21 (rmv (T 1)),dV 22 (rmv (T 5)),dV 23 (riaddr 3 (T 21) (T 22)),dV 24 (rload true 3 (T 23)),dV 25 (rbin env .neq 76 false false (T 20) (T 24))]) (.cond (rX 25) (.seq (.ops [oV 4 (rmv (.const (.bool false)))]) .ret) .skip))) (.ops [oV 15 (rmv (T 5)),oV 16 (rbin env .add 3 false true (T 15) (K 1)),oV 5 (rmv (T 16))]))
abbrev c35_26 : RC := .seq (.ops [oV 4 (rmv (.const (.bool false)))]) (.seq (.seq (.ops [oV 6 (rmv (T 0)),oV 7 (rlen (T 6)),oV 8 (rmv (T 1)),oV 9 (rlen (T 8)),oV 10 (rbin env .neq 3 false false (T 7) (T 9))]) (.cond (rX 10) (.seq (.ops [oV 4 (rmv (.const (.bool false)))]) .ret) .skip)) (.seq (.seq (.ops [oV 5 (rmv (K 0))]) (.block 0 (.loop c35_18))) (.seq (.ops [oV 4 (rmv (.const (.bool true)))]) .ret)))
theorem fn35 : env.fn 35 = some ⟨26, [.tmp 4], body35⟩ := by kernel_rfl
theorem comp35 : comp env body35 = c35_26 := by kernel_rfl
def body39 : Code := match Tryz.f39.body with | some c => c | none => .skip
abbrev c39_27 : RC := .seq (.ops [oU 1 (rbox (T 0)),oV 2 (rmv (.const (.slice none 0 0))),oV 3 (rmv (K 0))]) (.seq (.seq (.ops [oV 10 (rload true 7 (T 1)),oC 11 (.func 42) [(T 10)],oV 4 (rmv (T 11))]) (.seq (.ops [oV 12 (rmv (T 4)),oV 13 (rbin env .neq 26 false true (T 12) (K 0))]) (.cond (rX 13) (.seq (.ops [oV 14 (rmv (T 4)),oV 2 (rmv (.const (.slice none 0 0))),oV 3 (rmv (T 14))]) .ret) .skip))) (.seq (.ops [oV 16 (rfaddr 3 (T 1)),oV 17 (rload true 3 (T 16)),oC 18 (.func 79) [(T 17)],oV 15 (rmv (T 18)),oV 19 (rext (T 15) 0),oV 20 (rext (T 15) 1),oV 5 (rmv (T 19)),oV 6 (rmv (T 20))]) (.seq (.ops [oV 22 (rfaddr 6 (T 1)),oV 23 (rload false 1 (T 22)),oC 24 (.func 80) [(T 23)],oV 21 (rmv (T 24)),oV 25 (rext (T 21) 0),oV 26 (rext (T 21) 1),oV 7 (rmv (T 25)),oV 8 (rmv (T 26))]) (.seq (.ops [oC 27 (.func 81) [],oV 9 (rmv (T 27))]) (.seq (.ops [oV 28 (rmv (T 9)),oV 29 (rfaddr 0 (T 1)),oV 30 (rfaddr 0 (T 29)),oV 31 (rload false 1 (T 30)),oC 32 (.func 82) [(T 28), (T 31)]]) (.seq (.ops [oV 33 (rmv (T 9)),oV 34 (rfaddr 0 (T 1)),oV 35 (rfaddr 1 (T 34)),oV 36 (rload false 1 (T 35)),oC 37 (.func 82) [(T 33), (T 36)]]) (.seq (.ops [oV 38 (rmv (T 9)),oV 39 (rfaddr 2 (T 1)),oV 40 (rload false 1 (T 39)),oC 41 (.func 83) [(T 38), (T 40)]]) (.seq (.ops [oV 42 (rmv (T 9)),oV 43 (rmv (T 5)),oC 44 (.func 84) [(T 42), (T 43)]]) (.seq (.ops [oV 45 (rmv (T 9)),oV 46 (rmv (T 7)),oC 47 (.func 84) [(T 45), (T 46)]]) (.seq (.ops [oV 48 (rmv (T 9)),oC 49 (.func 85) [(T 48)],oV 50 (rext (T 49) 0),oV 51 (rext (T 49) 1),oV 2 (rmv (T 50)),oV 3 (rmv (T 51))]) .ret))))))))))
theorem fn39 : env.fn 39 = some ⟨52, [.tmp 2, .tmp 3], body39⟩ := by kernel_rfl
theorem comp39 : comp env body39 = c39_27 := by kernel_rfl
def body41 : Code := match Tryz.f41.body with | some c => c | none => .skip
abbrev c41_3 : RC := .seq (.ops [oV 4 (rmv (.const (.bool false)))]) (.seq (.ops [oV 5 (rmv (T 0)),oU 6 (rconvB (T 5)),oV 7 (rmv (T 1)),oU 8 (rconvB (T 7)),oV 9 (rbin env .eql 9 false false (T 6) (T 8)),oV 4 (rmv (T 9))]) .ret)
theorem fn41 : env.fn 41 = some ⟨10, [.tmp 4], body41⟩ := by kernel_rfl
theorem comp41 : comp env body41 = c41_3 := by kernel_rfl
def body42 : Code := match Tryz.f42.body with | some c => c | none => .skip
abbrev c42_16 : RC := .seq (.ops [oV 21 (rbin env .lss 3 false false (T 20) (T 19))]) (.seq (.cond (rX 21) .skip (.exit 0)) (.seq (.block 1 (.seq (.ops [oV 22 (riaddr 1 (T 18) (T 20)),oV 23 (rload false 1 (T 22)),oV 5 (rmv (T 23))]) (.seq (.ops [oV 24 (rmv (T 5)),oC 25 (T 24) [],oV 26 (run' .not (T 25))]) (.cond (rX 26) (.seq (.ops [oV 2 (rmv (K 2))]) .ret) .skip)))) (.ops [oV 27 (rbin env .add 3 false true (T 20) (K 1)),oV 20 (rmv (T 27))])))
abbrev c42_24 : RC := .seq (.ops [oU 1 (rbox (T 0)),oV 2 (rmv (K 0))]) (.seq (.ops [oV 6 (rload true 7 (T 1)),oV 7 (rbuild [.v (.int .i64 0), .v (.int .i64 0), .v (.string ⟨#[]⟩), .v (.int .i64 0), .v (.int .i64 0), .lst .full 0 0 [], .lst .full 0 0 []] [(0, 7)] [(0, (T 6))]),oU 3 (rnew [.v (.int .i64 0), .v (.int .i64 0), .v (.string ⟨#[]⟩), .v (.int .i64 0), .v (.int .i64 0), .lst .full 0 0 [], .lst .full 0 0 []]),oS (rstore 7 (T 3) (T 7))]) (.seq (.seq (.ops [oV 8 (rload true 7 (T 3)),oV 9 (rfn 92 [(T 8)] []),oV 10 (rload true 7 (T 3)),oV 11 (rfn 93 [(T 10)] []),oV 12 (rload true 7 (T 3)),oV 13 (rfn 94 [(T 12)] []),oV 14 (rload true 7 (T 3)),oV 15 (rfn 95 [(T 14)] []),oV 16 (rload true 7 (T 3)),oV 17 (rfn 96 [(T 16)] []),oU 18 (rbuildL 1 5 [.v (.nilFunc), .v (.nilFunc), .v (.nilFunc), .v (.nilFunc), .v (.nilFunc)] [(0, (T 9)), (1, (T 11)), (2, (T 13)), (3, (T 15)), (4, (T 17))]),oV 19 (rlen (T 18)),oV 20 (rmv (K 0))]) (.block 0 (.loop c42_16))) (.seq (.ops [oV 2 (rmv (K 0))]) .ret)))
theorem fn42 : env.fn 42 = some ⟨28, [.tmp 2], body42⟩ := by kernel_rfl
theorem comp42 : comp env body42 = c42_24 := by kernel_rfl
def body51 : Code := match Tryz.f51.body with | some c => c | none => .skip
abbrev c51_35 : RC := .seq (.ops [oU 2 (rnew [.v (.int .i64 0), .v (.int .i64 0), .v (.string ⟨#[]⟩), .v (.int .i64 0), .v (.int .i64 0), .lst .full 0 0 [], .lst .full 0 0 []]),oU 3 (rnew [.v (.int .i64 0), .v (.int .i64 0)])]) (.seq (.ops [oV 11 (rmv (T 0)),oC 12 (.func 109) [(T 11)],oV 4 (rmv (T 12))]) (.seq (.ops [oU 5 (rnew [.v (.int .i64 0), .v (.int .i64 0), .v (.string ⟨#[]⟩), .v (.int .i64 0), .v (.int .i64 0), .lst .full 0 0 [], .lst .full 0 0 []])]) (.seq (.ops [oV 13 (rmv (T 4)),oC 14 (.func 110) [(T 13), (K 1), (K 200)],oV 15 (rfaddr 0 (T 5)),oV 16 (rfaddr 0 (T 15)),oS (rstore 1 (T 16) (T 14))]) (.seq (.ops [oV 17 (rmv (T 4)),oC 18 (.func 110) [(T 17), (K 1), (K 2147483647)],oV 19 (rfaddr 0 (T 5)),oV 20 (rfaddr 1 (T 19)),oS (rstore 1 (T 20) (T 18))]) (.seq (.ops [oV 21 (rmv (T 4)),oC 22 (.func 111) [(T 21), (K 77)],oV 23 (rfaddr 2 (T 5)),oS (rstore 1 (T 23) (T 22))]) (.seq (.ops [oV 24 (rmv (T 4)),oC 25 (.func 112) [(T 24), (K 1100)],oV 26 (rmv (T 4)),oC 27 (.func 112) [(T 26), (K 40000)],oV 6 (rmv (T 25)),oV 7 (rmv (T 27))]) (.seq (.seq (.ops [oV 28 (rmv (T 4)),oC 29 (.func 113) [(T 28)],oU 8 (rnew [.v (.int .i64 0), .v (.int .i64 0)]),oS (rstore 2 (T 8) (T 29))]) (.seq (.ops [oV 30 (rfaddr 0 (T 8)),oV 31 (rload false 1 (T 30)),oV 32 (rbin env .neq 26 false true (T 31) (K 0))]) (.cond (rX 32) (.seq (.drawn true [dV 33 (rbuild [.v (.int .i64 0), .v (.int .i64 0), .v (.string ⟨#[]⟩), .v (.int .i64 0), .v (.int .i64 0), .lst .full 0 0 [], .lst .full 0 0 []] [(0, 2), (2, 1), (3, 3), (6, 1)] []),dV 34 (rload true 2 (T 8)),.sto (rI none none (rstore 7 (T 2) (T 33))) (fun s => pev s.tm (T 2)) (fun s => [(T 8)].map (pev s.tm)),dS (rstore 2 (T 3) (T 34))]) .ret) .skip))) (.seq (.ops [oU 9 (rnew [.v (.int .i64 0), .v (.int .i64 0)]),oU 10 (rnew [.v (.int .i64 0), .v (.int .i64 0)])]) (.seq (.ops [oV 36 (rmv (T 6)),oC 37 (.func 114) [(T 36)],oV 35 (rmv (T 37)),oV 38 (rext (T 35) 0),oV 39 (rext (T 35) 1),oV 40 (rfaddr 3 (T 5)),oS (rstore 3 (T 40) (T 38)),oS (rstore 2 (T 9) (T 39))]) (.seq (.ops [oV 42 (rmv (T 7)),oC 43 (.func 115) [(T 42)],oV 41 (rmv (T 43)),oV 44 (rext (T 41) 0),oV 45 (rext (T 41) 1),oV 46 (rfaddr 6 (T 5)),oS (rstore 1 (T 46) (T 44)),oS (rstore 2 (T 10) (T 45))]) (.seq (.seq (.ops [oV 47 (rfaddr 0 (T 9)),oV 48 (rload false 1 (T 47)),oV 49 (rbin env .neq 26 false true (T 48) (K 0)),oV 50 (rmv (T 49)),oG 51 50 false (rfaddr 0 (T 10)),oG 52 50 false (rload false 1 (T 51)),oG 53 50 false (rbin env .neq 26 false true (T 52) (K 0)),oV 54 (rpick (T 50) (.const (.bool true)) (T 53)),oV 55 (rmv (T 54)),oG 56 55 false (rload true 7 (T 5)),oCG 57 55 false (.func 42) [(T 56)],oG 58 55 false (rbin env .neq 26 false true (T 57) (K 0)),oV 59 (rpick (T 55) (.const (.bool true)) (T 58))]) (.cond (rX 59) (.seq (.ops [oV 60 (rbuild [.v (.int .i64 0), .v (.int .i64 0), .v (.string ⟨#[]⟩), .v (.int .i64 0), .v (.int .i64 0), .lst .full 0 0 [], .lst .full 0 0 []] [(0, 2), (2, 1), (3, 3), (6, 1)] []),oV 61 (rbuild [.v (.int .i64 0), .v (.int .i64 0)] [(0, 1), (1, 1)] [(0, (K 2))]),oS (rstore 7 (T 2) (T 60)),oS (rstore 2 (T 3) (T 61))]) .ret) .skip)) (.seq (.ops [oV 62 (rload true 7 (T 5)),oV 63 (rbuild [.v (.int .i64 0), .v (.int .i64 0)] [(0, 1), (1, 1)] []),oS (rstore 7 (T 2) (T 62)),oS (rstore 2 (T 3) (T 63))]) .ret))))))))))))
theorem fn51 : env.fn 51 = some ⟨64, [.cell 2 39, .cell 3 70], body51⟩ := by kernel_rfl
theorem comp51 : comp env body51 = c51_35 := by kernel_rfl
def body69 : Code := match Tryz.f69.body with | some c => c | none => .skip
abbrev c69_3 : RC := .seq (.ops [oU 2 (rbox (T 0)),oU 3 (rbox (T 1)),oV 4 (rmv (.const (.bool false)))]) (.seq (.ops [oV 5 (rfaddr 0 (T 2)),oV 6 (rload false 1 (T 5)),oV 7 (rfaddr 0 (T 3)),oV 8 (rload false 1 (T 7)),oV 9 (rbin env .eql 3 false false (T 6) (T 8)),oV 10 (rmv (T 9)),oG 11 10 true (rfaddr 1 (T 2)),oG 12 10 true (rload false 1 (T 11)),oG 13 10 true (rfaddr 1 (T 3)),oG 14 10 true (rload false 1 (T 13)),oG 15 10 true (rbin env .eql 3 false false (T 12) (T 14)),oV 16 (rpick (T 10) (T 15) (.const (.bool false))),oV 17 (rmv (T 16)),oG 18 17 true (rfaddr 2 (T 2)),oG 19 17 true (rload false 1 (T 18)),oG 20 17 true (rfaddr 2 (T 3)),oG 21 17 true (rload false 1 (T 20)),oCG 22 17 true (.func 41) [(T 19), (T 21)],oV 23 (rpick (T 17) (T 22) (.const (.bool false))),oV 4 (rmv (T 23))]) .ret)
theorem fn69 : env.fn 69 = some ⟨24, [.tmp 4], body69⟩ := by kernel_rfl
theorem comp69 : comp env body69 = c69_3 := by kernel_rfl
def body72 : Code := match Tryz.f72.body with | some c => c | none => .skip
abbrev c72_3 : RC := .seq (.ops [oU 1 (rbox (T 0)),oV 2 (rmv (.const (.bool false)))]) (.seq (.ops [oV 3 (rfaddr 2 (T 1)),oV 4 (rload false 1 (T 3)),oV 5 (rlen (T 4)),oV 6 (rbin env .gtr 3 false true (T 5) (K 1200)),oV 2 (rmv (T 6))]) .ret)
theorem fn72 : env.fn 72 = some ⟨7, [.tmp 2], body72⟩ := by kernel_rfl
theorem comp72 : comp env body72 = c72_3 := by kernel_rfl
def body79 : Code := match Tryz.f79.body with | some c => c | none => .skip
abbrev c79_19 : RC := .seq (.ops [oU 1 (rbox (T 0)),oV 2 (rmv (.const (.slice none 0 0))),oV 3 (rmv (K 0))]) (.seq (.seq (.ops [oV 6 (rload true 3 (T 1)),oC 7 (.func 136) [(T 6)],oV 4 (rmv (T 7))]) (.seq (.ops [oV 8 (rmv (T 4)),oV 9 (rbin env .neq 26 false true (T 8) (K 0))]) (.cond (rX 9) (.seq (.ops [oV 10 (rmv (T 4)),oV 2 (rmv (.const (.slice none 0 0))),oV 3 (rmv (T 10))]) .ret) .skip))) (.seq (.ops [oC 11 (.func 81) [],oV 5 (rmv (T 11))]) (.seq (.ops [oV 12 (rmv (T 5)),oV 13 (rfaddr 0 (T 1)),oV 14 (rload false 1 (T 13)),oC 15 (.func 82) [(T 12), (T 14)]]) (.seq (.ops [oV 16 (rmv (T 5)),oV 17 (rfaddr 1 (T 1)),oV 18 (rload false 1 (T 17)),oC 19 (.func 82) [(T 16), (T 18)]]) (.seq (.ops [oV 20 (rmv (T 5)),oV 21 (rfaddr 2 (T 1)),oV 22 (rload false 1 (T 21)),oC 23 (.func 84) [(T 20), (T 22)]]) (.seq (.ops [oV 24 (rmv (T 5)),oC 25 (.func 85) [(T 24)],oV 26 (rext (T 25) 0),oV 27 (rext (T 25) 1),oV 2 (rmv (T 26)),oV 3 (rmv (T 27))]) .ret))))))
theorem fn79 : env.fn 79 = some ⟨28, [.tmp 2, .tmp 3], body79⟩ := by kernel_rfl
theorem comp79 : comp env body79 = c79_19 := by kernel_rfl
def body80 : Code := match Tryz.f80.body with | some c => c | none => .skip
abbrev c80_19 : RC := .seq (.ops [oV 20 (rbin env .lss 3 false false (T 19) (T 18))]) (.seq (.cond (rX 20) .skip (.exit 0)) (.seq (.block 1 (.seq (.ops [oV 21 (riaddr 3 (T 17) (T 19)),oV 22 (rload true 3 (T 21)),oU 7 (rnew [.v (.int .i64 0), .v (.int .i64 0), .v (.int .i64 0)]),oS (rstore 3 (T 7) (T 22))]) (.drawn true [dV 23 (rmv (T 5)),dV 24 (rfaddr 0 (T 7)),dV 25 (rload false 1 (T 24)),dU 26 (rconvI .u8 (T 25)),dU 27 (rbuildL 1 1 [.v (.int .u8 0)] [(0, (T 26))]),dV 28 (rfaddr 1 (T 7)),dV 29 (rload false 1 (T 28)),dV 31 (rfaddr 2 (T 7)),dV 32 (rload false 1 (T 31)),dC false 30 (.func 137) [(T 29)],dC false 33 (.func 137) [(T 32)],dU 34 (rbuildL 1 4 [.lst .full 0 0 [], .lst .full 0 0 [], .lst .full 0 0 [], .lst .full 0 0 []] [(0, (T 23)), (1, (T 27)), (2, (T 30)), (3, (T 33))]),dC true 35 (.func 138) [(T 34)],dV 5 (rmv (T 35))]))) (.ops [oV 36 (rbin env .add 3 false true (T 19) (K 1)),oV 19 (rmv (T 36))])))
abbrev c80_28 : RC := .seq (.ops [oV 2 (rmv (.const (.slice none 0 0))),oV 3 (rmv (K 0))]) (.seq (.seq (.ops [oV 8 (rmv (T 0)),oC 9 (.func 131) [(T 8)],oV 4 (rmv (T 9))]) (.seq (.ops [oV 10 (rmv (T 4)),oV 11 (rbin env .neq 26 false true (T 10) (K 0))]) (.cond (rX 11) (.seq (.ops [oV 12 (rmv (T 4)),oV 2 (rmv (.const (.slice none 0 0))),oV 3 (rmv (T 12))]) .ret) .skip))) (.seq (.ops [oV 13 (rmv (T 0)),oV 14 (rlen (T 13)),oC 15 (.func 137) [(T 14)],oV 16 (rsliceL 1 (T 15) (some (K 2)) none none),oV 5 (rmv (T 16))]) (.seq (.seq (.ops [oV 17 (rmv (T 0)),oV 18 (rlen (T 17)),oV 19 (rmv (K 0))]) (.block 0 (.loop c80_19))) (.seq (.ops [oV 37 (rmv (T 5)),oV 2 (rmv (T 37)),oV 3 (rmv (K 0))]) .ret))))
theorem fn80 : env.fn 80 = some ⟨38, [.tmp 2, .tmp 3], body80⟩ := by kernel_rfl
theorem comp80 : comp env body80 = c80_28 := by kernel_rfl
def body81 : Code := match Tryz.f81.body with | some c => c | none => .skip
abbrev c81_3 : RC := .seq (.ops [oV 0 (rmv (.const (.pointer none)))]) (.seq (.ops [oV 1 (rbuild [.v (.bool false), .lst .full 0 0 [], .v (.int .i64 0)] [(0, 1), (1, 1), (2, 1)] [(0, (.const (.bool true)))]),oU 2 (rbox (T 1)),oV 0 (rmv (T 2))]) .ret)
theorem fn81 : env.fn 81 = some ⟨3, [.tmp 0], body81⟩ := by kernel_rfl
theorem comp81 : comp env body81 = c81_3 := by kernel_rfl
def body82 : Code := match Tryz.f82.body with | some c => c | none => .skip
abbrev c82_10 : RC := .seq (.seq (.ops [oV 4 (rmv (T 0)),oV 5 (rbin env .eql 112 false true (T 4) (.const (.pointer none))),oV 6 (rmv (T 5)),oG 7 6 false (rmv (T 0)),oG 8 6 false (rnil (T 7)),oG 9 6 false (rfaddr 0 (T 8)),oG 10 6 false (rload false 1 (T 9)),oG 11 6 false (run' .not (T 10)),oV 12 (rpick (T 6) (.const (.bool true)) (T 11)),oV 13 (rmv (T 12)),oG 14 13 false (rmv (T 0)),oG 15 13 false (rnil (T 14)),oG 16 13 false (rfaddr 2 (T 15)),oG 17 13 false (rload false 1 (T 16)),oG 18 13 false (rbin env .neq 26 false true (T 17) (K 0)),oV 19 (rpick (T 13) (.const (.bool true)) (T 18))]) (.cond (rX 19) .ret .skip)) (.seq (.seq (.ops [oV 20 (rmv (T 1)),oV 21 (rbin env .lss 3 false true (T 20) (K 0)),oV 22 (rmv (T 21)),oG 23 22 false (rmv (T 1)),oG 24 22 false (rbin env .gtr 3 false true (T 23) (K 4611686018427387903)),oV 25 (rpick (T 22) (.const (.bool true)) (T 24))]) (.cond (rX 25) (.seq (.ops [oV 26 (rmv (T 0)),oV 27 (rnil (T 26)),oV 28 (rfaddr 2 (T 27)),oS (rstore 1 (T 28) (K 5))]) .ret) .skip)) (.ops [oV 29 (rmv (T 0)),oV 30 (rmv (T 1)),oC 31 (.func 140) [(T 30)],oU 32 (rbuildL 1 1 [.lst .full 0 0 []] [(0, (T 31))]),oC 33 (.func 139) [(T 29), (T 32)]]))
theorem fn82 : env.fn 82 = some ⟨34, [], body82⟩ := by kernel_rfl
theorem comp82 : comp env body82 = c82_10 := by kernel_rfl
def body83 : Code := match Tryz.f83.body with | some c => c | none => .skip
abbrev c83_0 : RC := .ops [oV 4 (rmv (T 0)),oV 5 (rmv (T 1)),oU 6 (rbytes (T 5)),oC 7 (.func 84) [(T 4), (T 6)]]
theorem fn83 : env.fn 83 = some ⟨8, [], body83⟩ := by kernel_rfl
theorem comp83 : comp env body83 = c83_0 := by kernel_rfl
def body84 : Code := match Tryz.f84.body with | some c => c | none => .skip
abbrev c84_2 : RC := .seq (.ops [oV 5 (rmv (T 0)),oV 6 (rfn 139 [(T 5)] []),oV 4 (rmv (T 6))]) (.ops [oV 7 (rmv (T 4)),oV 8 (rmv (T 1)),oV 9 (rlen (T 8)),oC 10 (.func 140) [(T 9)],oV 11 (rmv (T 1)),oU 12 (rbuildL 1 2 [.lst .full 0 0 [], .lst .full 0 0 []] [(0, (T 10)), (1, (T 11))]),oC 13 (T 7) [(T 12)]])
theorem fn84 : env.fn 84 = some ⟨14, [], body84⟩ := by kernel_rfl
theorem comp84 : comp env body84 = c84_2 := by kernel_rfl
def body85 : Code := match Tryz.f85.body with | some c => c | none => .skip
abbrev c85_15 : RC := .seq (.ops [oV 2 (rmv (.const (.slice none 0 0))),oV 3 (rmv (K 0))]) (.seq (.block 0 (.seq (.ops [oV 5 (rmv (T 0)),oV 6 (rbin env .eql 112 false true (T 5) (.const (.pointer none))),oV 7 (rmv (T 6)),oG 8 7 false (rmv (T 0)),oG 9 7 false (rnil (T 8)),oG 10 7 false (rfaddr 0 (T 9)),oG 11 7 false (rload false 1 (T 10)),oG 12 7 false (run' .not (T 11)),oV 13 (rpick (T 7) (.const (.bool true)) (T 12)),oV 4 (rmv (T 13))]) (.cond (rX 4) (.seq (.ops [oV 2 (rmv (.const (.slice none 0 0))),oV 3 (rmv (K 1))]) .ret) (.seq (.ops [oV 15 (rmv (T 0)),oV 16 (rnil (T 15)),oV 17 (rfaddr 2 (T 16)),oV 18 (rload false 1 (T 17)),oV 19 (rbin env .neq 26 false true (T 18) (K 0)),oV 14 (rmv (T 19))]) (.cond (rX 14) (.seq (.drawn true [dV 20 (rmv (T 0)),dV 21 (rnil (T 20)),dV 22 (rfaddr 2 (T 21)),dV 23 (rload false 1 (T 22)),dV 2 (rmv (.const (.slice none 0 0))),dV 3 (rmv (T 23))]) .ret) .skip))))) (.seq (.ops [oV 24 (rmv (T 0)),oV 25 (rnil (T 24)),oV 26 (rfaddr 1 (T 25)),oV 27 (rload false 1 (T 26)),oC 28 (.func 141) [(T 27)],oV 2 (rmv (T 28)),oV 3 (rmv (K 0))]) .ret))
theorem fn85 : env.fn 85 = some ⟨29, [.tmp 2, .tmp 3], body85⟩ := by kernel_rfl
theorem comp85 : comp env body85 = c85_15 := by kernel_rfl
def body92 : Code := match Tryz.f92.body with | some c => c | none => .skip
abbrev c92_3 : RC := .seq (.ops [oU 1 (rbox (T 0)),oV 2 (rmv (.const (.bool false)))]) (.seq (.ops [oV 3 (rfaddr 0 (T 1)),oV 4 (rfaddr 0 (T 3)),oV 5 (rload true 2 (T 4)),oC 6 (.func 132) [(T 5)],oV 7 (rbin env .eql 26 false true (T 6) (K 0)),oV 2 (rmv (T 7))]) .ret)
theorem fn92 : env.fn 92 = some ⟨8, [.tmp 2], body92⟩ := by kernel_rfl
theorem comp92 : comp env body92 = c92_3 := by kernel_rfl
def body93 : Code := match Tryz.f93.body with | some c => c | none => .skip
abbrev c93_3 : RC := .seq (.ops [oU 1 (rbox (T 0)),oV 2 (rmv (.const (.bool false)))]) (.seq (.ops [oV 3 (rfaddr 0 (T 1)),oV 4 (rfaddr 2 (T 3)),oV 5 (rload false 1 (T 4)),oC 6 (.func 144) [(T 5)],oV 7 (rbin env .eql 26 false true (T 6) (K 0)),oV 2 (rmv (T 7))]) .ret)
theorem fn93 : env.fn 93 = some ⟨8, [.tmp 2], body93⟩ := by kernel_rfl
theorem comp93 : comp env body93 = c93_3 := by kernel_rfl
def body94 : Code := match Tryz.f94.body with | some c => c | none => .skip
abbrev c94_3 : RC := .seq (.ops [oU 1 (rbox (T 0)),oV 2 (rmv (.const (.bool false)))]) (.seq (.ops [oV 3 (rfaddr 0 (T 1)),oV 4 (rfaddr 3 (T 3)),oV 5 (rload true 3 (T 4)),oC 6 (.func 136) [(T 5)],oV 7 (rbin env .eql 26 false true (T 6) (K 0)),oV 2 (rmv (T 7))]) .ret)
theorem fn94 : env.fn 94 = some ⟨8, [.tmp 2], body94⟩ := by kernel_rfl
theorem comp94 : comp env body94 = c94_3 := by kernel_rfl
def body95 : Code := match Tryz.f95.body with | some c => c | none => .skip
abbrev c95_3 : RC := .seq (.ops [oU 1 (rbox (T 0)),oV 2 (rmv (.const (.bool false)))]) (.seq (.ops [oV 3 (rfaddr 0 (T 1)),oV 4 (rfaddr 6 (T 3)),oV 5 (rload false 1 (T 4)),oC 6 (.func 131) [(T 5)],oV 7 (rbin env .eql 26 false true (T 6) (K 0)),oV 2 (rmv (T 7))]) .ret)
theorem fn95 : env.fn 95 = some ⟨8, [.tmp 2], body95⟩ := by kernel_rfl
theorem comp95 : comp env body95 = c95_3 := by kernel_rfl
def body96 : Code := match Tryz.f96.body with | some c => c | none => .skip
abbrev c96_3 : RC := .seq (.ops [oU 1 (rbox (T 0)),oV 2 (rmv (.const (.bool false)))]) (.seq (.drawn true [dV 3 (rfaddr 0 (T 1)),dV 4 (rfaddr 6 (T 3)),dV 5 (rload false 1 (T 4)),dV 6 (rfaddr 0 (T 1)),dV 7 (rfaddr 0 (T 6)),dV 8 (rfaddr 0 (T 7)),dV 9 (rload false 1 (T 8)),dV 11 (rfaddr 0 (T 1)),dV 12 (rfaddr 0 (T 11)),dV 13 (rfaddr 1 (T 12)),dV 14 (rload false 1 (T 13)),dC false 10 (.func 145) [(T 5), (T 9)],dV 15 (rbin env .lss 3 false false (T 10) (T 14)),dV 2 (rmv (T 15))]) .ret)
theorem fn96 : env.fn 96 = some ⟨16, [.tmp 2], body96⟩ := by kernel_rfl
theorem comp96 : comp env body96 = c96_3 := by kernel_rfl
def body109 : Code := match Tryz.f109.body with | some c => c | none => .skip
abbrev c109_3 : RC := .seq (.ops [oV 2 (rmv (.const (.pointer none)))]) (.seq (.ops [oV 3 (rmv (T 0)),oC 4 (.func 141) [(T 3)],oV 5 (rbuild [.v (.bool false), .lst .full 0 0 [], .v (.int .i64 0), .v (.int .i64 0), .v (.int .i64 0)] [(0, 1), (1, 1), (2, 1), (3, 2)] [(0, (.const (.bool true))), (1, (T 4))]),oU 6 (rbox (T 5)),oV 2 (rmv (T 6))]) .ret)
theorem fn109 : env.fn 109 = some ⟨7, [.tmp 2], body109⟩ := by kernel_rfl
theorem comp109 : comp env body109 = c109_3 := by kernel_rfl
def body110 : Code := match Tryz.f110.body with | some c => c | none => .skip
abbrev c110_30 : RC := .seq (.ops [oV 87 (rbin env .lss 3 false false (T 86) (T 85))]) (.seq (.cond (rX 87) .skip (.exit 0)) (.seq (.block 1 (.seq (.ops [oV 88 (riaddr 1 (T 84) (T 86)),oV 89 (rload false 1 (T 88)),oV 12 (rmv (T 89))]) (.ops [oV 90 (rmv (T 7)),oV 91 (rbin env .shl 164 false true (T 90) (.const (.int .u64 8))),oV 92 (rmv (T 12)),oU 93 (rconvI .u64 (T 92)),oV 94 (rbin env .or 164 false false (T 91) (T 93)),oV 7 (rmv (T 94))]))) (.ops [oV 95 (rbin env .add 3 false true (T 86) (K 1)),oV 86 (rmv (T 95))])))
abbrev c110_38 : RC := .seq (.drawn true [dV 96 (rmv (T 8)),dV 97 (rbin env .gtr 3 false true (T 96) (K 0)),dV 98 (rmv (T 97)),dG 99 98 true (rmv (T 0)),dG 100 98 true (rnil (T 99)),dG 101 98 true (rfaddr 1 (T 100)),dG 102 98 true (rload false 1 (T 101)),dG 103 98 true (rmv (T 0)),dG 104 98 true (rnil (T 103)),dG 105 98 true (rfaddr 2 (T 104)),dG 106 98 true (rload false 1 (T 105)),dG 107 98 true (rbin env .add 3 false true (T 106) (K 1)),dG 108 98 true (riaddr 1 (T 102) (T 107)),dG 109 98 true (rload false 1 (T 108)),dG 110 98 true (rbin env .eql 5 false true (T 109) (.const (.int .u8 0))),dV 111 (rpick (T 98) (T 110) (.const (.bool false)))]) (.cond (rX 111) (.seq (.drawn true [dV 112 (rmv (T 0)),dV 113 (rnil (T 112)),dV 114 (rfaddr 2 (T 113)),dV 115 (rload false 1 (T 114)),dV 9 (rmv (K 2)),dV 10 (rmv (T 115))]) (.goto 0)) .skip)
abbrev c110_51 : RC := .seq .skip (.seq (.ops [oV 145 (rmv (T 0)),oV 146 (rmv (T 9)),oV 147 (rmv (T 10)),oV 148 (rbuild [.v (.int .i64 0), .v (.int .i64 0)] [(0, 1), (1, 1)] [(0, (T 146)), (1, (T 147))]),oV 149 (rnil (T 145)),oV 150 (rfaddr 3 (T 149)),oS (rstore 2 (T 150) (T 148))]) (.seq (.ops [oV 6 (rmv (K 0))]) .ret))
abbrev c110_54 : RC := .seq (.seq (.ops [oV 116 (rmv (T 7)),oV 117 (rbin env .gtr 164 false true (T 116) (.const (.int .u64 4611686018427387903))),oV 118 (rmv (T 117)),oG 119 118 false (rmv (T 7)),oH 120 118 false (rconvI .i64 (T 119)),oG 121 118 false (rmv (T 1)),oG 122 118 false (rbin env .lss 3 false false (T 120) (T 121)),oV 123 (rpick (T 118) (.const (.bool true)) (T 122)),oV 124 (rmv (T 123)),oG 125 124 false (rmv (T 7)),oH 126 124 false (rconvI .i64 (T 125)),oG 127 124 false (rmv (T 2)),oG 128 124 false (rbin env .gtr 3 false false (T 126) (T 127)),oV 129 (rpick (T 124) (.const (.bool true)) (T 128))]) (.cond (rX 129) (.seq (.drawn true [dV 130 (rmv (T 0)),dV 131 (rnil (T 130)),dV 132 (rfaddr 2 (T 131)),dV 133 (rload false 1 (T 132)),dV 9 (rmv (K 5)),dV 10 (rmv (T 133))]) (.goto 0)) .skip)) (.seq (.ops [oV 134 (rmv (T 0)),oV 135 (rnil (T 134)),oV 136 (rfaddr 2 (T 135)),oV 137 (rload false 1 (T 136)),oV 138 (rmv (T 8)),oV 139 (rbin env .add 3 true false (K 1) (T 138)),oV 140 (rbin env .add 3 false false (T 137) (T 139)),oV 141 (rnil (T 134)),oV 142 (rfaddr 2 (T 141)),oS (rstore 1 (T 142) (T 140))]) (.seq (.seq (.ops [oV 143 (rmv (T 7)),oU 144 (rconvI .i64 (T 143)),oV 6 (rmv (T 144))]) .ret) c110_51))
abbrev c110_55 : RC := .seq c110_38 c110_54
abbrev c110_63 : RC := .seq (.seq (.ops [oV 13 (rmv (T 0)),oC 14 (.func 151) [(T 13)],oV 15 (rmv (T 14)),oG 16 15 false (rmv (T 0)),oG 17 15 false (rnil (T 16)),oG 18 15 false (rfaddr 3 (T 17)),oG 19 15 false (rfaddr 0 (T 18)),oG 20 15 false (rload false 1 (T 19)),oG 21 15 false (rbin env .neq 26 false true (T 20) (K 0)),oV 22 (rpick (T 15) (.const (.bool true)) (T 21))]) (.cond (rX 22) (.seq (.ops [oV 6 (rmv (K 0))]) .ret) .skip)) (.seq (.ops [oV 7 (rmv (.const (.int .u64 0)))]) (.seq (.drawn true [dV 23 (rmv (T 0)),dV 24 (rnil (T 23)),dV 25 (rfaddr 1 (T 24)),dV 26 (rload false 1 (T 25)),dV 27 (rlen (T 26)),dV 8 (rmv (K 0)),dV 9 (rmv (K 4)),dV 10 (rmv (T 27))]) (.seq (.seq (.drawn true [dV 28 (rmv (T 0)),dV 29 (rnil (T 28)),dV 30 (rfaddr 2 (T 29)),dV 31 (rload false 1 (T 30)),dV 32 (rmv (T 0)),dV 33 (rnil (T 32)),dV 34 (rfaddr 1 (T 33)),dV 35 (rload false 1 (T 34)),dV 36 (rlen (T 35)),dV 37 (rbin env .geq 3 false false (T 31) (T 36))]) (.cond (rX 37) (.goto 0) .skip)) (.seq (.drawn true [dV 38 (rmv (T 0)),dV 39 (rnil (T 38)),dV 40 (rfaddr 1 (T 39)),dV 41 (rload false 1 (T 40)),dV 42 (rmv (T 0)),dV 43 (rnil (T 42)),dV 44 (rfaddr 2 (T 43)),dV 45 (rload false 1 (T 44)),dV 46 (riaddr 1 (T 41) (T 45)),dV 47 (rload false 1 (T 46)),dU 48 (rconvI .i64 (T 47)),dV 8 (rmv (T 48))]) (.seq (.seq (.ops [oV 49 (rmv (T 8)),oV 50 (rbin env .gtr 3 false true (T 49) (K 8))]) (.cond (rX 50) (.seq (.drawn true [dV 51 (rmv (T 0)),dV 52 (rnil (T 51)),dV 53 (rfaddr 2 (T 52)),dV 54 (rload false 1 (T 53)),dV 9 (rmv (K 2)),dV 10 (rmv (T 54))]) (.goto 0)) .skip)) (.seq (.seq (.drawn true [dV 55 (rmv (T 8)),dV 56 (rmv (T 0)),dV 57 (rnil (T 56)),dV 58 (rfaddr 1 (T 57)),dV 59 (rload false 1 (T 58)),dV 60 (rlen (T 59)),dV 61 (rmv (T 0)),dV 62 (rnil (T 61)),dV 63 (rfaddr 2 (T 62)),dV 64 (rload false 1 (T 63)),dV 65 (rbin env .sub 3 false false (T 60) (T 64)),dV 66 (rbin env .sub 3 false true (T 65) (K 1)),dV 67 (rbin env .gtr 3 false false (T 55) (T 66))]) (.cond (rX 67) (.goto 0) .skip)) (.seq (.seq (.drawn true [dV 68 (rmv (T 0)),dV 69 (rnil (T 68)),dV 70 (rfaddr 1 (T 69)),dV 71 (rload false 1 (T 70)),dV 72 (rmv (T 0)),dV 73 (rnil (T 72)),dV 74 (rfaddr 2 (T 73)),dV 75 (rload false 1 (T 74)),dV 76 (rbin env .add 3 false true (T 75) (K 1)),dV 77 (rmv (T 0)),dV 78 (rnil (T 77)),dV 79 (rfaddr 2 (T 78)),dV 80 (rload false 1 (T 79)),dV 81 (rbin env .add 3 false true (T 80) (K 1)),dV 82 (rmv (T 8)),dV 83 (rbin env .add 3 false false (T 81) (T 82)),dV 84 (rsliceL 1 (T 71) (some (T 76)) (some (T 83)) none),dV 85 (rlen (T 84)),dV 86 (rmv (K 0))]) (.block 0 (.loop c110_30))) c110_55)))))))
abbrev c110_65 : RC := .seq (.ops [oV 6 (rmv (K 0))]) (.scope (subc [1, 0] body110))
theorem fn110 : env.fn 110 = some ⟨151, [.tmp 6], body110⟩ := by kernel_rfl
theorem comp110 : comp env body110 = c110_65 := by kernel_rfl
theorem piece110_1 : comp env (subc [1, 0] body110) = c110_63 := by kernel_rfl
def body111 : Code := match Tryz.f111.body with | some c => c | none => .skip
abbrev c111_3 : RC := .seq (.ops [oV 4 (rmv (.const (.string ⟨#[]⟩)))]) (.seq (.ops [oV 5 (rmv (T 0)),oV 6 (rmv (T 1)),oC 7 (.func 112) [(T 5), (T 6)],oU 8 (rconvB (T 7)),oV 4 (rmv (T 8))]) .ret)
theorem fn111 : env.fn 111 = some ⟨9, [.tmp 4], body111⟩ := by kernel_rfl
theorem comp111 : comp env body111 = c111_3 := by kernel_rfl
def body112 : Code := match Tryz.f112.body with | some c => c | none => .skip
abbrev c112_36 : RC := .seq (.ops [oV 4 (rmv (.const (.slice none 0 0)))]) (.seq (.seq (.ops [oV 7 (rmv (T 0)),oC 8 (.func 151) [(T 7)],oV 9 (rmv (T 8)),oG 10 9 false (rmv (T 0)),oG 11 9 false (rnil (T 10)),oG 12 9 false (rfaddr 3 (T 11)),oG 13 9 false (rfaddr 0 (T 12)),oG 14 9 false (rload false 1 (T 13)),oG 15 9 false (rbin env .neq 26 false true (T 14) (K 0)),oV 16 (rpick (T 9) (.const (.bool true)) (T 15))]) (.cond (rX 16) (.seq (.ops [oV 4 (rmv (.const (.slice none 0 0)))]) .ret) .skip)) (.seq (.ops [oV 17 (rmv (T 0)),oV 18 (rnil (T 17)),oV 19 (rfaddr 2 (T 18)),oV 20 (rload false 1 (T 19)),oV 5 (rmv (T 20))]) (.seq (.ops [oV 21 (rmv (T 0)),oC 22 (.func 110) [(T 21), (K 0), (K 4611686018427387903)],oV 6 (rmv (T 22))]) (.seq (.block 0 (.seq (.ops [oV 24 (rmv (T 0)),oV 25 (rnil (T 24)),oV 26 (rfaddr 3 (T 25)),oV 27 (rfaddr 0 (T 26)),oV 28 (rload false 1 (T 27)),oV 29 (rbin env .neq 26 false true (T 28) (K 0)),oV 23 (rmv (T 29))]) (.cond (rX 23) .skip (.seq (.ops [oV 31 (rmv (T 6)),oV 32 (rmv (T 1)),oV 33 (rbin env .gtr 3 false false (T 31) (T 32)),oV 30 (rmv (T 33))]) (.cond (rX 30) (.ops [oV 34 (rmv (T 0)),oV 35 (rmv (T 5)),oV 36 (rbuild [.v (.int .i64 0), .v (.int .i64 0)] [(0, 1), (1, 1)] [(0, (K 3)), (1, (T 35))]),oV 37 (rnil (T 34)),oV 38 (rfaddr 3 (T 37)),oS (rstore 2 (T 38) (T 36))]) (.seq (.drawn true [dV 40 (rmv (T 6)),dV 41 (rmv (T 0)),dV 42 (rnil (T 41)),dV 43 (rfaddr 1 (T 42)),dV 44 (rload false 1 (T 43)),dV 45 (rlen (T 44)),dV 46 (rmv (T 0)),dV 47 (rnil (T 46)),dV 48 (rfaddr 2 (T 47)),dV 49 (rload false 1 (T 48)),dV 50 (rbin env .sub 3 false false (T 45) (T 49)),dV 51 (rbin env .gtr 3 false false (T 40) (T 50)),dV 39 (rmv (T 51))]) (.cond (rX 39) (.ops [oV 52 (rmv (T 0)),oV 53 (rmv (T 0)),oV 54 (rnil (T 53)),oV 55 (rfaddr 1 (T 54)),oV 56 (rload false 1 (T 55)),oV 57 (rlen (T 56)),oV 58 (rbuild [.v (.int .i64 0), .v (.int .i64 0)] [(0, 1), (1, 1)] [(0, (K 4)), (1, (T 57))]),oV 59 (rnil (T 52)),oV 60 (rfaddr 3 (T 59)),oS (rstore 2 (T 60) (T 58))]) .skip))))))) (.seq (.seq (.ops [oV 61 (rmv (T 0)),oV 62 (rnil (T 61)),oV 63 (rfaddr 3 (T 62)),oV 64 (rfaddr 0 (T 63)),oV 65 (rload false 1 (T 64)),oV 66 (rbin env .neq 26 false true (T 65) (K 0))]) (.cond (rX 66) (.seq (.ops [oV 67 (rmv (T 0)),oV 68 (rmv (T 5)),oV 69 (rnil (T 67)),oV 70 (rfaddr 2 (T 69)),oS (rstore 1 (T 70) (T 68))]) (.seq (.ops [oV 4 (rmv (.const (.slice none 0 0)))]) .ret)) .skip)) (.seq (.ops [oV 71 (rmv (T 0)),oV 72 (rnil (T 71)),oV 73 (rfaddr 2 (T 72)),oV 74 (rload false 1 (T 73)),oV 75 (rmv (T 6)),oV 76 (rbin env .add 3 false false (T 74) (T 75)),oV 77 (rnil (T 71)),oV 78 (rfaddr 2 (T 77)),oS (rstore 1 (T 78) (T 76))]) (.seq (.drawn true [dV 79 (rmv (T 0)),dV 80 (rnil (T 79)),dV 81 (rfaddr 1 (T 80)),dV 82 (rload false 1 (T 81)),dV 83 (rmv (T 0)),dV 84 (rnil (T 83)),dV 85 (rfaddr 2 (T 84)),dV 86 (rload false 1 (T 85)),dV 87 (rmv (T 6)),dV 88 (rbin env .sub 3 false false (T 86) (T 87)),dV 89 (rmv (T 0)),dV 90 (rnil (T 89)),dV 91 (rfaddr 2 (T 90)),dV 92 (rload false 1 (T 91)),dV 93 (rsliceL 1 (T 82) (some (T 88)) (some (T 92)) none),dC true 94 (.func 141) [(T 93)],dV 4 (rmv (T 94))]) .ret)))))))
theorem fn112 : env.fn 112 = some ⟨95, [.tmp 4], body112⟩ := by kernel_rfl
theorem comp112 : comp env body112 = c112_36 := by kernel_rfl
def body113 : Code := match Tryz.f113.body with | some c => c | none => .skip
abbrev c113_11 : RC := .seq (.ops [oU 2 (rnew [.v (.int .i64 0), .v (.int .i64 0)])]) (.seq (.ops [oV 4 (rmv (T 0)),oC 5 (.func 152) [(T 4)],oU 3 (rnew [.v (.int .i64 0), .v (.int .i64 0)]),oS (rstore 2 (T 3) (T 5))]) (.seq (.seq (.drawn true [dV 6 (rfaddr 0 (T 3)),dV 7 (rload false 1 (T 6)),dV 8 (rbin env .eql 26 false true (T 7) (K 0)),dV 9 (rmv (T 8)),dG 10 9 true (rmv (T 0)),dG 11 9 true (rnil (T 10)),dG 12 9 true (rfaddr 2 (T 11)),dG 13 9 true (rload false 1 (T 12)),dG 14 9 true (rmv (T 0)),dG 15 9 true (rnil (T 14)),dG 16 9 true (rfaddr 1 (T 15)),dG 17 9 true (rload false 1 (T 16)),dG 18 9 true (rlen (T 17)),dG 19 9 true (rbin env .lss 3 false false (T 13) (T 18)),dV 20 (rpick (T 9) (T 19) (.const (.bool false)))]) (.cond (rX 20) (.seq (.ops [oV 21 (rmv (T 0)),oV 22 (rnil (T 21)),oV 23 (rfaddr 2 (T 22)),oV 24 (rload false 1 (T 23)),oV 25 (rbuild [.v (.int .i64 0), .v (.int .i64 0)] [(0, 1), (1, 1)] [(0, (K 4)), (1, (T 24))]),oS (rstore 2 (T 2) (T 25))]) .ret) .skip)) (.seq (.ops [oV 26 (rload true 2 (T 3)),oS (rstore 2 (T 2) (T 26))]) .ret)))
theorem fn113 : env.fn 113 = some ⟨27, [.cell 2 70], body113⟩ := by kernel_rfl
theorem comp113 : comp env body113 = c113_11 := by kernel_rfl
def body114 : Code := match Tryz.f114.body with | some c => c | none => .skip
abbrev c114_26 : RC := .seq (.ops [oU 2 (rnew [.v (.int .i64 0), .v (.int .i64 0), .lst .full 0 0 []]),oU 3 (rnew [.v (.int .i64 0), .v (.int .i64 0)])]) (.seq (.ops [oV 7 (rmv (T 0)),oC 8 (.func 109) [(T 7)],oV 4 (rmv (T 8))]) (.seq (.ops [oU 5 (rnew [.v (.int .i64 0), .v (.int .i64 0), .lst .full 0 0 []])]) (.seq (.ops [oV 9 (rmv (T 4)),oC 10 (.func 110) [(T 9), (K 1), (K 3)],oV 11 (rfaddr 0 (T 5)),oS (rstore 1 (T 11) (T 10))]) (.seq (.ops [oV 12 (rmv (T 4)),oC 13 (.func 110) [(T 12), (K 0), (K 511)],oV 14 (rfaddr 1 (T 5)),oS (rstore 1 (T 14) (T 13))]) (.seq (.ops [oV 15 (rmv (T 4)),oC 16 (.func 112) [(T 15), (K 1000)],oV 17 (rfaddr 2 (T 5)),oS (rstore 1 (T 17) (T 16))]) (.seq (.ops [oV 18 (rmv (T 4)),oC 19 (.func 113) [(T 18)],oU 6 (rnew [.v (.int .i64 0), .v (.int .i64 0)]),oS (rstore 2 (T 6) (T 19))]) (.seq (.seq (.ops [oV 20 (rfaddr 0 (T 6)),oV 21 (rload false 1 (T 20)),oV 22 (rbin env .eql 26 false true (T 21) (K 0))]) (.cond (rX 22) (.ops [oV 23 (rload true 3 (T 5)),oC 24 (.func 136) [(T 23)],oV 25 (rfaddr 0 (T 6)),oS (rstore 1 (T 25) (T 24))]) .skip)) (.seq (.seq (.ops [oV 26 (rfaddr 0 (T 6)),oV 27 (rload false 1 (T 26)),oV 28 (rbin env .neq 26 false true (T 27) (K 0))]) (.cond (rX 28) (.seq (.drawn true [dV 29 (rbuild [.v (.int .i64 0), .v (.int .i64 0), .lst .full 0 0 []] [(0, 1), (1, 1), (2, 1)] []),dV 30 (rload true 2 (T 6)),.sto (rI none none (rstore 3 (T 2) (T 29))) (fun s => pev s.tm (T 2)) (fun s => [(T 6)].map (pev s.tm)),dS (rstore 2 (T 3) (T 30))]) .ret) .skip)) (.seq (.drawn true [dV 31 (rload true 3 (T 5)),dV 32 (rload true 2 (T 6)),.sto (rI none none (rstore 3 (T 2) (T 31))) (fun s => pev s.tm (T 2)) (fun s => [(T 6)].map (pev s.tm)),dS (rstore 2 (T 3) (T 32))]) .ret)))))))))
theorem fn114 : env.fn 114 = some ⟨33, [.cell 2 36, .cell 3 70], body114⟩ := by kernel_rfl
theorem comp114 : comp env body114 = c114_26 := by kernel_rfl
def body115 : Code := match Tryz.f115.body with | some c => c | none => .skip
abbrev c115_16 : RC := .ops [oV 7 (rmv (T 33))]
abbrev c115_18 : RC := .block 1 (.drawn true [dV 34 (rload false 1 (T 6)),dV 35 (rmv (T 7)),dV 36 (riaddr 1 (T 35) (K 0)),dV 37 (rload false 1 (T 36)),dU 38 (rconvI .i64 (T 37)),dV 39 (rmv (T 7)),dV 40 (rsliceL 1 (T 39) (some (K 1)) (some (K 5)) none),dV 42 (rmv (T 7)),dV 43 (rsliceL 1 (T 42) (some (K 5)) none none),dC false 41 (.func 153) [(T 40)],dC false 44 (.func 153) [(T 43)],dV 45 (rbuild [.v (.int .i64 0), .v (.int .i64 0), .v (.int .i64 0)] [(0, 1), (1, 1), (2, 1)] [(0, (T 38)), (1, (T 41)), (2, (T 44))]),dU 46 (rbuildL 3 1 [.v (.int .i64 0), .v (.int .i64 0), .v (.int .i64 0)] [(0, (T 45))]),dA 47 3 24 3 (T 34) (T 46),dS (rstore 1 (T 6) (T 47))])
abbrev c115_37 : RC := .seq (.ops [oV 2 (rmv (.const (.slice none 0 0))),oU 3 (rnew [.v (.int .i64 0), .v (.int .i64 0)])]) (.seq (.seq (.ops [oV 9 (rmv (T 0)),oV 10 (rlen (T 9)),oV 11 (rbin env .lss 3 false true (T 10) (K 2))]) (.cond (rX 11) (.seq (.ops [oV 12 (rmv (T 0)),oV 13 (rlen (T 12)),oV 14 (rbuild [.v (.int .i64 0), .v (.int .i64 0)] [(0, 1), (1, 1)] [(0, (K 4)), (1, (T 13))]),oV 2 (rmv (.const (.slice none 0 0))),oS (rstore 2 (T 3) (T 14))]) .ret) .skip)) (.seq (.ops [oV 15 (rmv (T 0)),oV 16 (rsliceL 1 (T 15) none (some (K 2)) none),oC 17 (.func 153) [(T 16)],oV 4 (rmv (T 17))]) (.seq (.seq (.ops [oV 18 (rmv (T 4)),oV 19 (rbin env .mul 3 true false (K 9) (T 18)),oV 20 (rbin env .add 3 true false (K 2) (T 19)),oV 5 (rmv (T 20))]) (.seq (.ops [oV 21 (rmv (T 0)),oV 22 (rlen (T 21)),oV 23 (rmv (T 5)),oV 24 (rbin env .neq 3 false false (T 22) (T 23))]) (.cond (rX 24) (.seq (.ops [oV 25 (rmv (T 0)),oV 26 (rlen (T 25)),oV 27 (rmv (T 5)),oV 28 (rmm minV [(T 26), (T 27)]),oV 29 (rbuild [.v (.int .i64 0), .v (.int .i64 0)] [(0, 1), (1, 1)] [(0, (K 4)), (1, (T 28))]),oV 2 (rmv (.const (.slice none 0 0))),oS (rstore 2 (T 3) (T 29))]) .ret) .skip))) (.seq (.ops [oU 6 (rnew [.lst .full 0 0 []])]) (.seq (.seq (.ops [oV 30 (rmv (T 0)),oV 31 (rsliceL 1 (T 30) (some (K 2)) none none),oC 32 (.func 154) [(T 31), (K 9)]]) (.block 0 (.range (fun s => pev s.tm (T 32)) [33] (subc [1, 1, 1, 1, 1, 0, 1, 0, 0] body115) (subc [1, 1, 1, 1, 1, 0, 1, 0, 1] body115)))) (.seq (.seq (.ops [oV 48 (rload false 1 (T 6)),oC 49 (.func 131) [(T 48)],oV 8 (rmv (T 49))]) (.seq (.ops [oV 50 (rmv (T 8)),oV 51 (rbin env .neq 26 false true (T 50) (K 0))]) (.cond (rX 51) (.seq (.ops [oV 52 (rmv (T 8)),oV 53 (rbuild [.v (.int .i64 0), .v (.int .i64 0)] [(0, 1), (1, 1)] [(0, (T 52))]),oV 2 (rmv (.const (.slice none 0 0))),oS (rstore 2 (T 3) (T 53))]) .ret) .skip))) (.seq (.ops [oV 54 (rload false 1 (T 6)),oV 55 (rbuild [.v (.int .i64 0), .v (.int .i64 0)] [(0, 1), (1, 1)] []),oV 2 (rmv (T 54)),oS (rstore 2 (T 3) (T 55))]) .ret)))))))
theorem fn115 : env.fn 115 = some ⟨56, [.tmp 2, .cell 3 70], body115⟩ := by kernel_rfl
theorem comp115 : comp env body115 = c115_37 := by kernel_rfl
theorem piece115_1 : comp env (subc [1, 1, 1, 1, 1, 0, 1, 0, 0] body115) = c115_16 := by kernel_rfl
theorem piece115_2 : comp env (subc [1, 1, 1, 1, 1, 0, 1, 0, 1] body115) = c115_18 := by kernel_rfl
def body131 : Code := match Tryz.f131.body with | some c => c | none => .skip
abbrev c131_26 : RC := .seq (.ops [oV 11 (rbin env .lss 3 false false (T 10) (T 9))]) (.seq (.cond (rX 11) .skip (.exit 0)) (.seq (.block 1 (.seq (.ops [oV 12 (rmv (T 10)),oV 13 (riaddr 3 (T 8) (T 10)),oV 14 (rload true 3 (T 13)),oU 4 (rnew [.v (.int .i64 0), .v (.int .i64 0), .v (.int .i64 0)]),oV 3 (rmv (T 12)),oS (rstore 3 (T 4) (T 14))]) (.block 2 (.seq (.ops [oV 16 (rfaddr 0 (T 4)),oV 17 (rload false 1 (T 16)),oV 18 (rbin env .lss 3 false true (T 17) (K 1)),oV 19 (rmv (T 18)),oG 20 19 false (rfaddr 0 (T 4)),oG 21 19 false (rload false 1 (T 20)),oG 22 19 false (rbin env .gtr 3 false true (T 21) (K 200)),oV 23 (rpick (T 19) (.const (.bool true)) (T 22)),oV 24 (rmv (T 23)),oG 25 24 false (rfaddr 1 (T 4)),oG 26 24 false (rload false 1 (T 25)),oG 27 24 false (rbin env .lss 3 false true (T 26) (K 1)),oV 28 (rpick (T 24) (.const (.bool true)) (T 27)),oV 29 (rmv (T 28)),oG 30 29 false (rfaddr 1 (T 4)),oG 31 29 false (rload false 1 (T 30)),oG 32 29 false (rfaddr 2 (T 4)),oG 33 29 false (rload false 1 (T 32)),oG 34 29 false (rbin env .gtr 3 false false (T 31) (T 33)),oV 35 (rpick (T 29) (.const (.bool true)) (T 34)),oV 36 (rmv (T 35)),oG 37 36 false (rfaddr 2 (T 4)),oG 38 36 false (rload false 1 (T 37)),oG 39 36 false (rbin env .gtr 3 false true (T 38) (K 2147483647)),oV 40 (rpick (T 36) (.const (.bool true)) (T 39)),oV 15 (rmv (T 40))]) (.cond (rX 15) (.seq (.ops [oV 2 (rmv (K 2))]) .ret) (.seq (.drawn true [dV 42 (rmv (T 3)),dV 43 (rbin env .gtr 3 false true (T 42) (K 0)),dV 44 (rmv (T 43)),dG 45 44 true (rfaddr 0 (T 4)),dG 46 44 true (rload false 1 (T 45)),dG 47 44 true (rmv (T 0)),dG 48 44 true (rmv (T 3)),dG 49 44 true (rbin env .sub 3 false true (T 48) (K 1)),dG 50 44 true (riaddr 3 (T 47) (T 49)),dG 51 44 true (rfaddr 0 (T 50)),dG 52 44 true (rload false 1 (T 51)),dG 53 44 true (rbin env .lss 3 false false (T 46) (T 52)),dG 54 44 true (rmv (T 53)),dG 55 54 false (rfaddr 0 (T 4)),dG 56 54 false (rload false 1 (T 55)),dG 57 54 false (rmv (T 0)),dG 58 54 false (rmv (T 3)),dG 59 54 false (rbin env .sub 3 false true (T 58) (K 1)),dG 60 54 false (riaddr 3 (T 57) (T 59)),dG 61 54 false (rfaddr 0 (T 60)),dG 62 54 false (rload false 1 (T 61)),dG 63 54 false (rbin env .eql 3 false false (T 56) (T 62)),dG 64 54 false (rmv (T 63)),dG 65 64 true (rfaddr 1 (T 4)),dG 66 64 true (rload false 1 (T 65)),dG 67 64 true (rmv (T 0)),dG 68 64 true (rmv (T 3)),dG 69 64 true (rbin env .sub 3 false true (T 68) (K 1)),dG 70 64 true (riaddr 3 (T 67) (T 69)),dG 71 64 true (rfaddr 2 (T 70)),dG 72 64 true (rload false 1 (T 71)),dG 73 64 true (rbin env .add 3 false true (T 72) (K 1)),dG 74 64 true (rbin env .leq 3 false false (T 66) (T 73)),dG 75 54 false (rpick (T 64) (T 74) (.const (.bool false))),dG 76 44 true (rpick (T 54) (.const (.bool true)) (T 75)),dV 77 (rpick (T 44) (T 76) (.const (.bool false))),dV 41 (rmv (T 77))]) (.cond (rX 41) (.seq (.ops [oV 2 (rmv (K 2))]) .ret) .skip))))))) (.ops [oV 78 (rbin env .add 3 false true (T 10) (K 1)),oV 10 (rmv (T 78))])))
abbrev c131_34 : RC := .seq (.ops [oV 2 (rmv (K 0))]) (.seq (.seq (.ops [oV 5 (rmv (T 0)),oV 6 (rlen (T 5)),oV 7 (rbin env .gtr 3 false true (T 6) (K 4000))]) (.cond (rX 7) (.seq (.ops [oV 2 (rmv (K 2))]) .ret) .skip)) (.seq (.seq (.ops [oV 8 (rmv (T 0)),oV 9 (rlen (T 8)),oV 10 (rmv (K 0))]) (.block 0 (.loop c131_26))) (.seq (.ops [oV 2 (rmv (K 0))]) .ret)))
theorem fn131 : env.fn 131 = some ⟨79, [.tmp 2], body131⟩ := by kernel_rfl
theorem comp131 : comp env body131 = c131_34 := by kernel_rfl
def body132 : Code := match Tryz.f132.body with | some c => c | none => .skip
abbrev c132_9 : RC := .seq (.ops [oU 1 (rbox (T 0)),oV 2 (rmv (K 0))]) (.seq (.seq (.ops [oV 3 (rfaddr 0 (T 1)),oV 4 (rload false 1 (T 3)),oV 5 (rbin env .lss 3 false true (T 4) (K 1)),oV 6 (rmv (T 5)),oG 7 6 false (rfaddr 0 (T 1)),oG 8 6 false (rload false 1 (T 7)),oG 9 6 false (rbin env .gtr 3 false true (T 8) (K 200)),oV 10 (rpick (T 6) (.const (.bool true)) (T 9)),oV 11 (rmv (T 10)),oG 12 11 false (rfaddr 1 (T 1)),oG 13 11 false (rload false 1 (T 12)),oG 14 11 false (rbin env .lss 3 false true (T 13) (K 1)),oV 15 (rpick (T 11) (.const (.bool true)) (T 14)),oV 16 (rmv (T 15)),oG 17 16 false (rfaddr 1 (T 1)),oG 18 16 false (rload false 1 (T 17)),oG 19 16 false (rbin env .gtr 3 false true (T 18) (K 2147483647)),oV 20 (rpick (T 16) (.const (.bool true)) (T 19))]) (.cond (rX 20) (.seq (.ops [oV 2 (rmv (K 2))]) .ret) .skip)) (.seq (.ops [oV 2 (rmv (K 0))]) .ret))
theorem fn132 : env.fn 132 = some ⟨21, [.tmp 2], body132⟩ := by kernel_rfl
theorem comp132 : comp env body132 = c132_9 := by kernel_rfl
def body136 : Code := match Tryz.f136.body with | some c => c | none => .skip
abbrev c136_17 : RC := .seq (.ops [oU 1 (rbox (T 0)),oV 2 (rmv (K 0))]) (.seq (.seq (.ops [oV 4 (rfaddr 0 (T 1)),oV 5 (rload false 1 (T 4)),oV 6 (rbin env .lss 3 false true (T 5) (K 1)),oV 7 (rmv (T 6)),oG 8 7 false (rfaddr 0 (T 1)),oG 9 7 false (rload false 1 (T 8)),oG 10 7 false (rbin env .gtr 3 false true (T 9) (K 3)),oV 11 (rpick (T 7) (.const (.bool true)) (T 10))]) (.cond (rX 11) (.seq (.ops [oV 2 (rmv (K 2))]) .ret) .skip)) (.seq (.seq (.drawn true [dV 13 (rfaddr 0 (T 1)),dV 14 (rload false 1 (T 13)),dU 3 (rnew [.v (.int .i64 0), .v (.int .i64 0)]),dC false 12 (.func 161) [],dV 15 (ridxA 4 true 2 (T 12) (T 14)),dS (rstore 2 (T 3) (T 15))]) (.seq (.ops [oV 16 (rfaddr 1 (T 1)),oV 17 (rload false 1 (T 16)),oV 18 (rbin env .lss 3 false true (T 17) (K 0)),oV 19 (rmv (T 18)),oG 20 19 false (rfaddr 1 (T 1)),oG 21 19 false (rload false 1 (T 20)),oG 22 19 false (rfaddr 0 (T 3)),oG 23 19 false (rload false 1 (T 22)),oG 24 19 false (rbin env .gtr 3 false false (T 21) (T 23)),oV 25 (rpick (T 19) (.const (.bool true)) (T 24)),oV 26 (rmv (T 25)),oG 27 26 false (rfaddr 2 (T 1)),oG 28 26 false (rload false 1 (T 27)),oG 29 26 false (rlen (T 28)),oG 30 26 false (rfaddr 1 (T 3)),oG 31 26 false (rload false 1 (T 30)),oG 32 26 false (rbin env .gtr 3 false false (T 29) (T 31)),oV 33 (rpick (T 26) (.const (.bool true)) (T 32))]) (.cond (rX 33) (.seq (.ops [oV 2 (rmv (K 2))]) .ret) .skip))) (.seq (.ops [oV 2 (rmv (K 0))]) .ret)))
theorem fn136 : env.fn 136 = some ⟨34, [.tmp 2], body136⟩ := by kernel_rfl
theorem comp136 : comp env body136 = c136_17 := by kernel_rfl
def body137 : Code := match Tryz.f137.body with | some c => c | none => .skip
abbrev c137_3 : RC := .seq (.ops [oV 2 (rmv (.const (.slice none 0 0)))]) (.seq (.ops [oV 3 (rmv (T 0)),oV 4 (rbin env .shr 3 false true (T 3) (.const (.int .u64 24))),oU 5 (rconvI .u8 (T 4)),oV 6 (rmv (T 0)),oV 7 (rbin env .shr 3 false true (T 6) (.const (.int .u64 16))),oU 8 (rconvI .u8 (T 7)),oV 9 (rmv (T 0)),oV 10 (rbin env .shr 3 false true (T 9) (.const (.int .u64 8))),oU 11 (rconvI .u8 (T 10)),oV 12 (rmv (T 0)),oU 13 (rconvI .u8 (T 12)),oU 14 (rbuildL 1 4 [.v (.int .u8 0), .v (.int .u8 0), .v (.int .u8 0), .v (.int .u8 0)] [(0, (T 5)), (1, (T 8)), (2, (T 11)), (3, (T 13))]),oV 2 (rmv (T 14))]) .ret)
theorem fn137 : env.fn 137 = some ⟨15, [.tmp 2], body137⟩ := by kernel_rfl
theorem comp137 : comp env body137 = c137_3 := by kernel_rfl
def body138 : Code := match Tryz.f138.body with | some c => c | none => .skip
abbrev c138_17 : RC := .seq (.ops [oV 12 (rbin env .lss 3 false false (T 11) (T 10))]) (.seq (.cond (rX 12) .skip (.exit 0)) (.seq (.block 1 (.seq (.ops [oV 13 (riaddr 1 (T 9) (T 11)),oV 14 (rload false 1 (T 13)),oV 5 (rmv (T 14))]) (.seq (.ops [oV 15 (rmv (T 3)),oV 16 (rmv (T 5)),oV 17 (rlen (T 16)),oV 18 (rbin env .add 3 false false (T 15) (T 17)),oV 3 (rmv (T 18))]) (.seq (.ops [oV 19 (rmv (T 3)),oV 20 (rbin env .lss 3 false true (T 19) (K 0))]) (.cond (rX 20) (comp env (subc [1, 1, 0, 1, 0, 0, 1, 1, 0, 0, 1, 1, 1, 0] body138)) .skip))))) (.ops [oV 22 (rbin env .add 3 false true (T 11) (K 1)),oV 11 (rmv (T 22))])))
abbrev c138_32 : RC := .seq (.ops [oV 28 (rbin env .lss 3 false false (T 27) (T 26))]) (.seq (.cond (rX 28) .skip (.exit 2)) (.seq (.block 3 (.seq (.ops [oV 29 (riaddr 1 (T 25) (T 27)),oV 30 (rload false 1 (T 29)),oV 8 (rmv (T 30))]) (.ops [oV 31 (rmv (T 6)),oV 32 (rmv (T 8)),oA 33 1 1 1 (T 31) (T 32),oV 6 (rmv (T 33))]))) (.ops [oV 34 (rbin env .add 3 false true (T 27) (K 1)),oV 27 (rmv (T 34))])))
abbrev c138_37 : RC := .seq (.ops [oV 35 (rmv (T 6)),oV 2 (rmv (T 35))]) .ret
abbrev c138_42 : RC := .seq (.ops [oV 2 (rmv (.const (.slice none 0 0)))]) (.seq (.ops [oV 3 (rmv (K 0))]) (.seq (.seq (.ops [oV 9 (rmv (T 0)),oV 10 (rlen (T 9)),oV 11 (rmv (K 0))]) (.block 0 (.loop c138_17))) (.seq (.ops [oV 23 (rmv (T 3)),oC 24 (.func 162) [(.const (.slice none 0 0)), (T 23)],oV 6 (rmv (T 24))]) (.seq (.seq (.ops [oV 25 (rmv (T 0)),oV 26 (rlen (T 25)),oV 27 (rmv (K 0))]) (.block 2 (.loop c138_32))) c138_37))))
theorem fn138 : env.fn 138 = some ⟨36, [.tmp 2], body138⟩ := by kernel_rfl
theorem comp138 : comp env body138 = c138_42 := by kernel_rfl
def body139 : Code := match Tryz.f139.body with | some c => c | none => .skip
abbrev c139_14 : RC := .seq (.ops [oV 33 (rbin env .lss 3 false false (T 32) (T 31))]) (.seq (.cond (rX 33) .skip (.exit 0)) (.seq (.block 1 (.seq (.ops [oV 34 (riaddr 1 (T 30) (T 32)),oV 35 (rload false 1 (T 34)),oV 6 (rmv (T 35))]) (.ops [oV 36 (rmv (T 4)),oV 37 (rmv (T 6)),oV 38 (rlen (T 37)),oV 39 (rbin env .add 3 false false (T 36) (T 38)),oV 4 (rmv (T 39))]))) (.ops [oV 40 (rbin env .add 3 false true (T 32) (K 1)),oV 32 (rmv (T 40))])))
abbrev c139_33 : RC := .seq (.ops [oV 49 (rbin env .lss 3 false false (T 48) (T 47))]) (.seq (.cond (rX 49) .skip (.exit 2)) (.seq (.block 3 (.seq (.ops [oV 50 (riaddr 1 (T 46) (T 48)),oV 51 (rload false 1 (T 50)),oV 8 (rmv (T 51))]) (.ops [oV 52 (rmv (T 0)),oV 53 (rmv (T 0)),oV 54 (rnil (T 53)),oV 55 (rfaddr 1 (T 54)),oV 56 (rload false 1 (T 55)),oV 57 (rmv (T 8)),oA 58 1 1 1 (T 56) (T 57),oV 59 (rnil (T 52)),oV 60 (rfaddr 1 (T 59)),oS (rstore 1 (T 60) (T 58))]))) (.ops [oV 61 (rbin env .add 3 false true (T 48) (K 1)),oV 48 (rmv (T 61))])))
abbrev c139_40 : RC := .seq (.seq (.ops [oV 9 (rmv (T 0)),oV 10 (rbin env .eql 112 false true (T 9) (.const (.pointer none))),oV 11 (rmv (T 10)),oG 12 11 false (rmv (T 0)),oG 13 11 false (rnil (T 12)),oG 14 11 false (rfaddr 0 (T 13)),oG 15 11 false (rload false 1 (T 14)),oG 16 11 false (run' .not (T 15)),oV 17 (rpick (T 11) (.const (.bool true)) (T 16)),oV 18 (rmv (T 17)),oG 19 18 false (rmv (T 0)),oG 20 18 false (rnil (T 19)),oG 21 18 false (rfaddr 2 (T 20)),oG 22 18 false (rload false 1 (T 21)),oG 23 18 false (rbin env .neq 26 false true (T 22) (K 0)),oV 24 (rpick (T 18) (.const (.bool true)) (T 23))]) (.cond (rX 24) .ret .skip)) (.seq (.ops [oV 25 (rmv (T 0)),oV 26 (rnil (T 25)),oV 27 (rfaddr 1 (T 26)),oV 28 (rload false 1 (T 27)),oV 29 (rlen (T 28)),oV 4 (rmv (T 29))]) (.seq (.seq (.ops [oV 30 (rmv (T 1)),oV 31 (rlen (T 30)),oV 32 (rmv (K 0))]) (.block 0 (.loop c139_14))) (.seq (.seq (.ops [oV 41 (rmv (T 4)),oV 42 (rbin env .gtr 3 false true (T 41) (K 1048576))]) (.cond (rX 42) (.seq (.ops [oV 43 (rmv (T 0)),oV 44 (rnil (T 43)),oV 45 (rfaddr 2 (T 44)),oS (rstore 1 (T 45) (K 3))]) .ret) .skip)) (.seq (.ops [oV 46 (rmv (T 1)),oV 47 (rlen (T 46)),oV 48 (rmv (K 0))]) (.block 2 (.loop c139_33))))))
theorem fn139 : env.fn 139 = some ⟨62, [], body139⟩ := by kernel_rfl
theorem comp139 : comp env body139 = c139_40 := by kernel_rfl
def body140 : Code := match Tryz.f140.body with | some c => c | none => .skip
abbrev c140_11 : RC := .seq (.seq (.ops [oV 15 (rmv (T 5)),oV 16 (rbin env .gtr 3 false true (T 15) (K 0))]) (.cond (rX 16) .skip (.exit 0))) (.seq (.block 1 (.ops [oV 19 (rmv (T 4)),oV 20 (rmv (T 0)),oV 21 (rmv (T 5)),oV 22 (rbin env .sub 3 false true (T 21) (K 1)),oV 23 (rbin env .mul 3 true false (K 8) (T 22)),oV 24 (rbin env .shr 3 false false (T 20) (T 23)),oU 25 (rconvI .u8 (T 24)),oU 26 (rbuildL 1 1 [.v (.int .u8 0)] [(0, (T 25))]),oA 27 1 1 1 (T 19) (T 26),oV 4 (rmv (T 27))])) (.ops [oV 17 (rmv (T 5)),oV 18 (rbin env .sub 3 false true (T 17) (K 1)),oV 5 (rmv (T 18))]))
abbrev c140_20 : RC := .seq (.ops [oV 2 (rmv (.const (.slice none 0 0)))]) (.seq (.ops [oV 6 (rmv (T 0)),oU 7 (rconvI .u64 (T 6)),oC 8 (.func 163) [(T 7)],oV 9 (rbin env .add 3 false true (T 8) (K 7)),oV 10 (rbin env .quo 3 false true (T 9) (K 8)),oV 3 (rmv (T 10))]) (.seq (.ops [oV 11 (rmv (T 3)),oU 12 (rconvI .u8 (T 11)),oU 13 (rbuildL 1 1 [.v (.int .u8 0)] [(0, (T 12))]),oV 4 (rmv (T 13))]) (.seq (.seq (.ops [oV 14 (rmv (T 3)),oV 5 (rmv (T 14))]) (.block 0 (.loop c140_11))) (.seq (.ops [oV 28 (rmv (T 4)),oV 2 (rmv (T 28))]) .ret))))
theorem fn140 : env.fn 140 = some ⟨29, [.tmp 2], body140⟩ := by kernel_rfl
theorem comp140 : comp env body140 = c140_20 := by kernel_rfl
def body141 : Code := match Tryz.f141.body with | some c => c | none => .skip
abbrev c141_9 : RC := .seq (.ops [oV 2 (rmv (.const (.slice none 0 0)))]) (.seq (.seq (.ops [oV 3 (rmv (T 0)),oL 4 false (T 3)]) (.cond (rX 4) (.seq (.ops [oV 2 (rmv (.const (.slice none 0 0)))]) .ret) .skip)) (.seq (.ops [oU 5 (rbuildL 1 0 [] []),oV 6 (rmv (T 0)),oA 7 1 1 1 (T 5) (T 6),oV 2 (rmv (T 7))]) .ret))
theorem fn141 : env.fn 141 = some ⟨8, [.tmp 2], body141⟩ := by kernel_rfl
theorem comp141 : comp env body141 = c141_9 := by kernel_rfl
def body144 : Code := match Tryz.f144.body with | some c => c | none => .skip
abbrev c144_3 : RC := .ops [oV 5 (rmv (T 8))]
abbrev c144_15 : RC := .block 1 (.seq (.ops [oV 9 (rload false 1 (T 3)),oV 10 (rbin env .add 3 false true (T 9) (K 1)),oS (rstore 1 (T 3) (T 10))]) (.block 2 (.seq (.seq (.ops [oV 12 (rload false 1 (T 3)),oV 13 (rbin env .gtr 3 false true (T 12) (K 6)),oV 11 (rmv (T 13))]) (.cond (rX 11) .skip (.ops [oV 14 (rmv (T 5)),oC 15 (.func 165) [(T 14)],oV 16 (run' .not (T 15)),oV 11 (rmv (T 16))]))) (.cond (rX 11) (.seq (.ops [oS (rstore 1 (T 4) (K 2))]) (.exit 0)) .skip))))
abbrev c144_23 : RC := .seq (.ops [oU 3 (rnew [.v (.int .i64 0)]),oU 4 (rnew [.v (.int .i64 0)]),oS (rstore 1 (T 3) (K 0)),oS (rstore 1 (T 4) (K 0))]) (.seq .skip (.seq (.seq (.ops [oV 6 (rmv (T 0)),oC 7 (.func 164) [(T 6), (.const (.string ⟨#[47]⟩))]]) (.block 0 (.range (fun s => pev s.tm (T 7)) [8] (subc [1, 0, 1, 1, 0, 1, 0, 0] body144) (subc [1, 0, 1, 1, 0, 1, 0, 1] body144)))) (.seq (.ops [oV 17 (rload false 1 (T 4)),oV 2 (rmv (T 17))]) .ret)))
abbrev c144_25 : RC := .seq (.ops [oV 2 (rmv (K 0))]) (.scope (subc [1, 0] body144))
theorem fn144 : env.fn 144 = some ⟨18, [.tmp 2], body144⟩ := by kernel_rfl
theorem comp144 : comp env body144 = c144_25 := by kernel_rfl
theorem piece144_1 : comp env (subc [1, 0, 1, 1, 0, 1, 0, 0] body144) = c144_3 := by kernel_rfl
theorem piece144_2 : comp env (subc [1, 0, 1, 1, 0, 1, 0, 1] body144) = c144_15 := by kernel_rfl
theorem piece144_3 : comp env (subc [1, 0] body144) = c144_23 := by kernel_rfl
def body145 : Code := match Tryz.f145.body with | some c => c | none => .skip
abbrev c145_3 : RC := .seq (.ops [oU 3 (rbox (T 1)),oV 4 (rmv (K 0))]) (.seq (.ops [oV 5 (rmv (T 0)),oV 6 (rfn 167 [] [(T 3)]),oC 7 (.func 166) [(T 5), (T 6)],oV 4 (rmv (T 7))]) .ret)
theorem fn145 : env.fn 145 = some ⟨8, [.tmp 4], body145⟩ := by kernel_rfl
theorem comp145 : comp env body145 = c145_3 := by kernel_rfl
def body151 : Code := match Tryz.f151.body with | some c => c | none => .skip
abbrev c151_3 : RC := .seq (.ops [oV 2 (rmv (.const (.bool false)))]) (.seq (.ops [oV 3 (rmv (T 0)),oV 4 (rbin env .eql 130 false true (T 3) (.const (.pointer none))),oV 5 (rmv (T 4)),oG 6 5 false (rmv (T 0)),oG 7 5 false (rnil (T 6)),oG 8 5 false (rfaddr 0 (T 7)),oG 9 5 false (rload false 1 (T 8)),oG 10 5 false (run' .not (T 9)),oV 11 (rpick (T 5) (.const (.bool true)) (T 10)),oV 2 (rmv (T 11))]) .ret)
theorem fn151 : env.fn 151 = some ⟨12, [.tmp 2], body151⟩ := by kernel_rfl
theorem comp151 : comp env body151 = c151_3 := by kernel_rfl
def body152 : Code := match Tryz.f152.body with | some c => c | none => .skip
abbrev c152_9 : RC := .seq (.ops [oU 2 (rnew [.v (.int .i64 0), .v (.int .i64 0)])]) (.seq (.seq (.ops [oV 3 (rmv (T 0)),oC 4 (.func 151) [(T 3)]]) (.cond (rX 4) (.seq (.ops [oV 5 (rbuild [.v (.int .i64 0), .v (.int .i64 0)] [(0, 1), (1, 1)] [(0, (K 1))]),oS (rstore 2 (T 2) (T 5))]) .ret) .skip)) (.seq (.ops [oV 6 (rmv (T 0)),oV 7 (rnil (T 6)),oV 8 (rfaddr 3 (T 7)),oV 9 (rload true 2 (T 8)),oS (rstore 2 (T 2) (T 9))]) .ret))
theorem fn152 : env.fn 152 = some ⟨10, [.cell 2 70], body152⟩ := by kernel_rfl
theorem comp152 : comp env body152 = c152_9 := by kernel_rfl
def body153 : Code := match Tryz.f153.body with | some c => c | none => .skip
abbrev c153_12 : RC := .seq (.ops [oV 9 (rbin env .lss 3 false false (T 8) (T 7))]) (.seq (.cond (rX 9) .skip (.exit 0)) (.seq (.block 1 (.seq (.ops [oV 10 (riaddr 1 (T 6) (T 8)),oV 11 (rload false 1 (T 10)),oV 5 (rmv (T 11))]) (.ops [oV 12 (rmv (T 3)),oV 13 (rbin env .shl 3 false true (T 12) (.const (.int .u64 8))),oV 14 (rmv (T 5)),oU 15 (rconvI .i64 (T 14)),oV 16 (rbin env .or 3 false false (T 13) (T 15)),oV 3 (rmv (T 16))]))) (.ops [oV 17 (rbin env .add 3 false true (T 8) (K 1)),oV 8 (rmv (T 17))])))
abbrev c153_20 : RC := .seq (.ops [oV 2 (rmv (K 0))]) (.seq (.ops [oV 3 (rmv (K 0))]) (.seq (.seq (.ops [oV 6 (rmv (T 0)),oV 7 (rlen (T 6)),oV 8 (rmv (K 0))]) (.block 0 (.loop c153_12))) (.seq (.ops [oV 18 (rmv (T 3)),oV 2 (rmv (T 18))]) .ret)))
theorem fn153 : env.fn 153 = some ⟨19, [.tmp 2], body153⟩ := by kernel_rfl
theorem comp153 : comp env body153 = c153_20 := by kernel_rfl
def body154 : Code := match Tryz.f154.body with | some c => c | none => .skip
abbrev c154_8 : RC := .seq (.ops [oU 2 (rbox (T 0)),oU 3 (rbox (T 1)),oV 4 (rmv (.const (.nilFunc)))]) (.seq (.seq (.ops [oV 5 (rload false 1 (T 3)),oV 6 (rbin env .lss 3 false true (T 5) (K 1))]) (.cond (rX 6) (comp env (subc [1, 0, 1, 0] body154)) .skip)) (.seq (.ops [oV 8 (rfn 172 [] [(T 2), (T 3)]),oV 4 (rmv (T 8))]) .ret))
theorem fn154 : env.fn 154 = some ⟨9, [.tmp 4], body154⟩ := by kernel_rfl
theorem comp154 : comp env body154 = c154_8 := by kernel_rfl
def body161 : Code := match Tryz.f161.body with | some c => c | none => .skip
abbrev c161_3 : RC := .seq (.ops [oU 0 (rnew [.v (.int .i64 0), .v (.int .i64 0), .v (.int .i64 0), .v (.int .i64 0), .v (.int .i64 0), .v (.int .i64 0), .v (.int .i64 0), .v (.int .i64 0)])]) (.seq (.ops [oV 1 (rbuild [.v (.int .i64 0), .v (.int .i64 0)] [(0, 1), (1, 1)] [(0, (K 511)), (1, (K 1000))]),oV 2 (rbuild [.v (.int .i64 0), .v (.int .i64 0)] [(0, 1), (1, 1)] [(0, (K 511))]),oV 3 (rbuild [.v (.int .i64 0), .v (.int .i64 0)] [(0, 1), (1, 1)] []),oV 4 (rbuildA 2 [.v (.int .i64 0), .v (.int .i64 0), .v (.int .i64 0), .v (.int .i64 0), .v (.int .i64 0), .v (.int .i64 0), .v (.int .i64 0), .v (.int .i64 0)] [(1, (T 1)), (2, (T 2)), (3, (T 3))]),oS (rstore 8 (T 0) (T 4))]) .ret)
theorem fn161 : env.fn 161 = some ⟨5, [.cell 0 178], body161⟩ := by kernel_rfl
theorem comp161 : comp env body161 = c161_3 := by kernel_rfl
def body162 : Code := match Tryz.f162.body with | some c => c | none => .skip
abbrev c162_15 : RC := .seq (.ops [oV 4 (rmv (.const (.slice none 0 0)))]) (.seq (.seq (.ops [oV 5 (rmv (T 1)),oV 6 (rbin env .lss 3 false true (T 5) (K 0))]) (.cond (rX 6) (comp env (subc [1, 0, 1, 0] body162)) .skip)) (.seq (.seq (.ops [oV 8 (rmv (T 1)),oV 9 (rmv (T 0)),oV 10 (rcap (T 9)),oV 11 (rmv (T 0)),oV 12 (rlen (T 11)),oV 13 (rbin env .sub 3 false false (T 10) (T 12)),oV 14 (rbin env .sub 3 false false (T 8) (T 13)),oV 1 (rmv (T 14))]) (.seq (.ops [oV 15 (rmv (T 1)),oV 16 (rbin env .gtr 3 false true (T 15) (K 0))]) (.cond (rX 16) (.ops [oV 17 (rmv (T 0)),oV 18 (rmv (T 0)),oV 19 (rcap (T 18)),oV 20 (rsliceL 1 (T 17) none (some (T 19)) none),oV 21 (rmv (T 1)),oZ 22 1 1 [.v (.int .u8 0)] (T 20) (T 21),oV 23 (rmv (T 0)),oV 24 (rlen (T 23)),oV 25 (rsliceL 1 (T 22) none (some (T 24)) none),oV 0 (rmv (T 25))]) .skip))) (.seq (.ops [oV 26 (rmv (T 0)),oV 4 (rmv (T 26))]) .ret)))
theorem fn162 : env.fn 162 = some ⟨27, [.tmp 4], body162⟩ := by kernel_rfl
theorem comp162 : comp env body162 = c162_15 := by kernel_rfl
def body163 : Code := match Tryz.f163.body with | some c => c | none => .skip
abbrev c163_24 : RC := .seq (.ops [oV 2 (rmv (K 0))]) (.seq (.seq (.ops [oV 3 (rmv (T 0)),oV 4 (rbin env .geq 164 false true (T 3) (.const (.int .u64 4294967296)))]) (.cond (rX 4) (.seq (.ops [oV 5 (rmv (T 0)),oV 6 (rbin env .shr 164 false true (T 5) (.const (.int .u64 32))),oV 0 (rmv (T 6))]) (.ops [oV 2 (rmv (K 32))])) .skip)) (.seq (.seq (.ops [oV 7 (rmv (T 0)),oV 8 (rbin env .geq 164 false true (T 7) (.const (.int .u64 65536)))]) (.cond (rX 8) (.seq (.ops [oV 9 (rmv (T 0)),oV 10 (rbin env .shr 164 false true (T 9) (.const (.int .u64 16))),oV 0 (rmv (T 10))]) (.ops [oV 11 (rmv (T 2)),oV 12 (rbin env .add 3 false true (T 11) (K 16)),oV 2 (rmv (T 12))])) .skip)) (.seq (.seq (.ops [oV 13 (rmv (T 0)),oV 14 (rbin env .geq 164 false true (T 13) (.const (.int .u64 256)))]) (.cond (rX 14) (.seq (.ops [oV 15 (rmv (T 0)),oV 16 (rbin env .shr 164 false true (T 15) (.const (.int .u64 8))),oV 0 (rmv (T 16))]) (.ops [oV 17 (rmv (T 2)),oV 18 (rbin env .add 3 false true (T 17) (K 8)),oV 2 (rmv (T 18))])) .skip)) (.seq (.ops [oV 19 (rmv (T 2)),oV 20 (rmv (T 0)),oU 21 (rconvI .u8 (T 20)),oV 22 (ridxS (.const (.string ⟨#[0, 1, 2, 2, 3, 3, 3, 3, 4, 4, 4, 4, 4, 4, 4, 4, 5, 5, 5, 5, 5, 5, 5, 5, 5, 5, 5, 5, 5, 5, 5, 5, 6, 6, 6, 6, 6, 6, 6, 6, 6, 6, 6, 6, 6, 6, 6, 6, 6, 6, 6, 6, 6, 6, 6, 6, 6, 6, 6, 6, 6, 6, 6, 6, 7, 7, 7, 7, 7, 7, 7, 7, 7, 7, 7, 7, 7, 7, 7, 7, 7, 7, 7, 7, 7, 7, 7, 7, 7, 7, 7, 7, 7, 7, 7, 7, 7, 7, 7, 7, 7, 7, 7, 7, 7, 7, 7, 7, 7, 7, 7, 7, 7, 7, 7, 7, 7, 7, 7, 7, 7, 7, 7, 7, 7, 7, 7, 7, 8, 8, 8, 8, 8, 8, 8, 8, 8, 8, 8, 8, 8, 8, 8, 8, 8, 8, 8, 8, 8, 8, 8, 8, 8, 8, 8, 8, 8, 8, 8, 8, 8, 8, 8, 8, 8, 8, 8, 8, 8, 8, 8, 8, 8, 8, 8, 8, 8, 8, 8, 8, 8, 8, 8, 8, 8, 8, 8, 8, 8, 8, 8, 8, 8, 8, 8, 8, 8, 8, 8, 8, 8, 8, 8, 8, 8, 8, 8, 8, 8, 8, 8, 8, 8, 8, 8, 8, 8, 8, 8, 8, 8, 8, 8, 8, 8, 8, 8, 8, 8, 8, 8, 8, 8, 8, 8, 8, 8, 8, 8, 8, 8, 8, 8, 8, 8, 8, 8, 8, 8, 8, 8, 8, 8, 8, 8, 8]⟩)) (T 21)),oU 23 (rconvI .i64 (T 22)),oV 24 (rbin env .add 3 false false (T 19) (T 23)),oV 2 (rmv (T 24))]) .ret))))
theorem fn163 : env.fn 163 = some ⟨25, [.tmp 2], body163⟩ := by kernel_rfl
theorem comp163 : comp env body163 = c163_24 := by kernel_rfl
def body164 : Code := match Tryz.f164.body with | some c => c | none => .skip
abbrev c164_3 : RC := .seq (.ops [oV 4 (rmv (.const (.nilFunc)))]) (.seq (.ops [oV 5 (rmv (T 0)),oV 6 (rmv (T 1)),oC 7 (.func 176) [(T 5), (T 6), (K 0)],oV 4 (rmv (T 7))]) .ret)
theorem fn164 : env.fn 164 = some ⟨8, [.tmp 4], body164⟩ := by kernel_rfl
theorem comp164 : comp env body164 = c164_3 := by kernel_rfl
def body165 : Code := match Tryz.f165.body with | some c => c | none => .skip
abbrev c165_3 : RC := .seq (.ops [oV 2 (rmv (.const (.bool false)))]) (.seq (.ops [oV 3 (rmv (T 0)),oV 4 (rbin env .neq 9 false true (T 3) (.const (.string ⟨#[]⟩))),oV 5 (rmv (T 4)),oG 6 5 true (rmv (T 0)),oG 7 5 true (rlenS (T 6)),oG 8 5 true (rbin env .leq 3 false true (T 7) (K 12)),oV 9 (rpick (T 5) (T 8) (.const (.bool false))),oV 10 (rmv (T 9)),oG 11 10 true (rmv (T 0)),oG 12 10 true (rbin env .neq 9 false true (T 11) (.const (.string ⟨#[46]⟩))),oV 13 (rpick (T 10) (T 12) (.const (.bool false))),oV 14 (rmv (T 13)),oG 15 14 true (rmv (T 0)),oG 16 14 true (rbin env .neq 9 false true (T 15) (.const (.string ⟨#[46, 46]⟩))),oV 17 (rpick (T 14) (T 16) (.const (.bool false))),oV 18 (rmv (T 17)),oG 19 18 true (rmv (T 0)),oCG 20 18 true (.func 177) [(T 19), (.const (.string ⟨#[97, 98, 99, 100, 101, 102, 103, 104, 105, 106, 107, 108, 109, 110, 111, 112, 113, 114, 115, 116, 117, 118, 119, 120, 121, 122, 48, 49, 50, 51, 52, 53, 54, 55, 56, 57, 46, 95, 45]⟩))],oG 21 18 true (rbin env .eql 9 false true (T 20) (.const (.string ⟨#[]⟩))),oV 22 (rpick (T 18) (T 21) (.const (.bool false))),oV 23 (rmv (T 22)),oG 24 23 true (rmv (T 0)),oCG 25 23 true (.func 178) [(T 24), (.func 179)],oG 26 23 true (run' .not (T 25)),oV 27 (rpick (T 23) (T 26) (.const (.bool false))),oV 2 (rmv (T 27))]) .ret)
theorem fn165 : env.fn 165 = some ⟨28, [.tmp 2], body165⟩ := by kernel_rfl
theorem comp165 : comp env body165 = c165_3 := by kernel_rfl
def body166 : Code := match Tryz.f166.body with | some c => c | none => .skip
abbrev c166_17 : RC := .seq (.ops [oV 15 (rbin env .lss 3 false false (T 14) (T 13))]) (.seq (.cond (rX 15) .skip (.exit 0)) (.seq (.block 1 (.seq (.ops [oV 16 (riaddr 3 (T 12) (T 14)),oV 17 (rload true 3 (T 16)),oU 7 (rnew [.v (.int .i64 0), .v (.int .i64 0), .v (.int .i64 0)]),oS (rstore 3 (T 7) (T 17))]) (.ops [oV 18 (rmv (T 1)),oV 19 (rmv (T 5)),oV 20 (rload true 3 (T 7)),oC 21 (T 18) [(T 19), (T 20)],oV 5 (rmv (T 21))]))) (.ops [oV 22 (rbin env .add 3 false true (T 14) (K 1)),oV 14 (rmv (T 22))])))
abbrev c166_26 : RC := .seq (.ops [oV 4 (rmv (K 0))]) (.seq (.ops [oV 5 (rmv (K 0))]) (.seq (.seq (.ops [oV 8 (rmv (T 0)),oC 9 (.func 131) [(T 8)],oV 10 (rbin env .neq 26 false true (T 9) (K 0))]) (.cond (rX 10) (.seq (.ops [oV 11 (rmv (T 5)),oV 4 (rmv (T 11))]) .ret) .skip)) (.seq (.seq (.ops [oV 12 (rmv (T 0)),oV 13 (rlen (T 12)),oV 14 (rmv (K 0))]) (.block 0 (.loop c166_17))) (.seq (.ops [oV 23 (rmv (T 5)),oV 4 (rmv (T 23))]) .ret))))
theorem fn166 : env.fn 166 = some ⟨24, [.tmp 4], body166⟩ := by kernel_rfl
theorem comp166 : comp env body166 = c166_26 := by kernel_rfl
def body167 : Code := match Tryz.f167.body with | some c => c | none => .skip
abbrev c167_9 : RC := .seq (.ops [oU 4 (rbox (T 1)),oV 5 (rmv (K 0))]) (.seq (.seq (.ops [oV 6 (rfaddr 0 (T 4)),oV 7 (rload false 1 (T 6)),oV 8 (rload false 1 (T 2)),oV 9 (rbin env .neq 3 false false (T 7) (T 8))]) (.cond (rX 9) (.seq (.ops [oV 10 (rmv (T 0)),oV 5 (rmv (T 10))]) .ret) .skip)) (.seq (.ops [oV 11 (rmv (T 0)),oV 12 (rfaddr 2 (T 4)),oV 13 (rload false 1 (T 12)),oV 14 (rmm maxV [(T 11), (T 13)]),oV 5 (rmv (T 14))]) .ret))
theorem fn167 : env.fn 167 = some ⟨15, [.tmp 5], body167⟩ := by kernel_rfl
theorem comp167 : comp env body167 = c167_9 := by kernel_rfl
def body172 : Code := match Tryz.f172.body with | some c => c | none => .skip
abbrev c172_12 : RC := .seq (.seq (.ops [oV 6 (rmv (T 4)),oV 7 (rload false 1 (T 1)),oV 8 (rlen (T 7)),oV 9 (rbin env .lss 3 false false (T 6) (T 8))]) (.cond (rX 9) .skip (.exit 0))) (.seq (.block 1 (.seq (.drawn true [dV 13 (rload false 1 (T 2)),dV 14 (rload false 1 (T 1)),dV 15 (rmv (T 4)),dV 16 (rsliceL 1 (T 14) (some (T 15)) none none),dV 17 (rlen (T 16)),dV 18 (rmm minV [(T 13), (T 17)]),dV 5 (rmv (T 18))]) (.seq (.ops [oV 19 (rmv (T 0)),oV 20 (rload false 1 (T 1)),oV 21 (rmv (T 4)),oV 22 (rmv (T 4)),oV 23 (rmv (T 5)),oV 24 (rbin env .add 3 false false (T 22) (T 23)),oV 25 (rmv (T 4)),oV 26 (rmv (T 5)),oV 27 (rbin env .add 3 false false (T 25) (T 26)),oV 28 (rsliceL 1 (T 20) (some (T 21)) (some (T 24)) (some (T 27))),oC 29 (T 19) [(T 28)],oV 30 (run' .not (T 29))]) (.cond (rX 30) .ret .skip)))) (.ops [oV 10 (rmv (T 4)),oV 11 (rload false 1 (T 2)),oV 12 (rbin env .add 3 false false (T 10) (T 11)),oV 4 (rmv (T 12))]))
abbrev c172_15 : RC := .seq (.ops [oV 4 (rmv (K 0))]) (.block 0 (.loop c172_12))
theorem fn172 : env.fn 172 = some ⟨31, [], body172⟩ := by kernel_rfl
theorem comp172 : comp env body172 = c172_15 := by kernel_rfl
def body176 : Code := match Tryz.f176.body with | some c => c | none => .skip
abbrev c176_3 : RC := .seq (.ops [oU 3 (rbox (T 0)),oU 4 (rbox (T 1)),oU 5 (rbox (T 2)),oV 6 (rmv (.const (.nilFunc)))]) (.seq (.ops [oV 7 (rfn 183 [] [(T 4), (T 3), (T 5)]),oV 6 (rmv (T 7))]) .ret)
theorem fn176 : env.fn 176 = some ⟨8, [.tmp 6], body176⟩ := by kernel_rfl
theorem comp176 : comp env body176 = c176_3 := by kernel_rfl
def body177 : Code := match Tryz.f177.body with | some c => c | none => .skip
abbrev c177_23 : RC := .seq (.ops [oV 4 (rmv (.const (.string ⟨#[]⟩)))]) (.seq (.seq (.ops [oV 7 (rmv (T 0)),oV 8 (rbin env .eql 9 false true (T 7) (.const (.string ⟨#[]⟩))),oV 9 (rmv (T 8)),oG 10 9 false (rmv (T 1)),oG 11 9 false (rbin env .eql 9 false true (T 10) (.const (.string ⟨#[]⟩))),oV 12 (rpick (T 9) (.const (.bool true)) (T 11))]) (.cond (rX 12) (.seq (.ops [oV 13 (rmv (T 0)),oV 4 (rmv (T 13))]) .ret) .skip)) (.seq (.seq (.ops [oV 14 (rmv (T 1)),oV 15 (rlenS (T 14)),oV 16 (rbin env .eql 3 false true (T 15) (K 1)),oV 17 (rmv (T 16)),oG 18 17 true (rmv (T 1)),oG 19 17 true (ridxS (T 18) (K 0)),oG 20 17 true (rbin env .lss 5 false true (T 19) (.const (.int .u8 128))),oV 21 (rpick (T 17) (T 20) (.const (.bool false)))]) (.cond (rX 21) (.seq (.drawn true [dV 22 (rmv (T 0)),dV 23 (rmv (T 1)),dV 24 (ridxS (T 23) (K 0)),dV 26 (rmv (T 1)),dV 27 (ridxS (T 26) (K 0)),dC true 25 (.func 187) [(T 22), (T 24)],dC true 28 (.func 186) [(T 25), (T 27)],dV 4 (rmv (T 28))]) .ret) .skip)) (.seq (.seq (.ops [oV 30 (rmv (T 1)),oC 31 (.func 188) [(T 30)],oV 29 (rmv (T 31)),oV 32 (rext (T 29) 0),oV 33 (rext (T 29) 1),oU 5 (rnew [.v (.bool false), .v (.bool false), .v (.bool false), .v (.bool false), .v (.bool false), .v (.bool false), .v (.bool false), .v (.bool false), .v (.bool false), .v (.bool false), .v (.bool false), .v (.bool false), .v (.bool false), .v (.bool false), .v (.bool false), .v (.bool false), .v (.bool false), .v (.bool false), .v (.bool false), .v (.bool false), .v (.bool false), .v (.bool false), .v (.bool false), .v (.bool false), .v (.bool false), .v (.bool false), .v (.bool false), .v (.bool false), .v (.bool false), .v (.bool false), .v (.bool false), .v (.bool false), .v (.bool false), .v (.bool false), .v (.bool false), .v (.bool false), .v (.bool false), .v (.bool false), .v (.bool false), .v (.bool false), .v (.bool false), .v (.bool false), .v (.bool false), .v (.bool false), .v (.bool false), .v (.bool false), .v (.bool false), .v (.bool false), .v (.bool false), .v (.bool false), .v (.bool false), .v (.bool false), .v (.bool false), .v (.bool false), .v (.bool false), .v (.bool false), .v (.bool false), .v (.bool false), .v (.bool false), .v (.bool false), .v (.bool false), .v (.bool false), .v (.bool false), .v (.bool false), .v (.bool false), .v (.bool false), .v (.bool false), .v (.bool false), .v (.bool false), .v (.bool false), .v (.bool false), .v (.bool false), .v (.bool false), .v (.bool false), .v (.bool false), .v (.bool false), .v (.bool false), .v (.bool false), .v (.bool false), .v (.bool false), .v (.bool false), .v (.bool false), .v (.bool false), .v (.bool false), .v (.bool false), .v (.bool false), .v (.bool false), .v (.bool false), .v (.bool false), .v (.bool false), .v (.bool false), .v (.bool false), .v (.bool false), .v (.bool false), .v (.bool false), .v (.bool false), .v (.bool false), .v (.bool false), .v (.bool false), .v (.bool false), .v (.bool false), .v (.bool false), .v (.bool false), .v (.bool false), .v (.bool false), .v (.bool false), .v (.bool false), .v (.bool false), .v (.bool false), .v (.bool false), .v (.bool false), .v (.bool false), .v (.bool false), .v (.bool false), .v (.bool false), .v (.bool false), .v (.bool false), .v (.bool false), .v (.bool false), .v (.bool false), .v (.bool false), .v (.bool false), .v (.bool false), .v (.bool false), .v (.bool false), .v (.bool false), .v (.bool false), .v (.bool false), .v (.bool false), .v (.bool false), .v (.bool false), .v (.bool false), .v (.bool false), .v (.bool false), .v (.bool false), .v (.bool false), .v (.bool false), .v (.bool false), .v (.bool false), .v (.bool false), .v (.bool false), .v (.bool false), .v (.bool false), .v (.bool false), .v (.bool false), .v (.bool false), .v (.bool false), .v (.bool false), .v (.bool false), .v (.bool false), .v (.bool false), .v (.bool false), .v (.bool false), .v (.bool false), .v (.bool false), .v (.bool false), .v (.bool false), .v (.bool false), .v (.bool false), .v (.bool false), .v (.bool false), .v (.bool false), .v (.bool false), .v (.bool false), .v (.bool false), .v (.bool false), .v (.bool false), .v (.bool false), .v (.bool false), .v (.bool false), .v (.bool false), .v (.bool false), .v (.bool false), .v (.bool false), .v (.bool false), .v (.bool false), .v (.bool false), .v (.bool false), .v (.bool false), .v (.bool false), .v (.bool false), .v (.bool false), .v (.bool false), .v (.bool false), .v (.bool false), .v (.bool false), .v (.bool false), .v (.bool false), .v (.bool false), .v (.bool false), .v (.bool false), .v (.bool false), .v (.bool false), .v (.bool false), .v (.bool false), .v (.bool false), .v (.bool false), .v (.bool false), .v (.bool false), .v (.bool false), .v (.bool false), .v (.bool false), .v (.bool false), .v (.bool false), .v (.bool false), .v (.bool false), .v (.bool false), .v (.bool false), .v (.bool false), .v (.bool false), .v (.bool false), .v (.bool false), .v (.bool false), .v (.bool false), .v (.bool false), .v (.bool false), .v (.bool false), .v (.bool false), .v (.bool false), .v (.bool false), .v (.bool false), .v (.bool false), .v (.bool false), .v (.bool false), .v (.bool false), .v (.bool false), .v (.bool false), .v (.bool false), .v (.bool false), .v (.bool false), .v (.bool false), .v (.bool false), .v (.bool false), .v (.bool false), .v (.bool false), .v (.bool false), .v (.bool false), .v (.bool false), .v (.bool false), .v (.bool false), .v (.bool false), .v (.bool false), .v (.bool false), .v (.bool false), .v (.bool false), .v (.bool false), .v (.bool false), .v (.bool false), .v (.bool false), .v (.bool false), .v (.bool false), .v (.bool false), .v (.bool false), .v (.bool false), .v (.bool false), .v (.bool false)]),oS (rstore 256 (T 5) (T 32)),oV 6 (rmv (T 33))]) (.seq (.ops [oV 34 (rmv (T 6))]) (.cond (rX 34) (.seq (.ops [oV 35 (rmv (T 0)),oC 36 (.func 190) [(T 35), (T 5)],oC 37 (.func 189) [(T 36), (T 5)],oV 4 (rmv (T 37))]) .ret) .skip))) (.seq (.ops [oV 38 (rmv (T 0)),oV 39 (rmv (T 1)),oC 40 (.func 192) [(T 38), (T 39)],oV 41 (rmv (T 1)),oC 42 (.func 191) [(T 40), (T 41)],oV 4 (rmv (T 42))]) .ret))))
theorem fn177 : env.fn 177 = some ⟨43, [.tmp 4], body177⟩ := by kernel_rfl
theorem comp177 : comp env body177 = c177_23 := by kernel_rfl
def body178 : Code := match Tryz.f178.body with | some c => c | none => .skip
abbrev c178_3 : RC := .seq (.ops [oV 4 (rmv (.const (.bool false)))]) (.seq (.ops [oV 5 (rmv (T 0)),oV 6 (rmv (T 1)),oC 7 (.func 193) [(T 5), (T 6)],oV 8 (rbin env .geq 3 false true (T 7) (K 0)),oV 4 (rmv (T 8))]) .ret)
theorem fn178 : env.fn 178 = some ⟨9, [.tmp 4], body178⟩ := by kernel_rfl
theorem comp178 : comp env body178 = c178_3 := by kernel_rfl
def body179 : Code := match Tryz.f179.body with | some c => c | none => .skip
abbrev c179_3 : RC := .seq (.ops [oV 2 (rmv (.const (.bool false)))]) (.seq (.ops [oV 3 (rmv (T 0)),oC 4 (.func 180) [(.const (.string ⟨#[97, 98, 99, 100, 101, 102, 103, 104, 105, 106, 107, 108, 109, 110, 111, 112, 113, 114, 115, 116, 117, 118, 119, 120, 121, 122, 48, 49, 50, 51, 52, 53, 54, 55, 56, 57, 46, 95, 45]⟩)), (T 3)],oV 5 (run' .not (T 4)),oV 2 (rmv (T 5))]) .ret)
theorem fn179 : env.fn 179 = some ⟨6, [.tmp 2], body179⟩ := by kernel_rfl
theorem comp179 : comp env body179 = c179_3 := by kernel_rfl
def body180 : Code := match Tryz.f180.body with | some c => c | none => .skip
abbrev c180_3 : RC := .seq (.ops [oV 4 (rmv (.const (.bool false)))]) (.seq (.ops [oV 5 (rmv (T 0)),oV 6 (rmv (T 1)),oC 7 (.func 194) [(T 5), (T 6)],oV 8 (rbin env .geq 3 false true (T 7) (K 0)),oV 4 (rmv (T 8))]) .ret)
theorem fn180 : env.fn 180 = some ⟨9, [.tmp 4], body180⟩ := by kernel_rfl
theorem comp180 : comp env body180 = c180_3 := by kernel_rfl
def body183 : Code := match Tryz.f183.body with | some c => c | none => .skip
abbrev c183_31 : RC := .block 3 (.seq (.ops [oV 29 (rload false 1 (T 2)),oV 30 (rload false 1 (T 1)),oC 31 (.func 185) [(T 29), (T 30)],oV 7 (rmv (T 31))]) (.seq (.seq (.ops [oV 32 (rmv (T 7)),oV 33 (rbin env .lss 3 false true (T 32) (K 0))]) (.cond (rX 33) (.exit 2) .skip)) (.seq (.ops [oV 34 (rload false 1 (T 2)),oV 35 (rmv (T 7)),oV 36 (rload false 1 (T 3)),oV 37 (rbin env .add 3 false false (T 35) (T 36)),oV 38 (rsliceS (T 34) none (some (T 37))),oV 8 (rmv (T 38))]) (.seq (.seq (.ops [oV 39 (rmv (T 0)),oV 40 (rmv (T 8)),oC 41 (T 39) [(T 40)],oV 42 (run' .not (T 41))]) (.cond (rX 42) .ret .skip)) (.ops [oV 43 (rload false 1 (T 2)),oV 44 (rmv (T 7)),oV 45 (rload false 1 (T 1)),oV 46 (rlenS (T 45)),oV 47 (rbin env .add 3 false false (T 44) (T 46)),oV 48 (rsliceS (T 43) (some (T 47)) none),oS (rstore 1 (T 2) (T 48))])))))
abbrev c183_36 : RC := .seq (.seq (.ops [oV 9 (rload false 1 (T 1)),oV 10 (rlenS (T 9)),oV 11 (rbin env .eql 3 false true (T 10) (K 0))]) (.cond (rX 11) (.seq (.block 0 (.loop (.seq (.seq (.ops [oV 12 (rload false 1 (T 2)),oV 13 (rlenS (T 12)),oV 14 (rbin env .gtr 3 false true (T 13) (K 0))]) (.cond (rX 14) .skip (.exit 0))) (.block 1 (.seq (.ops [oV 16 (rload false 1 (T 2)),oC 17 (.func 184) [(T 16)],oV 15 (rmv (T 17)),oV 18 (rext (T 15) 0),oV 19 (rext (T 15) 1),oV 5 (rmv (T 18)),oV 6 (rmv (T 19))]) (.seq (.seq (.ops [oV 20 (rmv (T 0)),oV 21 (rload false 1 (T 2)),oV 22 (rmv (T 6)),oV 23 (rsliceS (T 21) none (some (T 22))),oC 24 (T 20) [(T 23)],oV 25 (run' .not (T 24))]) (.cond (rX 25) .ret .skip)) (.ops [oV 26 (rload false 1 (T 2)),oV 27 (rmv (T 6)),oV 28 (rsliceS (T 26) (some (T 27)) none),oS (rstore 1 (T 2) (T 28))]))))))) .ret) .skip)) (.seq (.block 2 (.loop c183_31)) (.ops [oV 49 (rmv (T 0)),oV 50 (rload false 1 (T 2)),oC 51 (T 49) [(T 50)]]))
theorem fn183 : env.fn 183 = some ⟨52, [], body183⟩ := by kernel_rfl
theorem comp183 : comp env body183 = c183_36 := by kernel_rfl
def body185 : Code := match Tryz.f185.body with | some c => c | none => .skip
abbrev c185_3 : RC := .seq (.ops [oV 4 (rmv (K 0))]) (.seq (.ops [oV 5 (rmv (T 0)),oV 6 (rmv (T 1)),oC 7 (.func 196) [(T 5), (T 6)],oV 4 (rmv (T 7))]) .ret)
theorem fn185 : env.fn 185 = some ⟨8, [.tmp 4], body185⟩ := by kernel_rfl
theorem comp185 : comp env body185 = c185_3 := by kernel_rfl
def body188 : Code := match Tryz.f188.body with | some c => c | none => .skip
abbrev c188_17 : RC := .seq (.seq (.ops [oV 6 (rmv (T 4)),oV 7 (rmv (T 0)),oV 8 (rlenS (T 7)),oV 9 (rbin env .lss 3 false false (T 6) (T 8))]) (.cond (rX 9) .skip (.exit 0))) (.seq (.block 1 (.seq (.ops [oV 12 (rmv (T 0)),oV 13 (rmv (T 4)),oV 14 (ridxS (T 12) (T 13)),oV 5 (rmv (T 14))]) (.seq (.seq (.ops [oV 15 (rmv (T 5)),oV 16 (rbin env .geq 5 false true (T 15) (.const (.int .u8 128)))]) (.cond (rX 16) (.seq (.ops [oV 17 (rload true 256 (T 2)),oS (rstore 256 (T 2) (T 17)),oV 3 (rmv (.const (.bool false)))]) .ret) .skip)) (.ops [oV 18 (rmv (T 5)),oV 19 (riaddrA 256 1 (T 2) (T 18)),oS (rstore 1 (T 19) (.const (.bool true)))])))) (.ops [oV 10 (rmv (T 4)),oV 11 (rbin env .add 3 false true (T 10) (K 1)),oV 4 (rmv (T 11))]))
abbrev c188_24 : RC := .seq (.ops [oU 2 (rnew [.v (.bool false), .v (.bool false), .v (.bool false), .v (.bool false), .v (.bool false), .v (.bool false), .v (.bool false), .v (.bool false), .v (.bool false), .v (.bool false), .v (.bool false), .v (.bool false), .v (.bool false), .v (.bool false), .v (.bool false), .v (.bool false), .v (.bool false), .v (.bool false), .v (.bool false), .v (.bool false), .v (.bool false), .v (.bool false), .v (.bool false), .v (.bool false), .v (.bool false), .v (.bool false), .v (.bool false), .v (.bool false), .v (.bool false), .v (.bool false), .v (.bool false), .v (.bool false), .v (.bool false), .v (.bool false), .v (.bool false), .v (.bool false), .v (.bool false), .v (.bool false), .v (.bool false), .v (.bool false), .v (.bool false), .v (.bool false), .v (.bool false), .v (.bool false), .v (.bool false), .v (.bool false), .v (.bool false), .v (.bool false), .v (.bool false), .v (.bool false), .v (.bool false), .v (.bool false), .v (.bool false), .v (.bool false), .v (.bool false), .v (.bool false), .v (.bool false), .v (.bool false), .v (.bool false), .v (.bool false), .v (.bool false), .v (.bool false), .v (.bool false), .v (.bool false), .v (.bool false), .v (.bool false), .v (.bool false), .v (.bool false), .v (.bool false), .v (.bool false), .v (.bool false), .v (.bool false), .v (.bool false), .v (.bool false), .v (.bool false), .v (.bool false), .v (.bool false), .v (.bool false), .v (.bool false), .v (.bool false), .v (.bool false), .v (.bool false), .v (.bool false), .v (.bool false), .v (.bool false), .v (.bool false), .v (.bool false), .v (.bool false), .v (.bool false), .v (.bool false), .v (.bool false), .v (.bool false), .v (.bool false), .v (.bool false), .v (.bool false), .v (.bool false), .v (.bool false), .v (.bool false), .v (.bool false), .v (.bool false), .v (.bool false), .v (.bool false), .v (.bool false), .v (.bool false), .v (.bool false), .v (.bool false), .v (.bool false), .v (.bool false), .v (.bool false), .v (.bool false), .v (.bool false), .v (.bool false), .v (.bool false), .v (.bool false), .v (.bool false), .v (.bool false), .v (.bool false), .v (.bool false), .v (.bool false), .v (.bool false), .v (.bool false), .v (.bool false), .v (.bool false), .v (.bool false), .v (.bool false), .v (.bool false), .v (.bool false), .v (.bool false), .v (.bool false), .v (.bool false), .v (.bool false), .v (.bool false), .v (.bool false), .v (.bool false), .v (.bool false), .v (.bool false), .v (.bool false), .v (.bool false), .v (.bool false), .v (.bool false), .v (.bool false), .v (.bool false), .v (.bool false), .v (.bool false), .v (.bool false), .v (.bool false), .v (.bool false), .v (.bool false), .v (.bool false), .v (.bool false), .v (.bool false), .v (.bool false), .v (.bool false), .v (.bool false), .v (.bool false), .v (.bool false), .v (.bool false), .v (.bool false), .v (.bool false), .v (.bool false), .v (.bool false), .v (.bool false), .v (.bool false), .v (.bool false), .v (.bool false), .v (.bool false), .v (.bool false), .v (.bool false), .v (.bool false), .v (.bool false), .v (.bool false), .v (.bool false), .v (.bool false), .v (.bool false), .v (.bool false), .v (.bool false), .v (.bool false), .v (.bool false), .v (.bool false), .v (.bool false), .v (.bool false), .v (.bool false), .v (.bool false), .v (.bool false), .v (.bool false), .v (.bool false), .v (.bool false), .v (.bool false), .v (.bool false), .v (.bool false), .v (.bool false), .v (.bool false), .v (.bool false), .v (.bool false), .v (.bool false), .v (.bool false), .v (.bool false), .v (.bool false), .v (.bool false), .v (.bool false), .v (.bool false), .v (.bool false), .v (.bool false), .v (.bool false), .v (.bool false), .v (.bool false), .v (.bool false), .v (.bool false), .v (.bool false), .v (.bool false), .v (.bool false), .v (.bool false), .v (.bool false), .v (.bool false), .v (.bool false), .v (.bool false), .v (.bool false), .v (.bool false), .v (.bool false), .v (.bool false), .v (.bool false), .v (.bool false), .v (.bool false), .v (.bool false), .v (.bool false), .v (.bool false), .v (.bool false), .v (.bool false), .v (.bool false), .v (.bool false), .v (.bool false), .v (.bool false), .v (.bool false), .v (.bool false), .v (.bool false), .v (.bool false), .v (.bool false), .v (.bool false), .v (.bool false), .v (.bool false), .v (.bool false), .v (.bool false), .v (.bool false), .v (.bool false), .v (.bool false), .v (.bool false), .v (.bool false), .v (.bool false), .v (.bool false), .v (.bool false), .v (.bool false), .v (.bool false), .v (.bool false), .v (.bool false), .v (.bool false), .v (.bool false)]),oV 3 (rmv (.const (.bool false)))]) (.seq (.seq (.ops [oV 4 (rmv (K 0))]) (.block 0 (.loop c188_17))) (.seq (.ops [oV 20 (rload true 256 (T 2)),oS (rstore 256 (T 2) (T 20)),oV 3 (rmv (.const (.bool true)))]) .ret))
theorem fn188 : env.fn 188 = some ⟨21, [.cell 2 211, .tmp 3], body188⟩ := by kernel_rfl
theorem comp188 : comp env body188 = c188_24 := by kernel_rfl
def body189 : Code := match Tryz.f189.body with | some c => c | none => .skip
abbrev c189_10 : RC := .seq (.seq (.ops [oV 5 (rmv (T 0)),oV 6 (rlenS (T 5)),oV 7 (rbin env .gtr 3 false true (T 6) (K 0))]) (.cond (rX 7) .skip (.exit 0))) (.block 1 (.seq (.seq (.ops [oV 8 (rmv (T 1)),oV 9 (rmv (T 0)),oV 10 (ridxS (T 9) (K 0)),oC 11 (.func 197) [(T 8), (T 10)],oV 12 (run' .not (T 11))]) (.cond (rX 12) (.exit 0) .skip)) (.ops [oV 13 (rmv (T 0)),oV 14 (rsliceS (T 13) (some (K 1)) none),oV 0 (rmv (T 14))])))
abbrev c189_16 : RC := .seq (.ops [oV 4 (rmv (.const (.string ⟨#[]⟩)))]) (.seq (.block 0 (.loop c189_10)) (.seq (.ops [oV 15 (rmv (T 0)),oV 4 (rmv (T 15))]) .ret))
theorem fn189 : env.fn 189 = some ⟨16, [.tmp 4], body189⟩ := by kernel_rfl
theorem comp189 : comp env body189 = c189_16 := by kernel_rfl
def body190 : Code := match Tryz.f190.body with | some c => c | none => .skip
abbrev c190_10 : RC := .seq (.seq (.ops [oV 5 (rmv (T 0)),oV 6 (rlenS (T 5)),oV 7 (rbin env .gtr 3 false true (T 6) (K 0))]) (.cond (rX 7) .skip (.exit 0))) (.block 1 (.seq (.seq (.ops [oV 8 (rmv (T 1)),oV 9 (rmv (T 0)),oV 10 (rmv (T 0)),oV 11 (rlenS (T 10)),oV 12 (rbin env .sub 3 false true (T 11) (K 1)),oV 13 (ridxS (T 9) (T 12)),oC 14 (.func 197) [(T 8), (T 13)],oV 15 (run' .not (T 14))]) (.cond (rX 15) (.exit 0) .skip)) (.ops [oV 16 (rmv (T 0)),oV 17 (rmv (T 0)),oV 18 (rlenS (T 17)),oV 19 (rbin env .sub 3 false true (T 18) (K 1)),oV 20 (rsliceS (T 16) none (some (T 19))),oV 0 (rmv (T 20))])))
abbrev c190_16 : RC := .seq (.ops [oV 4 (rmv (.const (.string ⟨#[]⟩)))]) (.seq (.block 0 (.loop c190_10)) (.seq (.ops [oV 21 (rmv (T 0)),oV 4 (rmv (T 21))]) .ret))
theorem fn190 : env.fn 190 = some ⟨22, [.tmp 4], body190⟩ := by kernel_rfl
theorem comp190 : comp env body190 = c190_16 := by kernel_rfl
def body193 : Code := match Tryz.f193.body with | some c => c | none => .skip
abbrev c193_3 : RC := .seq (.ops [oV 4 (rmv (K 0))]) (.seq (.ops [oV 5 (rmv (T 0)),oV 6 (rmv (T 1)),oC 7 (.func 199) [(T 5), (T 6), (.const (.bool true))],oV 4 (rmv (T 7))]) .ret)
theorem fn193 : env.fn 193 = some ⟨8, [.tmp 4], body193⟩ := by kernel_rfl
theorem comp193 : comp env body193 = c193_3 := by kernel_rfl
def body194 : Code := match Tryz.f194.body with | some c => c | none => .skip
abbrev c194_141 : RC := .seq (.ops [oV 4 (rmv (K 0))]) (.block 0 (.seq (.ops [oV 161 (rmv (T 1)),oV 162 (rbin env .leq 21 true false (.const (.int .i32 0)) (T 161)),oV 163 (rmv (T 162)),oG 164 163 true (rmv (T 1)),oG 165 163 true (rbin env .lss 21 false true (T 164) (.const (.int .i32 128))),oV 166 (rpick (T 163) (T 165) (.const (.bool false))),oV 160 (rmv (T 166))]) (.cond (rX 160) (.seq (.ops [oV 167 (rmv (T 0)),oV 168 (rmv (T 1)),oU 169 (rconvI .u8 (T 168)),oC 170 (.func 200) [(T 167), (T 169)],oV 4 (rmv (T 170))]) .ret) (.seq (.ops [oV 172 (rmv (T 1)),oV 173 (rbin env .eql 21 false true (T 172) (.const (.int .i32 65533))),oV 171 (rmv (T 173))]) (.cond (rX 171) (.seq (.seq (.ops [oV 174 (rmv (T 0)),oU 175 (rrange (T 174))]) (.block 9 (.loop (.seq (.ops [oU 176 (rnext (T 175)),oV 177 (rext (T 176) 0)]) (.seq (.cond (rX 177) .skip (.exit 9)) (.block 10 (.seq (.ops [oV 178 (rext (T 176) 1),oV 179 (rext (T 176) 2),oV 5 (rmv (T 178)),oV 6 (rmv (T 179))]) (.seq (.ops [oV 180 (rmv (T 6)),oV 181 (rbin env .eql 21 false true (T 180) (.const (.int .i32 65533)))]) (.cond (rX 181) (.seq (.ops [oV 182 (rmv (T 5)),oV 4 (rmv (T 182))]) .ret) .skip))))))))) (.seq (.ops [oV 4 (rmv (K (-1)))]) .ret)) (.seq (.ops [oV 184 (rmv (T 1)),oC 185 (.func 201) [(T 184)],oV 186 (run' .not (T 185)),oV 183 (rmv (T 186))]) (.cond (rX 183) (.seq (.ops [oV 4 (rmv (K (-1)))]) .ret) (.scope (subc [1, 0, 1, 1, 1, 1, 1, 1, 0] body194)))))))))
theorem fn194 : env.fn 194 = some ⟨187, [.tmp 4], body194⟩ := by kernel_rfl
theorem comp194 : comp env body194 = c194_141 := by kernel_rfl
def body196 : Code := match Tryz.f196.body with | some c => c | none => .skip
abbrev c196_94 : RC := .seq (.ops [oV 4 (rmv (K 0))]) (.seq (.ops [oV 14 (rmv (T 1)),oV 15 (rlenS (T 14)),oV 5 (rmv (T 15))]) (.seq (.block 0 (.seq (.ops [oV 17 (rmv (T 5)),oV 18 (rbin env .eql 3 false true (T 17) (K 0)),oV 19 (rmv (T 18)),oG 20 19 false (rmv (T 1)),oG 21 19 false (rmv (T 0)),oG 22 19 false (rbin env .eql 9 false false (T 20) (T 21)),oV 23 (rpick (T 19) (.const (.bool true)) (T 22)),oV 16 (rmv (T 23))]) (.cond (rX 16) (.seq (.ops [oV 4 (rmv (K 0))]) .ret) (.seq (.ops [oV 25 (rmv (T 5)),oV 26 (rbin env .eql 3 false true (T 25) (K 1)),oV 24 (rmv (T 26))]) (.cond (rX 24) (.seq (.ops [oV 27 (rmv (T 0)),oV 28 (rmv (T 1)),oV 29 (ridxS (T 28) (K 0)),oC 30 (.func 204) [(T 27), (T 29)],oV 4 (rmv (T 30))]) .ret) (.seq (.ops [oV 32 (rmv (T 5)),oV 33 (rmv (T 0)),oV 34 (rlenS (T 33)),oV 35 (rbin env .geq 3 false false (T 32) (T 34)),oV 31 (rmv (T 35))]) (.cond (rX 31) (.seq (.ops [oV 4 (rmv (K (-1)))]) .ret) (.seq (.ops [oV 37 (rmv (T 5)),oV 38 (rload false 1 (.global 0)),oV 39 (rbin env .leq 3 false false (T 37) (T 38)),oV 40 (rmv (T 39)),oG 41 40 true (rmv (T 0)),oG 42 40 true (rlenS (T 41)),oG 43 40 true (rbin env .leq 3 false true (T 42) (K 64)),oV 44 (rpick (T 40) (T 43) (.const (.bool false))),oV 36 (rmv (T 44))]) (.cond (rX 36) (.seq (.ops [oV 45 (rmv (T 0)),oV 46 (rmv (T 1)),oC 47 (.func 203) [(T 45), (T 46)],oV 4 (rmv (T 47))]) .ret) .skip))))))))) (.seq (.ops [oV 48 (rmv (T 1)),oV 49 (ridxS (T 48) (K 0)),oV 6 (rmv (T 49))]) (.seq (.ops [oV 50 (rmv (T 1)),oV 51 (ridxS (T 50) (K 1)),oV 7 (rmv (T 51))]) (.seq (.ops [oV 8 (rmv (K 0))]) (.seq (.ops [oV 52 (rmv (T 0)),oV 53 (rlenS (T 52)),oV 54 (rmv (T 5)),oV 55 (rbin env .sub 3 false false (T 53) (T 54)),oV 56 (rbin env .add 3 false true (T 55) (K 1)),oV 9 (rmv (T 56))]) (.seq (.ops [oV 10 (rmv (K 0))]) (.seq (.block 1 (.loop (.seq (.seq (.ops [oV 57 (rmv (T 8)),oV 58 (rmv (T 9)),oV 59 (rbin env .lss 3 false false (T 57) (T 58))]) (.cond (rX 59) .skip (.exit 1))) (.block 2 (.seq (.seq (.ops [oV 60 (rmv (T 0)),oV 61 (rmv (T 8)),oV 62 (ridxS (T 60) (T 61)),oV 63 (rmv (T 6)),oV 64 (rbin env .neq 5 false false (T 62) (T 63))]) (.cond (rX 64) (.seq (.ops [oV 65 (rmv (T 0)),oV 66 (rmv (T 8)),oV 67 (rbin env .add 3 false true (T 66) (K 1)),oV 68 (rmv (T 9)),oV 69 (rsliceS (T 65) (some (T 67)) (some (T 68))),oV 70 (rmv (T 6)),oC 71 (.func 204) [(T 69), (T 70)],oV 11 (rmv (T 71))]) (.seq (.seq (.ops [oV 72 (rmv (T 11)),oV 73 (rbin env .lss 3 false true (T 72) (K 0))]) (.cond (rX 73) (.seq (.ops [oV 4 (rmv (K (-1)))]) .ret) .skip)) (.ops [oV 74 (rmv (T 8)),oV 75 (rmv (T 11)),oV 76 (rbin env .add 3 false true (T 75) (K 1)),oV 77 (rbin env .add 3 false false (T 74) (T 76)),oV 8 (rmv (T 77))]))) .skip)) (.seq (.seq (.ops [oV 78 (rmv (T 0)),oV 79 (rmv (T 8)),oV 80 (rbin env .add 3 false true (T 79) (K 1)),oV 81 (ridxS (T 78) (T 80)),oV 82 (rmv (T 7)),oV 83 (rbin env .eql 5 false false (T 81) (T 82)),oV 84 (rmv (T 83)),oG 85 84 true (rmv (T 0)),oG 86 84 true (rmv (T 8)),oG 87 84 true (rmv (T 8)),oG 88 84 true (rmv (T 5)),oG 89 84 true (rbin env .add 3 false false (T 87) (T 88)),oG 90 84 true (rsliceS (T 85) (some (T 86)) (some (T 89))),oG 91 84 true (rmv (T 1)),oG 92 84 true (rbin env .eql 9 false false (T 90) (T 91)),oV 93 (rpick (T 84) (T 92) (.const (.bool false)))]) (.cond (rX 93) (.seq (.ops [oV 94 (rmv (T 8)),oV 4 (rmv (T 94))]) .ret) .skip)) (.seq (.ops [oV 95 (rmv (T 8)),oV 96 (rbin env .add 3 false true (T 95) (K 1)),oV 8 (rmv (T 96))]) (.seq (.ops [oV 97 (rmv (T 10)),oV 98 (rbin env .add 3 false true (T 97) (K 1)),oV 10 (rmv (T 98))]) (.seq (.ops [oV 99 (rmv (T 5)),oV 100 (rload false 1 (.global 0)),oV 101 (rbin env .leq 3 false false (T 99) (T 100)),oV 102 (rmv (T 101)),oG 103 102 true (rmv (T 10)),oG 104 102 true (rmv (T 8)),oCG 105 102 true (.func 202) [(T 104)],oG 106 102 true (rbin env .gtr 3 false false (T 103) (T 105)),oV 107 (rpick (T 102) (T 106) (.const (.bool false)))]) (.cond (rX 107) (.seq (.ops [oV 108 (rmv (T 0)),oV 109 (rmv (T 8)),oV 110 (rsliceS (T 108) (some (T 109)) none),oV 111 (rmv (T 1)),oC 112 (.func 203) [(T 110), (T 111)],oV 12 (rmv (T 112))]) (.seq (.seq (.ops [oV 113 (rmv (T 12)),oV 114 (rbin env .geq 3 false true (T 113) (K 0))]) (.cond (rX 114) (.seq (.ops [oV 115 (rmv (T 12)),oV 116 (rmv (T 8)),oV 117 (rbin env .add 3 false false (T 115) (T 116)),oV 4 (rmv (T 117))]) .ret) .skip)) (.seq (.ops [oV 4 (rmv (K (-1)))]) .ret))) (.seq (.ops [oV 118 (rmv (T 5)),oV 119 (rload false 1 (.global 0)),oV 120 (rbin env .gtr 3 false false (T 118) (T 119)),oV 121 (rmv (T 120)),oG 122 121 true (rmv (T 10)),oG 123 121 true (rmv (T 8)),oG 124 121 true (rbin env .shr 3 false true (T 123) (.const (.int .u64 4))),oG 125 121 true (rbin env .add 3 true false (K 4) (T 124)),oG 126 121 true (rbin env .geq 3 false false (T 122) (T 125)),oV 127 (rpick (T 121) (T 126) (.const (.bool false))),oV 128 (rmv (T 127)),oG 129 128 true (rmv (T 8)),oG 130 128 true (rmv (T 9)),oG 131 128 true (rbin env .lss 3 false false (T 129) (T 130)),oV 132 (rpick (T 128) (T 131) (.const (.bool false)))]) (.cond (rX 132) (.seq (.ops [oV 133 (rmv (T 0)),oV 134 (rmv (T 8)),oV 135 (rsliceS (T 133) (some (T 134)) none),oV 136 (rmv (T 1)),oC 137 (.func 205) [(T 135), (T 136)],oV 13 (rmv (T 137))]) (.seq (.seq (.ops [oV 138 (rmv (T 13)),oV 139 (rbin env .lss 3 false true (T 138) (K 0))]) (.cond (rX 139) (.seq (.ops [oV 4 (rmv (K (-1)))]) .ret) .skip)) (.seq (.ops [oV 140 (rmv (T 8)),oV 141 (rmv (T 13)),oV 142 (rbin env .add 3 false false (T 140) (T 141)),oV 4 (rmv (T 142))]) .ret))) .skip)))))))))))) (.seq (.ops [oV 4 (rmv (K (-1)))]) .ret)))))))))
theorem fn196 : env.fn 196 = some ⟨143, [.tmp 4], body196⟩ := by kernel_rfl
theorem comp196 : comp env body196 = c196_94 := by kernel_rfl
def body197 : Code := match Tryz.f197.body with | some c => c | none => .skip
abbrev c197_3 : RC := .seq (.ops [oV 4 (rmv (.const (.bool false)))]) (.seq (.ops [oV 5 (rmv (T 0)),oV 6 (rmv (T 1)),oV 7 (rnil (T 5)),oV 8 (riaddrA 256 1 (T 7) (T 6)),oV 9 (rload false 1 (T 8)),oV 4 (rmv (T 9))]) .ret)
theorem fn197 : env.fn 197 = some ⟨10, [.tmp 4], body197⟩ := by kernel_rfl
theorem comp197 : comp env body197 = c197_3 := by kernel_rfl
def body199 : Code := match Tryz.f199.body with | some c => c | none => .skip
abbrev c199_13 : RC := .seq (.ops [oU 11 (rnext (T 10)),oV 12 (rext (T 11) 0)]) (.seq (.cond (rX 12) .skip (.exit 0)) (.block 1 (.seq (.ops [oV 13 (rext (T 11) 1),oV 14 (rext (T 11) 2),oV 7 (rmv (T 13)),oV 8 (rmv (T 14))]) (.seq (.ops [oV 15 (rmv (T 1)),oV 16 (rmv (T 8)),oC 17 (T 15) [(T 16)],oV 18 (rmv (T 2)),oV 19 (rbin env .eql 4 false false (T 17) (T 18))]) (.cond (rX 19) (.seq (.ops [oV 20 (rmv (T 7)),oV 6 (rmv (T 20))]) .ret) .skip)))))
abbrev c199_20 : RC := .seq (.ops [oV 6 (rmv (K 0))]) (.seq (.seq (.ops [oV 9 (rmv (T 0)),oU 10 (rrange (T 9))]) (.block 0 (.loop c199_13))) (.seq (.ops [oV 6 (rmv (K (-1)))]) .ret))
theorem fn199 : env.fn 199 = some ⟨21, [.tmp 6], body199⟩ := by kernel_rfl
theorem comp199 : comp env body199 = c199_20 := by kernel_rfl
def body200 : Code := match Tryz.f200.body with | some c => c | none => .skip
abbrev c200_3 : RC := .seq (.ops [oV 4 (rmv (K 0))]) (.seq (.ops [oV 5 (rmv (T 0)),oV 6 (rmv (T 1)),oC 7 (.func 204) [(T 5), (T 6)],oV 4 (rmv (T 7))]) .ret)
theorem fn200 : env.fn 200 = some ⟨8, [.tmp 4], body200⟩ := by kernel_rfl
theorem comp200 : comp env body200 = c200_3 := by kernel_rfl
def body204 : Code := match Tryz.f204.body with | some c => c | none => .skip
abbrev c204_3 : RC := .seq (.ops [oV 4 (rmv (K 0))]) (.seq (.ops [oV 5 (rmv (T 0)),oV 6 (rmv (T 1)),oC 7 (.func 207) [(T 5), (T 6)],oV 4 (rmv (T 7))]) .ret)
theorem fn204 : env.fn 204 = some ⟨8, [.tmp 4], body204⟩ := by kernel_rfl
theorem comp204 : comp env body204 = c204_3 := by kernel_rfl
end
end Go.Proofs.YtmgmbdnhodicjaaGreatDoor
end

section
namespace Go.Am
open Go.RowKit
inductive Sh where
  | bool | int (k : IntKind) | str | sl (l : List Sh)
mutual
inductive Typ (P : Program) : TypeId → List Sh → Prop where
  | bool {t : TypeId} (h : P.underlying t = some .bool) : Typ P t [.bool]
  | int {t : TypeId} {k : IntKind} (h : P.underlying t = some (.int k)) : Typ P t [.int k]
  | str {t : TypeId} (h : P.underlying t = some .string) : Typ P t [.str]
  | sl {t e : TypeId} {l : List Sh} (h : P.underlying t = some (.slice e)) (he : Typ P e l) (hc : P.cellsOf e = l.length) (h0 : l.length ≠ 0) (hs : l.length < 4096) : Typ P t [.sl l]
  | struct {t : TypeId} {fs : Array Field} {l : List Sh} (h : P.underlying t = some (.struct fs)) (hf : TypFs P fs.toList 0 l) (hc : P.cellsOf t = l.length) : Typ P t l
inductive TypFs (P : Program) : List Field → Nat → List Sh → Prop where
  | nil {n : Nat} : TypFs P [] n []
  | cons {f : Field} {fs : List Field} {n : Nat} {l l' : List Sh} (ho : f.offset = n) (h : Typ P f.type l) (hc : P.cellsOf f.type = l.length) (hs : TypFs P fs (n + l.length) l') : TypFs P (f :: fs) n (l ++ l')
end
mutual
inductive ShP : Sh → DV → Prop where
  | bool (b : Bool) : ShP .bool (.v (.bool b))
  | int {k : IntKind} (n : Int) (h1 : k.min ≤ n) (h2 : n ≤ k.max) : ShP (.int k) (.v (.int k n))
  | str (s : ByteArray) (h : s.size ≤ maxLen) : ShP .str (.v (.string s))
  | nil (l : List Sh) : ShP (.sl l) (.v (.slice none 0 0))
  | sl {l : List Sh} {n : Nat} {cs : List DV} (h : ShRows l n cs) (hn : n ≤ maxLen) (hl : l.length < 4096) : ShP (.sl l) (.lst l.length n cs)
inductive ShPs : List Sh → List DV → Prop where
  | nil : ShPs [] []
  | cons {s : Sh} {d : DV} {l : List Sh} {l' : List DV} (h : ShP s d) (hs : ShPs l l') : ShPs (s :: l) (d :: l')
inductive ShRows : List Sh → Nat → List DV → Prop where
  | nil (l : List Sh) : ShRows l 0 []
  | cons {l : List Sh} {n : Nat} {r cs : List DV} (h : ShPs l r) (hs : ShRows l n cs) : ShRows l (n + 1) (r ++ cs)
end
theorem ShPs.length : ∀ {l : List Sh} {ds : List DV}, ShPs l ds → ds.length = l.length
  | _, _, .nil => rfl
  | _, _, .cons _ hs => by simp only [List.length_cons, hs.length]
theorem ShPs.append : ∀ {l l' : List Sh} {ds ds' : List DV}, ShPs l ds → ShPs l' ds' → ShPs (l ++ l') (ds ++ ds')
  | _, _, _, _, .nil, h' => h'
  | _, _, _, _, .cons h hs, h' => .cons h (hs.append h')
theorem ShRows.length {l : List Sh} : ∀ {n : Nat} {cs : List DV}, ShRows l n cs → cs.length = n * l.length
  | _, _, .nil _ => by simp
  | _, _, .cons h hs => by rw [List.length_append, h.length, hs.length, Nat.succ_mul, Nat.add_comm]
theorem DWs.append {w : World} {l l' : List DV} {vs vs' : List Value} (h : DWs w l vs) (h' : DWs w l' vs') : DWs w (l ++ l') (vs ++ vs') := by
  cases h with
  | nil => exact h'
  | cons h hs => exact .cons h (hs.append h')
section
variable {H : Type} {enc : TypeId × Value → H} {P : Program} {w : World} {base : Nat} {spare : Nat → Bool} {held : Bool}
theorem cells?_get {a : Addr} {n : Nat} {cs : List Value} (h : w.cells? base a n = some cs) : cs.length = n ∧ ∀ (i : Nat) v, cs[i]? = some v → w.cell? (a.add i) = some v := by
  unfold World.cells? at h
  split at h
  · have hl := mapM_some_length h
    simp at hl
    refine ⟨hl, fun i v e => ?_⟩
    have hi : i < n := by
      rcases Nat.lt_or_ge i cs.length with hx | hx
      · omega
      · rw [List.getElem?_eq_none hx] at e; cases e
    have := mapM_some_get h i i (by simp [hi])
    rw [this, e]
  · cases h
theorem cell_path {a : Addr} {v : Value} (h : w.cell? a = some v) : a.block < w.heap.size := by
  rcases Nat.lt_or_ge a.block w.heap.size with hx | hx
  · exact hx
  · unfold World.cell? at h
    rw [Array.getElem?_eq_none hx] at h
    simp at h
theorem read_rows {a : Addr} {e : TypeId} {l : List Sh} {fuel : Nat} (hc : P.cellsOf e = l.length)
    (hr : ∀ (cs : List Value) (x : DataW H × List MemPlace), DataW.trod enc P w base spare held fuel e cs = some x → ∃ ds, DWs w ds cs ∧ ShPs l ds) : ∀ (n i : Nat),
    (∀ j, i ≤ j → j < i + n → ((w.cells? base (a.add (j * P.cellsOf e)) (P.cellsOf e)).bind (DataW.trod enc P w base spare held fuel e)).isSome = true) →
    ∃ (ds : List DV) (vs : List Value), (∀ (j : Nat) v, vs[j]? = some v → w.cell? (a.add (i * l.length + j)) = some v) ∧ DWs w ds vs ∧ ShRows l n ds
  | 0, i, _ => ⟨[], [], fun j v e => by simp at e, .nil, .nil l⟩
  | n + 1, i, h => by
    have h0 := h i (Nat.le_refl _) (by omega)
    rw [Option.isSome_iff_exists] at h0
    obtain ⟨x, h0⟩ := h0
    simp only [Option.bind_eq_some_iff] at h0
    obtain ⟨cs, k1, k2⟩ := h0
    obtain ⟨ds, k3, k4⟩ := hr cs x k2
    obtain ⟨kl, kc⟩ := cells?_get k1
    obtain ⟨ds', vs', g1, g2, g3⟩ := read_rows hc hr n (i + 1) (fun j hj hj' => h j (by omega) (by omega))
    refine ⟨ds ++ ds', cs ++ vs', fun j v e => ?_, k3.append g2, .cons k4 g3⟩
    rcases Nat.lt_or_ge j cs.length with hx | hx
    · rw [List.getElem?_append_left hx] at e
      have := kc j v e
      rw [hc] at this
      have e3 : (a.add (i * l.length)).add j = a.add (i * l.length + j) := by
        unfold Addr.add
        split <;> split <;> simp_all <;> omega
      rw [e3] at this
      exact this
    · rw [List.getElem?_append_right hx] at e
      have := g1 _ v e
      rw [Nat.succ_mul, show i * l.length + l.length + (j - cs.length) = i * l.length + j by omega] at this
      exact this
theorem cell_spot {a : Addr} {v : Value} (h : w.cell? a = some v) : a.spot = none := by
  unfold World.cell? at h
  cases hs : a.spot with
  | none => rfl
  | some x =>
    rw [hs] at h
    split at h <;> simp at h
theorem open_slT {t e : TypeId} {l : List Sh} (hu : P.underlying t = some (.slice e)) (hc : P.cellsOf e = l.length) (h0 : l.length ≠ 0) (hs : l.length < 4096)
    (hr : ∀ (fuel : Nat) (cs : List Value) (x : DataW H × List MemPlace), DataW.trod enc P w base (fun _ => true) held fuel e cs = some x → ∃ ds, DWs w ds cs ∧ ShPs l ds)
    {fuel : Nat} {cs : List Value} {x : DataW H × List MemPlace} (h : DataW.trod enc P w base (fun _ => true) held fuel t cs = some x) : ∃ ds, DWs w ds cs ∧ ShPs [.sl l] ds := by
  rcases DataW.trod_slice hu h with ⟨rfl, _⟩ | ⟨a, len, cap, elems, rest, n, rfl, rfl, -, -, hle, hmax, hlen, hel, hrest, -⟩
  · exact ⟨[.v (.slice none 0 0)], .cons (.v rfl) .nil, .cons (.nil l) .nil⟩
  · obtain ⟨ds, vs, k1, k2, k3⟩ := read_rows (a := a) hc (hr n) len 0 (fun j _ hj => by rw [hel j (by omega)]; simp; omega)
    have hsh : ShPs [.sl l] [DV.lst l.length len ds] := .cons (.sl k3 (by omega) hs) .nil
    by_cases hcap : cap = 0
    · subst hcap
      have : len = 0 := by omega
      subst this
      have hd : ds = [] := by cases k3; rfl
      subst hd
      exact ⟨_, .cons (.emp _ a hs) .nil, hsh⟩
    · have hfirst : ∃ v, w.cell? (a.add (0 * P.cellsOf e)) = some v := by
        have : ∃ x, ((w.cells? base (a.add (0 * P.cellsOf e)) (P.cellsOf e)).bind (DataW.trod enc P w base (fun _ => true) held n e)) = some x := by
          by_cases hl : 0 < len
          · rw [hel 0 hl]; exact ⟨elems[0], by simp⟩
          · obtain ⟨hr1, hr2⟩ := hrest rfl
            have := hr2 0 (by omega)
            have e0 : len = 0 := by omega
            subst e0
            simp only [Nat.zero_add] at this
            rw [this]; exact ⟨rest[0], by simp⟩
        obtain ⟨x, hx⟩ := this
        simp only [Option.bind_eq_some_iff] at hx
        obtain ⟨cs, k1, _⟩ := hx
        obtain ⟨kl, kc⟩ := cells?_get k1
        have h0' : 0 < cs.length := by omega
        refine ⟨cs[0], ?_⟩
        have := kc 0 cs[0] (by simp)
        simpa [Addr.add] using this
      obtain ⟨v0, hv0⟩ := hfirst
      rw [Nat.zero_mul, show a.add 0 = a from rfl] at hv0
      have hsp := cell_spot hv0
      have hb := cell_path hv0
      obtain ⟨b, off, spot⟩ := a
      simp only at hsp hb
      subst hsp
      refine ⟨_, .cons (.lst hb (by rw [k3.length]) hle hs (fun j v e => ?_) k2) .nil, hsh⟩
      have := k1 j v e
      rw [Nat.zero_mul, Nat.zero_add] at this
      have e2 : (⟨b, off, none⟩ : Addr).add j = ⟨b, off + j, none⟩ := by
        unfold Addr.add; split
        · rename_i h; subst h; rfl
        · rfl
      rw [e2] at this; exact this
mutual
theorem open_typ : ∀ {t : TypeId} {l : List Sh}, Typ P t l → ∀ (fuel : Nat) (cs : List Value) (x : DataW H × List MemPlace), DataW.trod enc P w base (fun _ => true) held fuel t cs = some x → ∃ ds, DWs w ds cs ∧ ShPs l ds
  | _, _, .bool hu, fuel, cs, x, h => by
    obtain ⟨b, rfl, -⟩ := DataW.trod_bool hu h
    exact ⟨_, .cons (.v rfl) .nil, .cons (.bool b) .nil⟩
  | _, _, .int hu, fuel, cs, x, h => by
    obtain ⟨n, rfl, -, hw⟩ := DataW.trod_int hu h
    simp only [Lit.wf, Bool.and_eq_true, decide_eq_true_eq] at hw
    exact ⟨_, .cons (.v rfl) .nil, .cons (.int n hw.1 hw.2) .nil⟩
  | _, _, .str hu, fuel, cs, x, h => by
    obtain ⟨s, rfl, -, hs⟩ := DataW.trod_string hu h
    exact ⟨_, .cons (.v rfl) .nil, .cons (.str s hs) .nil⟩
  | _, _, .sl hu he hc h0 hs, fuel, cs, x, h => open_slT hu hc h0 hs (open_typ he) h
  | _, _, .struct (l := l) hu hf hc, fuel, cs, x, h => by
    obtain ⟨xs, n, rfl, rfl, hl, hn, hx⟩ := DataW.trod_struct hu h
    obtain ⟨ds, k1, k2⟩ := open_fs hf n cs (fun i f e => by
      rw [hx i f (by simpa using e)]
      have hi : i < xs.length := by
        rw [hn]
        rcases Nat.lt_or_ge i _ with h' | h'
        · exact h'
        · rw [List.getElem?_eq_none (by simpa using h')] at e; cases e
      exact ⟨xs[i], by simp⟩) (by rw [hl, hc]; omega)
    rw [List.drop_zero, List.take_of_length_le (by rw [hl, hc]; exact Nat.le_refl _)] at k1
    exact ⟨ds, k1, k2⟩
theorem open_fs : ∀ {fs : List Field} {n : Nat} {l : List Sh}, TypFs P fs n l → ∀ (fuel : Nat) (cs : List Value),
    (∀ (i : Nat) f, fs[i]? = some f → ∃ x, DataW.trod enc P w base (fun _ => true) held fuel f.type ((cs.drop f.offset).take (P.cellsOf f.type)) = some x) → n + l.length ≤ cs.length →
    ∃ ds, DWs w ds ((cs.drop n).take l.length) ∧ ShPs l ds
  | _, _, _, .nil, fuel, cs, _, _ => ⟨[], by simp; exact .nil, .nil⟩
  | _, _, _, .cons (l := l) (l' := l') ho ht hc hs, fuel, cs, h, hl => by
    obtain ⟨x, hx⟩ := h 0 _ rfl
    rw [ho, hc] at hx
    obtain ⟨d1, k1, k2⟩ := open_typ ht fuel _ x hx
    rw [List.length_append] at hl
    obtain ⟨d2, g1, g2⟩ := open_fs hs fuel cs (fun i f e => h (i + 1) f e) (by omega)
    refine ⟨d1 ++ d2, ?_, k2.append g2⟩
    rw [List.length_append, List.take_add, List.drop_drop]
    exact k1.append g1
end
def oneT : Option TypeDesc → Bool
  | some .bool => true
  | some (.int _) => true
  | some .string => true
  | some (.slice _) => true
  | _ => false
theorem open_one {W0 : World} {b0 : Nat} {t : TypeId} {s : Sh} {v : Value} {d : DataW H} {p : List MemPlace} (hT : Typ P t [s]) (hu : oneT (P.underlying t) = true) (hv : Value.okWide P W0 .any b0 t v)
    (h : DataW.Trod enc P w base (fun _ => true) held t v d p) : ∃ ds, DW w ds v ∧ ShP s ds := by
  obtain ⟨fuel, h⟩ := h
  obtain ⟨ds, k1, k2⟩ := open_typ hT fuel _ _ h
  have hna : ∀ cs, v ≠ .agg cs := by
    intro cs e
    subst e
    unfold Value.okWide at hv
    unfold oneT at hu
    split at hu <;> rename_i hq <;> first | (cases hu; done) | (rw [hq] at hv; simp [Cell.okWide, Cell.ok, hq] at hv)
  have hc : v.cells.toList = [v] := by
    unfold Value.cells
    split
    · exact absurd rfl (hna _)
    · rfl
  rw [hc] at k1
  cases k2 with
  | cons k2 k3 =>
    cases k1 with
    | cons k1 _ => exact ⟨_, k1, k2⟩
theorem open_agg {W0 : World} {b0 : Nat} {t : TypeId} {l : List Sh} {fs : Array Field} {v : Value} {d : DataW H} {p : List MemPlace} (hT : Typ P t l) (hu : P.underlying t = some (.struct fs)) (hv : Value.okWide P W0 .any b0 t v)
    (h : DataW.Trod enc P w base (fun _ => true) held t v d p) : ∃ ds, DW w (.agg ds) v ∧ ShPs l ds := by
  obtain ⟨fuel, h⟩ := h
  obtain ⟨ds, k1, k2⟩ := open_typ hT fuel _ _ h
  unfold Value.okWide at hv
  rw [hu] at hv
  obtain ⟨cs, rfl, _, _⟩ := hv
  exact ⟨ds, .agg k1, k2⟩
end
end Go.Am
end

section
namespace Go.Pm
open Go.RowKit Go.Am
mutual
def pvD : Sh → DV → PV
  | .sl l, .v _ => .lst .no l.length 0 []
  | .sl l, .lst es n cs => .lst .no es n (pvC l l cs)
  | _, .v x => .v x
  | _, _ => .junk
def pvC : List Sh → List Sh → List DV → List PV
  | _, _, [] => []
  | l, [], d :: ds => match l with
    | [] => []
    | s :: r => pvD s d :: pvC l r ds
  | l, s :: r, d :: ds => pvD s d :: pvC l r ds
end
def pvs : List Sh → List DV → List PV
  | [], _ => []
  | _, [] => []
  | s :: r, d :: ds => pvD s d :: pvs r ds
theorem pvC_app (l : List Sh) : ∀ (r : List Sh) (a b : List DV), a.length = r.length → pvC l r (a ++ b) = pvs r a ++ pvC l [] b
  | [], [], b, _ => rfl
  | s :: r, d :: a, b, h => by
    simp only [List.cons_append, pvC, pvs]
    rw [pvC_app l r a b (by simpa using h)]
theorem pvC_nil (l : List Sh) (h : l ≠ []) (ds : List DV) : pvC l [] ds = pvC l l ds := by
  cases l with
  | nil => exact absurd rfl h
  | cons s r => cases ds <;> simp [pvC]
def Holds (cx : Cx) (ng : Nat) (R : List (List Value × Nat)) : Prop := ∀ (i : Nat) vs es, R[i]? = some (vs, es) → cx.role (ng + i) = .im vs
theorem Holds.left {cx : Cx} {ng : Nat} {R Y : List (List Value × Nat)} (h : Holds cx ng (R ++ Y)) : Holds cx ng R := fun i vs es e => h i vs es (by
  rw [List.getElem?_append_left]
  · exact e
  · rcases Nat.lt_or_ge i R.length with hx | hx
    · exact hx
    · rw [List.getElem?_eq_none hx] at e; cases e)
mutual
theorem lay_grow (ng : Nat) : ∀ (d : DV) (R : List (List Value × Nat)), ∃ Y, (lay ng d R).2 = R ++ Y
  | .v x, R => ⟨[], by simp [lay]⟩
  | .lst es k cs, R => by
    obtain ⟨Y, hY⟩ := lays_grow ng cs R
    exact ⟨Y ++ [((lays ng cs R).1, es)], by simp only [lay]; rw [hY, List.append_assoc]⟩
  | .agg cs, R => by
    obtain ⟨Y, hY⟩ := lays_grow ng cs R
    exact ⟨Y, by simp only [lay]; exact hY⟩
theorem lays_grow (ng : Nat) : ∀ (ds : List DV) (R : List (List Value × Nat)), ∃ Y, (lays ng ds R).2 = R ++ Y
  | [], R => ⟨[], by simp [lays]⟩
  | d :: ds, R => by
    obtain ⟨Y, hY⟩ := lay_grow ng d R
    obtain ⟨Y', hY'⟩ := lays_grow ng ds (lay ng d R).2
    exact ⟨Y ++ Y', by simp only [lays]; rw [hY', hY, List.append_assoc]⟩
end
theorem lays_app (ng : Nat) : ∀ (a b : List DV) (R : List (List Value × Nat)), lays ng (a ++ b) R = ((lays ng a R).1 ++ (lays ng b (lays ng a R).2).1, (lays ng b (lays ng a R).2).2)
  | [], b, R => by simp [lays]
  | d :: a, b, R => by
    simp only [List.cons_append, lays]
    rw [lays_app ng a b]
theorem lays_len (ng : Nat) : ∀ (a : List DV) (R : List (List Value × Nat)), (lays ng a R).1.length = a.length
  | [], R => by simp [lays]
  | d :: a, R => by simp only [lays, List.length_cons]; rw [lays_len ng a]
mutual
theorem lay_pr {cx : Cx} (ng : Nat) : ∀ {s : Sh} {d : DV}, ShP s d → ∀ R, Holds cx ng (lay ng d R).2 → PR cx (pvD s d) (lay ng d R).1
  | _, _, .bool b, R, _ => by simp only [lay, pvD]; exact .v rfl
  | _, _, .int n _ _, R, _ => by simp only [lay, pvD]; exact .v rfl
  | _, _, .str s _, R, _ => by simp only [lay, pvD]; exact .v rfl
  | _, _, .nil l, R, _ => by simp only [lay, pvD]; exact .l0 _ none 0 (.inl rfl)
  | _, _, .sl (l := l) (n := n) (cs := cs) h hn hl, R, hH => by
    simp only [lay] at hH ⊢
    have hrole := hH (lays ng cs R).2.length (lays ng cs R).1 l.length (by simp)
    obtain ⟨k1, k2⟩ := lay_rows ng h R hH.left
    simp only [pvD]
    have hlen : (pvC l l cs).length = (lays ng cs R).1.length := k1.length
    refine .lno hrole (by rw [hlen, Nat.zero_add]; exact Nat.le_refl _) ?_ ?_ (by rw [capOf_lo' _ _ hl]; exact Nat.le_refl _) (.inr (esOf_lo _ _ hl))
    · rw [List.drop_zero, List.take_of_length_le (by rw [hlen]; exact Nat.le_refl _)]; exact k1
    · rw [hlen, lays_len, h.length]
theorem lay_prs {cx : Cx} (ng : Nat) : ∀ {l : List Sh} {ds : List DV}, ShPs l ds → ∀ R, Holds cx ng (lays ng ds R).2 → PRs cx (pvs l ds) (lays ng ds R).1
  | _, _, .nil, R, _ => by simp only [lays, pvs]; exact .nil
  | _, _, .cons (d := d) (l' := ds) h hs, R, hH => by
    simp only [lays] at hH ⊢
    obtain ⟨Y, hY⟩ := lays_grow ng ds (lay ng d R).2
    refine .cons (lay_pr ng h R ?_) (lay_prs ng hs _ hH)
    rw [hY] at hH
    exact hH.left
theorem lay_rows {cx : Cx} (ng : Nat) : ∀ {l : List Sh} {n : Nat} {cs : List DV}, ShRows l n cs → ∀ R, Holds cx ng (lays ng cs R).2 → PRs cx (pvC l l cs) (lays ng cs R).1 ∧ True
  | _, _, _, .nil l, R, _ => by
    refine ⟨?_, trivial⟩
    have : pvC l l [] = [] := by cases l <;> rfl
    rw [this]; simp only [lays]; exact .nil
  | _, _, _, .cons (l := l) (r := r) (cs := cs) h hs, R, hH => by
    refine ⟨?_, trivial⟩
    rw [lays_app] at hH ⊢
    simp only at hH ⊢
    obtain ⟨Y, hY⟩ := lays_grow ng cs (lays ng r R).2
    have h1 := lay_prs (cx := cx) ng h R (by rw [hY] at hH; exact hH.left)
    have h2 := (lay_rows (cx := cx) ng hs _ hH).1
    have e : pvC l l (r ++ cs) = pvs l r ++ pvC l l cs := by
      rw [pvC_app l l r cs h.length]
      by_cases hl : l = []
      · subst hl
        cases cs with
        | nil => rfl
        | cons c cs => rfl
      · rw [pvC_nil l hl]
    rw [e]
    exact h1.append h2
end
def cxR (ng : Nat) (R : List (List Value × Nat)) : Cx where
  at_ := fun k i => if k = 0 ∧ i < ng then some i else none
  role := fun r => if r < ng then .ob 0 r else match R[r - ng]? with
    | some (vs, _) => .im vs
    | none => .none
  tk := fun _ _ => none
  nk := 1
theorem cxR_holds (ng : Nat) (R : List (List Value × Nat)) : Holds (cxR ng R) ng R := fun i vs es e => by
  unfold cxR
  dsimp only
  rw [if_neg (by omega), Nat.add_sub_cancel_left, e]
theorem memR_at {ng : Nat} {R : List (List Value × Nat)} {i : Nat} {vs : List Value} {es : Nat} (h : R[i]? = some (vs, es)) : (memR ng R).get (ng + i) = some (.row vs .ro es none) := by
  have hi : i < R.length := by
    rcases Nat.lt_or_ge i R.length with hx | hx
    · exact hx
    · rw [List.getElem?_eq_none hx] at h; cases h
  rw [Mem.get_def]
  unfold memR
  dsimp only
  have h1 : Nat.blt (ng + i) (ng + R.length) = true := by rw [Nat.blt_eq]; omega
  have h2 : Nat.blt (ng + i) ng = false := by
    cases e : Nat.blt (ng + i) ng with
    | false => rfl
    | true => rw [Nat.blt_eq] at e; omega
  rw [h1, cond_true, h2]
  dsimp only
  rw [show Nat.sub (ng + i) ng = i from Nat.add_sub_cancel_left ng i, nthK_map, h]
theorem cxR_pg {E : Env} {R : List (List Value × Nat)} (hw : Wf (memR E.ng R)) : PG E (cxR E.ng R) (fun _ _ => none) (memR E.ng R) where
  obj := fun k i o h => by cases h
  at_ := fun k i r h => by
    unfold cxR at h ⊢
    dsimp only at h ⊢
    split at h
    · rename_i hc
      obtain ⟨hk, hi⟩ := hc
      subst hk
      cases h
      refine ⟨?_, ?_⟩
      · show i < E.ng + R.length; omega
      · exact .inl (if_pos hi)
    · cases h
  nd := fun k i o r h => by cases h
  dd := fun r h => by
    unfold cxR at h
    dsimp only at h
    split at h
    · cases h
    · split at h <;> cases h
  im := fun r cells h => by
    unfold cxR at h
    dsimp only at h
    split at h
    · cases h
    · rename_i hr
      split at h
      · rename_i vs es he
        cases h
        refine ⟨?_, .ro, es, none, ?_⟩
        · show r < E.ng + R.length
          rcases Nat.lt_or_ge (r - E.ng) R.length with hx | hx
          · omega
          · rw [List.getElem?_eq_none hx] at he; cases he
        · have := memR_at (ng := E.ng) he
          rwa [show E.ng + (r - E.ng) = r by omega] at this
      · cases h
  mks := fun r h => by
    unfold cxR at h
    dsimp only at h
    split at h
    · cases h
    · split at h <;> cases h
  keys := fun k i hk => by
    unfold cxR at hk ⊢
    dsimp only at hk ⊢
    exact ⟨if_neg (by omega), rfl⟩
  tkin := fun k i k' i' r n es n' es' h => by cases h
  glob := fun g hg => by
    unfold cxR
    dsimp only
    exact if_pos ⟨rfl, hg⟩
  wf := hw
  pos := Nat.zero_lt_one
theorem law_calls {E : Env} {P : Program} {f : Nat} {x : Fun} {ds : List DV} {args : List PV} {vargs : List Value} {W : World} {v : Bool} (hE : EnvOk E P) (hf : E.fn f = some x) (hW : E.ng ≤ W.heap.size)
    (hd : DWs W ds vargs) (hp : ∀ cx, Holds cx E.ng (lays E.ng ds []).2 → PRs cx args (lays E.ng ds []).1)
    (h : PT E P f args (fun _ _ => none) (fun x _ => x = .v (.bool v))) :
    Calls P f vargs.toArray W fun e W' => e = .returned (.bool v) ∧ (∀ b, b < W.heap.size → W'.heap[b]? = W.heap[b]?) ∧ W.heap.size ≤ W'.heap.size ∧ W'.os = W.os ∧ W'.tape = W.tape ∧ W'.output = W.output := by
  obtain ⟨Y, X, h1, h2, h3, h4⟩ := lays_ok E.ng hd [] [] rfl
  simp only [List.nil_append] at h1 h4
  have hPR := hp (cxR E.ng (lays E.ng ds []).2) (cxR_holds _ _)
  generalize hq : lays E.ng ds [] = q at h1 h4 hPR
  obtain ⟨vs, R⟩ := q
  simp only at h1 h4 hPR
  subst h1
  obtain ⟨k1, k2⟩ := h4 (injR E.ng X) (fun i t e => by
    unfold injR
    rw [if_neg (by omega), Nat.add_sub_cancel_left, e])
  have hrel : Rel E (injR E.ng X) (memR E.ng R) W := relR h2 hW h3 (fun i t cs es e e' => k2 i t cs es e e')
  obtain ⟨v1, m1, cx1, x1, M1, hc, -, -, hpr, rfl⟩ := h _ _ _ (cxR_pg hrel.wf) hPR
  obtain ⟨rfl, -⟩ := hpr.flat_eq
  have hu := hc.ok _ _ _ hrel k1
  rw [callFunc_enter hE hf] at hu
  have hu' : CallsIn Fence.wide 0 P f vargs.toArray W (retOnly (Got E (injR E.ng X) (memR E.ng R) W (.bool v) m1)) := hu
  refine (callsIn_wide.1 hu').mono fun e W' he => ?_
  cases e with
  | returned v' =>
    obtain ⟨ι1, hvr, hst⟩ := he
    cases hvr
    exact ⟨rfl, fun b hb => hst.keep b hb ownR, hst.size, hst.os, hst.tape, hst.output⟩
  | panicked _ => exact he.elim
  | outgrown => exact he.elim
theorem PTp.of_pure {E : Env} {P : Program} {f : Nat} {x : Fun} {v : Value} (hE : EnvOk E P) (hf : E.fn f = some x) (h : PureE P E.ng f [] v) (hv : flat v = true) : PTp E P f [] (.v v) := by
  intro M cx m vargs hpg hargs
  cases hargs
  refine ⟨v, m, cx, .v v, M, ⟨fun ι w args' hR hA => ?_, fun _ => Keep.refl _⟩, hpg, Ext.refl _ _, .v hv, rfl, rfl⟩
  cases hA
  refine (h w [] hR.ng .nil).mono fun v' w1 ⟨e, hb, hs, h1, h2, h3⟩ => ?_
  subst e
  have hR' : Rel E ι m w1 := hR.more hb hs
  exact ⟨ι, VR.flat hv, ⟨Am.Sub.refl _, (fun b t e n => by rw [e] at n; cases n), hR', fun _ _ h => h, fun b hb' _ => hb b hb', hs, Nat.le_refl _, h1, h2, h3⟩⟩
theorem rows_dec {α : Type} {B : α → Prop} {enc : α → List PV} {l : List Sh} (hl : l ≠ []) (hx : ∀ ds, ShPs l ds → ∃ x : α, pvs l ds = enc x ∧ B x) : ∀ {n : Nat} {cs : List DV}, ShRows l n cs → ∃ xs : List α, xs.length = n ∧ pvC l l cs = xs.flatMap enc ∧ ∀ x ∈ xs, B x := by
  intro n
  induction n with
  | zero =>
    intro cs h
    cases h
    refine ⟨[], rfl, ?_, fun x hx => by cases hx⟩
    cases l <;> rfl
  | succ n ih =>
    intro cs h
    cases h with
    | cons h hs =>
      obtain ⟨x, h1, h2⟩ := hx _ h
      obtain ⟨xs, g1, g2, g3⟩ := ih hs
      refine ⟨x :: xs, by rw [List.length_cons, g1], ?_, fun y hy => ?_⟩
      · rw [pvC_app l l _ _ h.length, pvC_nil l hl, h1, g2, List.flatMap_cons]
      · rcases List.mem_cons.1 hy with rfl | hy
        · exact h2
        · exact g3 y hy
theorem sl_dec {α : Type} {B : α → Prop} {enc : α → List PV} {l : List Sh} (hl : l ≠ []) (hx : ∀ ds, ShPs l ds → ∃ x : α, pvs l ds = enc x ∧ B x) {d : DV} (h : ShP (.sl l) d) :
    ∃ xs : List α, pvD (.sl l) d = .lst .no l.length xs.length (xs.flatMap enc) ∧ xs.length ≤ maxLen ∧ ∀ x ∈ xs, B x := by
  cases h with
  | nil => exact ⟨[], by simp only [pvD]; rfl, Nat.zero_le _, fun x hx => by cases hx⟩
  | sl h hn _ =>
    obtain ⟨xs, g1, g2, g3⟩ := rows_dec hl hx h
    subst g1
    exact ⟨xs, by simp only [pvD]; rw [g2], hn, g3⟩
theorem int_dec {k : IntKind} {d : DV} (h : ShP (.int k) d) : ∃ n : Int, pvD (.int k) d = .v (.int k n) ∧ k.min ≤ n ∧ n ≤ k.max := by
  cases h with
  | int n h1 h2 => exact ⟨n, by simp only [pvD], h1, h2⟩
theorem str_dec {d : DV} (h : ShP .str d) : ∃ s : ByteArray, pvD .str d = .v (.string s) ∧ s.size ≤ maxLen := by
  cases h with
  | str s h => exact ⟨s, by simp only [pvD], h⟩
theorem pvD_agg {cx : Cx} {ng : Nat} {l : List Sh} {ds : List DV} {R : List (List Value × Nat)} (h : ShPs l ds) (hH : Holds cx ng (lay ng (.agg ds) R).2) : PR cx (.agg (pvs l ds)) (lay ng (.agg ds) R).1 := by
  simp only [lay] at hH ⊢
  exact .agg (lay_prs ng h R hH)
end Go.Pm
end
