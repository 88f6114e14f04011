/- VfsNone: the law returns true, of all arguments of its types, in whatever memory. Part 24 of 29; no condition. -/
import Derived.Test.YtnhhppflnpfehaaGreatDoorM23
import Derived.ChangeArms
section
/- Code in its easy form, printed by a program; the kernel finds that it stands for the code. -/
set_option linter.unusedVariables false
set_option maxRecDepth 100000
namespace Go.Proofs.YtnhhppflnpfehaaGreatDoor
open Go Go.Am Go.Pm

/-! ### tributary/tributarylaw13.VfsNone -/
noncomputable def body3 : Code := match Tryz.f3.body with | some c => c | none => .skip
noncomputable abbrev c3_0 : RC := .ops [oU 1 (rbox (T 0)),
  oV 2 (rmv (.const (.bool false)))]
noncomputable abbrev c3_1 : RC := .ops [oV 8 (rload true 7 (T 1)),
  oU 9 (rbuildL 7 1 [.v (.int .i64 0), .v (.int .i64 0), .v (.string ⟨#[]⟩), .v (.string ⟨#[]⟩), .v (.int .i64 0), .v (.int .i64 0), .lst .full 0 0 []] [(0, (T 8))]),
  oC 10 (.func 4) [(T 9)]]
noncomputable abbrev c3_2 : RC := .ops [oC 11 (.func 5) [],
  oV 2 (rmv (T 11))]
noncomputable abbrev c3_3 : RC := .seq c3_2 .ret
noncomputable abbrev c3_4 : RC := .cond (rX 10) c3_3 .skip
noncomputable abbrev c3_5 : RC := .seq c3_1 c3_4
noncomputable abbrev c3_6 : RC := .ops [oV 12 (rbuild [.lst .full 0 0 [], .v (.map none), .v (.int .i64 0)] [(0, 1), (1, 1), (2, 1)] []),
  oU 13 (rbox (T 12)),
  oU 14 (rbuildL 1 2 [.v (.pointer none), .v (.pointer none)] [(0, (.const (.pointer none))), (1, (T 13))]),
  oV 3 (rmv (T 14))]
noncomputable abbrev c3_7 : RC := .ops [oV 4 (rmv (K 0))]
noncomputable abbrev c3_8 : RC := .ops [oV 15 (rmv (T 4)),
  oV 16 (rmv (T 3)),
  oV 17 (rlen (T 16)),
  oV 18 (rbin env .lss 3 false false (T 15) (T 17))]
noncomputable abbrev c3_9 : RC := .cond (rX 18) .skip (.exit 0)
noncomputable abbrev c3_10 : RC := .seq c3_8 c3_9
noncomputable abbrev c3_11 : RC := .ops [oV 21 (rmv (T 3)),
  oV 22 (rmv (T 4)),
  oV 23 (riaddr 1 (T 21) (T 22)),
  oV 24 (rload false 1 (T 23)),
  oV 5 (rmv (T 24))]
noncomputable abbrev c3_12 : RC := .ops [oV 25 (rmv (T 5)),
  oV 26 (rfaddr 2 (T 1)),
  oV 27 (rload false 1 (T 26)),
  oV 28 (rfaddr 4 (T 1)),
  oV 29 (rfaddr 1 (T 28)),
  oV 30 (rload false 1 (T 29)),
  oV 31 (rfaddr 4 (T 1)),
  oV 32 (rfaddr 2 (T 31)),
  oV 33 (rload false 1 (T 32)),
  oC 34 (.func 6) [(T 25), (T 27), (T 30), (T 33)],
  oV 35 (rbin env .eql 36 false true (T 34) (K 1)),
  oV 36 (rmv (T 35)),
  oG 37 36 true (rmv (T 5)),
  oG 38 36 true (rfaddr 2 (T 1)),
  oG 39 36 true (rload false 1 (T 38)),
  oG 40 36 true (rfaddr 4 (T 1)),
  oG 41 36 true (rfaddr 1 (T 40)),
  oG 42 36 true (rload false 1 (T 41)),
  oCG 43 36 true (.func 7) [(T 37), (T 39), (T 42)],
  oG 44 36 true (rbin env .eql 36 false true (T 43) (K 1)),
  oV 45 (rpick (T 36) (T 44) (.const (.bool false))),
  oV 46 (rmv (T 45)),
  oG 47 46 true (rmv (T 5)),
  oG 48 46 true (rfaddr 2 (T 1)),
  oG 49 46 true (rload false 1 (T 48)),
  oG 50 46 true (rfaddr 4 (T 1)),
  oG 51 46 true (rfaddr 1 (T 50)),
  oG 52 46 true (rload false 1 (T 51)),
  oCG 53 46 true (.func 8) [(T 47), (T 49), (T 52)],
  oG 54 46 true (rbin env .eql 36 false true (T 53) (K 1)),
  oV 55 (rpick (T 46) (T 54) (.const (.bool false))),
  oV 6 (rmv (T 55))]
noncomputable abbrev c3_13 : RC := .ops [oV 56 (rmv (T 5)),
  oV 57 (rfaddr 2 (T 1)),
  oV 58 (rload false 1 (T 57)),
  oC 59 (.func 9) [(T 56), (T 58)],
  oV 60 (rbin env .eql 36 false true (T 59) (K 1)),
  oV 61 (rmv (T 60)),
  oG 62 61 true (rmv (T 5)),
  oG 63 61 true (rfaddr 2 (T 1)),
  oG 64 61 true (rload false 1 (T 63)),
  oG 65 61 true (rfaddr 3 (T 1)),
  oG 66 61 true (rload false 1 (T 65)),
  oCG 67 61 true (.func 10) [(T 62), (T 64), (T 66)],
  oG 68 61 true (rbin env .eql 36 false true (T 67) (K 1)),
  oV 69 (rpick (T 61) (T 68) (.const (.bool false))),
  oV 70 (rmv (T 69)),
  oG 71 70 true (rmv (T 5)),
  oG 72 70 true (rfaddr 2 (T 1)),
  oG 73 70 true (rload false 1 (T 72)),
  oG 74 70 true (rfaddr 4 (T 1)),
  oG 75 70 true (rload true 3 (T 74)),
  oG 76 70 true (rfaddr 1 (T 1)),
  oG 77 70 true (rload false 1 (T 76)),
  oCG 78 70 true (.func 11) [(T 71), (T 73), (T 75), (T 77)],
  oG 79 70 true (rbin env .eql 36 false true (T 78) (K 1)),
  oV 80 (rpick (T 70) (T 79) (.const (.bool false))),
  oV 7 (rmv (T 80))]
noncomputable abbrev c3_14 : RC := .ops [oV 81 (rmv (T 6)),
  oV 82 (run' .not (T 81)),
  oV 83 (rmv (T 82)),
  oG 84 83 false (rmv (T 7)),
  oG 85 83 false (run' .not (T 84)),
  oV 86 (rpick (T 83) (.const (.bool true)) (T 85)),
  oV 87 (rmv (T 86)),
  oG 88 87 false (rmv (T 5)),
  oCG 89 87 false (.func 12) [(T 88)],
  oG 90 87 false (rlen (T 89)),
  oG 91 87 false (rbin env .gtr 3 false true (T 90) (K 0)),
  oV 92 (rpick (T 87) (.const (.bool true)) (T 91)),
  oV 93 (rmv (T 92)),
  oG 94 93 false (rmv (T 5)),
  oG 95 93 false (rfaddr 2 (T 1)),
  oG 96 93 false (rload false 1 (T 95)),
  oCG 97 93 false (.func 13) [(T 94), (T 96)],
  oG 98 93 false (rbin env .neq 3 false true (T 97) (K 0)),
  oV 99 (rpick (T 93) (.const (.bool true)) (T 98)),
  oV 100 (rmv (T 99)),
  oG 101 100 false (rmv (T 5)),
  oCG 102 100 false (.func 14) [(T 101)],
  oG 103 100 false (rbin env .neq 3 false true (T 102) (K 0)),
  oV 104 (rpick (T 100) (.const (.bool true)) (T 103))]
noncomputable abbrev c3_15 : RC := .ops [oV 2 (rmv (.const (.bool false)))]
noncomputable abbrev c3_16 : RC := .seq c3_15 .ret
noncomputable abbrev c3_17 : RC := .cond (rX 104) c3_16 .skip
noncomputable abbrev c3_18 : RC := .seq c3_14 c3_17
noncomputable abbrev c3_19 : RC := .seq c3_13 c3_18
noncomputable abbrev c3_20 : RC := .seq c3_12 c3_19
noncomputable abbrev c3_21 : RC := .seq c3_11 c3_20
noncomputable abbrev c3_22 : RC := .block 1 c3_21
noncomputable abbrev c3_23 : RC := .ops [oV 19 (rmv (T 4)),
  oV 20 (rbin env .add 3 false true (T 19) (K 1)),
  oV 4 (rmv (T 20))]
noncomputable abbrev c3_24 : RC := .seq c3_22 c3_23
noncomputable abbrev c3_25 : RC := .seq c3_10 c3_24
noncomputable abbrev c3_26 : RC := .loop c3_25
noncomputable abbrev c3_27 : RC := .block 0 c3_26
noncomputable abbrev c3_28 : RC := .seq c3_7 c3_27
noncomputable abbrev c3_29 : RC := .ops [oC 105 (.func 5) [],
  oV 2 (rmv (T 105))]
noncomputable abbrev c3_30 : RC := .seq c3_29 .ret
noncomputable abbrev c3_31 : RC := .seq c3_28 c3_30
noncomputable abbrev c3_32 : RC := .seq c3_6 c3_31
noncomputable abbrev c3_33 : RC := .seq c3_5 c3_32
noncomputable abbrev c3_34 : RC := .seq c3_0 c3_33
theorem fn3 : env.fn 3 = some ⟨106, [.tmp 2], body3⟩ := by kernel_rfl
theorem comp3 : comp env body3 = c3_34 := by kernel_rfl

/-! ### tributary/tributarylaw13.Long -/
noncomputable def body4 : Code := match Tryz.f4.body with | some c => c | none => .skip
noncomputable abbrev c4_0 : RC := .ops [oV 2 (rmv (.const (.bool false)))]
noncomputable abbrev c4_1 : RC := .ops [oV 3 (rmv (K 0))]
noncomputable abbrev c4_2 : RC := .ops [oV 4 (rmv (T 3)),
  oV 5 (rmv (T 0)),
  oV 6 (rlen (T 5)),
  oV 7 (rbin env .lss 3 false false (T 4) (T 6)),
  oV 8 (rmv (T 7)),
  oG 9 8 true (rmv (T 3)),
  oG 10 8 true (rbin env .lss 3 false true (T 9) (K 61)),
  oV 11 (rpick (T 8) (T 10) (.const (.bool false)))]
noncomputable abbrev c4_3 : RC := .cond (rX 11) .skip (.exit 0)
noncomputable abbrev c4_4 : RC := .seq c4_2 c4_3
noncomputable abbrev c4_5 : RC := .ops [oV 14 (rmv (T 0)),
  oV 15 (rmv (T 3)),
  oV 16 (riaddr 7 (T 14) (T 15)),
  oV 17 (rfaddr 2 (T 16)),
  oV 18 (rload false 1 (T 17)),
  oV 19 (rlenS (T 18)),
  oV 20 (rbin env .gtr 3 false true (T 19) (K 100)),
  oV 21 (rmv (T 20)),
  oG 22 21 false (rmv (T 0)),
  oG 23 21 false (rmv (T 3)),
  oG 24 21 false (riaddr 7 (T 22) (T 23)),
  oG 25 21 false (rfaddr 3 (T 24)),
  oG 26 21 false (rload false 1 (T 25)),
  oG 27 21 false (rlenS (T 26)),
  oG 28 21 false (rbin env .gtr 3 false true (T 27) (K 100)),
  oV 29 (rpick (T 21) (.const (.bool true)) (T 28)),
  oV 30 (rmv (T 29)),
  oG 31 30 false (rmv (T 0)),
  oG 32 30 false (rmv (T 3)),
  oG 33 30 false (riaddr 7 (T 31) (T 32)),
  oG 34 30 false (rfaddr 4 (T 33)),
  oG 35 30 false (rload true 3 (T 34)),
  oCG 36 30 false (.func 15) [(T 35)],
  oV 37 (rpick (T 30) (.const (.bool true)) (T 36))]
noncomputable abbrev c4_6 : RC := .ops [oV 2 (rmv (.const (.bool true)))]
noncomputable abbrev c4_7 : RC := .seq c4_6 .ret
noncomputable abbrev c4_8 : RC := .cond (rX 37) c4_7 .skip
noncomputable abbrev c4_9 : RC := .seq c4_5 c4_8
noncomputable abbrev c4_10 : RC := .block 1 c4_9
noncomputable abbrev c4_11 : RC := .ops [oV 12 (rmv (T 3)),
  oV 13 (rbin env .add 3 false true (T 12) (K 1)),
  oV 3 (rmv (T 13))]
noncomputable abbrev c4_12 : RC := .seq c4_10 c4_11
noncomputable abbrev c4_13 : RC := .seq c4_4 c4_12
noncomputable abbrev c4_14 : RC := .loop c4_13
noncomputable abbrev c4_15 : RC := .block 0 c4_14
noncomputable abbrev c4_16 : RC := .seq c4_1 c4_15
noncomputable abbrev c4_17 : RC := .ops [oV 38 (rmv (T 0)),
  oV 39 (rlen (T 38)),
  oV 40 (rbin env .gtr 3 false true (T 39) (K 60)),
  oV 2 (rmv (T 40))]
noncomputable abbrev c4_18 : RC := .seq c4_17 .ret
noncomputable abbrev c4_19 : RC := .seq c4_16 c4_18
noncomputable abbrev c4_20 : RC := .seq c4_0 c4_19
theorem fn4 : env.fn 4 = some ⟨41, [.tmp 2], body4⟩ := by kernel_rfl
theorem comp4 : comp env body4 = c4_20 := by kernel_rfl

/-! ### tributary/tributarylaw13.awake -/
noncomputable def body5 : Code := match Tryz.f5.body with | some c => c | none => .skip
noncomputable abbrev c5_0 : RC := .ops [oV 0 (rmv (.const (.bool false)))]
noncomputable abbrev c5_1 : RC := .ops [oC 2 (.func 16) [],
  oV 1 (rmv (T 2))]
noncomputable abbrev c5_2 : RC := .ops [oV 3 (rmv (T 1)),
  oV 4 (rbin env .eql 30 false true (T 3) (.const (.pointer none))),
  oV 5 (rmv (T 4)),
  oG 6 5 false (rmv (T 1)),
  oCG 7 5 false (.func 13) [(T 6), (.const (.string ⟨#[97]⟩))],
  oG 8 5 false (rbin env .neq 3 false true (T 7) (K 1)),
  oV 9 (rpick (T 5) (.const (.bool true)) (T 8)),
  oV 10 (rmv (T 9)),
  oG 11 10 false (rmv (T 1)),
  oCG 12 10 false (.func 13) [(T 11), (.const (.string ⟨#[97, 47, 98]⟩))],
  oG 13 10 false (rbin env .neq 3 false true (T 12) (K 2)),
  oV 14 (rpick (T 10) (.const (.bool true)) (T 13)),
  oV 15 (rmv (T 14)),
  oG 16 15 false (rmv (T 1)),
  oCG 17 15 false (.func 14) [(T 16)],
  oG 18 15 false (rbin env .neq 3 false true (T 17) (K 2)),
  oV 19 (rpick (T 15) (.const (.bool true)) (T 18)),
  oV 20 (rmv (T 19)),
  oG 21 20 false (rmv (T 1)),
  oCG 22 20 false (.func 10) [(T 21), (.const (.string ⟨#[97]⟩)), (.const (.string ⟨#[99]⟩))],
  oG 23 20 false (rbin env .neq 36 false true (T 22) (K 0)),
  oV 24 (rpick (T 20) (.const (.bool true)) (T 23))]
noncomputable abbrev c5_3 : RC := .ops [oV 0 (rmv (.const (.bool false)))]
noncomputable abbrev c5_4 : RC := .seq c5_3 .ret
noncomputable abbrev c5_5 : RC := .cond (rX 24) c5_4 .skip
noncomputable abbrev c5_6 : RC := .seq c5_2 c5_5
noncomputable abbrev c5_7 : RC := .ops [oV 25 (rmv (T 1)),
  oC 26 (.func 13) [(T 25), (.const (.string ⟨#[99]⟩))],
  oV 27 (rbin env .eql 3 false true (T 26) (K 3)),
  oV 28 (rmv (T 27)),
  oG 29 28 true (rmv (T 1)),
  oCG 30 28 true (.func 13) [(T 29), (.const (.string ⟨#[99, 47, 98]⟩))],
  oG 31 28 true (rbin env .eql 3 false true (T 30) (K 3)),
  oV 32 (rpick (T 28) (T 31) (.const (.bool false))),
  oV 33 (rmv (T 32)),
  oG 34 33 true (rmv (T 1)),
  oCG 35 33 true (.func 13) [(T 34), (.const (.string ⟨#[97]⟩))],
  oG 36 33 true (rbin env .eql 3 false true (T 35) (K 0)),
  oV 37 (rpick (T 33) (T 36) (.const (.bool false))),
  oV 38 (rmv (T 37)),
  oG 39 38 true (rmv (T 1)),
  oCG 40 38 true (.func 14) [(T 39)],
  oG 41 38 true (rbin env .eql 3 false true (T 40) (K 3)),
  oV 42 (rpick (T 38) (T 41) (.const (.bool false))),
  oV 43 (rmv (T 42)),
  oG 44 43 true (rmv (T 1)),
  oCG 45 43 true (.func 12) [(T 44)],
  oG 46 43 true (rlen (T 45)),
  oG 47 43 true (rbin env .eql 3 false true (T 46) (K 2)),
  oV 48 (rpick (T 43) (T 47) (.const (.bool false))),
  oV 0 (rmv (T 48))]
noncomputable abbrev c5_8 : RC := .seq c5_7 .ret
noncomputable abbrev c5_9 : RC := .seq c5_6 c5_8
noncomputable abbrev c5_10 : RC := .seq c5_1 c5_9
noncomputable abbrev c5_11 : RC := .seq c5_0 c5_10
theorem fn5 : env.fn 5 = some ⟨49, [.tmp 0], body5⟩ := by kernel_rfl
theorem comp5 : comp env body5 = c5_11 := by kernel_rfl

/-! ### (*tributary/vfs.FS).Write -/
noncomputable def body6 : Code := match Tryz.f6.body with | some c => c | none => .skip
noncomputable abbrev c6_0 : RC := .ops [oU 5 (rbox (T 1)),
  oU 6 (rbox (T 2)),
  oU 7 (rbox (T 3)),
  oV 8 (rmv (K 0))]
noncomputable abbrev c6_1 : RC := .ops [oV 9 (rmv (T 0)),
  oV 10 (rfn 18 [] [(T 5), (T 6), (T 7)]),
  oV 11 (rload false 1 (T 5)),
  oC 12 (.func 21) [(T 11)],
  oC 13 (.func 17) [(T 9), (T 10), (T 12)],
  oV 8 (rmv (T 13))]
noncomputable abbrev c6_2 : RC := .seq c6_1 .ret
noncomputable abbrev c6_3 : RC := .seq c6_0 c6_2
theorem fn6 : env.fn 6 = some ⟨14, [.tmp 8], body6⟩ := by kernel_rfl
theorem comp6 : comp env body6 = c6_3 := by kernel_rfl

/-! ### (*tributary/vfs.FS).Mkdir -/
noncomputable def body7 : Code := match Tryz.f7.body with | some c => c | none => .skip
noncomputable abbrev c7_0 : RC := .ops [oU 4 (rbox (T 1)),
  oU 5 (rbox (T 2)),
  oV 6 (rmv (K 0))]
noncomputable abbrev c7_1 : RC := .ops [oV 7 (rmv (T 0)),
  oV 8 (rfn 22 [] [(T 4), (T 5)]),
  oV 9 (rload false 1 (T 4)),
  oC 10 (.func 21) [(T 9)],
  oC 11 (.func 17) [(T 7), (T 8), (T 10)],
  oV 6 (rmv (T 11))]
noncomputable abbrev c7_2 : RC := .seq c7_1 .ret
noncomputable abbrev c7_3 : RC := .seq c7_0 c7_2
theorem fn7 : env.fn 7 = some ⟨12, [.tmp 6], body7⟩ := by kernel_rfl
theorem comp7 : comp env body7 = c7_3 := by kernel_rfl

/-! ### (*tributary/vfs.FS).Chmod -/
noncomputable def body8 : Code := match Tryz.f8.body with | some c => c | none => .skip
noncomputable abbrev c8_0 : RC := .ops [oU 4 (rbox (T 1)),
  oU 5 (rbox (T 2)),
  oV 6 (rmv (K 0))]
noncomputable abbrev c8_1 : RC := .ops [oV 7 (rmv (T 0)),
  oV 8 (rfn 23 [] [(T 4), (T 5)]),
  oV 9 (rload false 1 (T 4)),
  oC 10 (.func 21) [(T 9)],
  oC 11 (.func 17) [(T 7), (T 8), (T 10)],
  oV 6 (rmv (T 11))]
noncomputable abbrev c8_2 : RC := .seq c8_1 .ret
noncomputable abbrev c8_3 : RC := .seq c8_0 c8_2
theorem fn8 : env.fn 8 = some ⟨12, [.tmp 6], body8⟩ := by kernel_rfl
theorem comp8 : comp env body8 = c8_3 := by kernel_rfl

/-! ### (*tributary/vfs.FS).Remove -/
noncomputable def body9 : Code := match Tryz.f9.body with | some c => c | none => .skip
noncomputable abbrev c9_0 : RC := .ops [oU 3 (rbox (T 1)),
  oV 4 (rmv (K 0))]
noncomputable abbrev c9_1 : RC := .ops [oV 5 (rmv (T 0)),
  oV 6 (rfn 24 [] [(T 3)]),
  oV 7 (rload false 1 (T 3)),
  oC 8 (.func 21) [(T 7)],
  oC 9 (.func 17) [(T 5), (T 6), (T 8)],
  oV 4 (rmv (T 9))]
noncomputable abbrev c9_2 : RC := .seq c9_1 .ret
noncomputable abbrev c9_3 : RC := .seq c9_0 c9_2
theorem fn9 : env.fn 9 = some ⟨10, [.tmp 4], body9⟩ := by kernel_rfl
theorem comp9 : comp env body9 = c9_3 := by kernel_rfl

/-! ### (*tributary/vfs.FS).Rename -/
noncomputable def body10 : Code := match Tryz.f10.body with | some c => c | none => .skip
noncomputable abbrev c10_0 : RC := .ops [oU 4 (rbox (T 1)),
  oU 5 (rbox (T 2)),
  oV 6 (rmv (K 0))]
noncomputable abbrev c10_1 : RC := .ops [oV 7 (rmv (T 0)),
  oV 8 (rfn 26 [] [(T 4), (T 5)]),
  oV 9 (rfn 28 [] [(T 5)]),
  oC 10 (.func 17) [(T 7), (T 8), (T 9)],
  oV 6 (rmv (T 10))]
noncomputable abbrev c10_2 : RC := .seq c10_1 .ret
noncomputable abbrev c10_3 : RC := .seq c10_0 c10_2
theorem fn10 : env.fn 10 = some ⟨11, [.tmp 6], body10⟩ := by kernel_rfl
theorem comp10 : comp env body10 = c10_3 := by kernel_rfl

/-! ### (*tributary/vfs.FS).Swap -/
noncomputable def body11 : Code := match Tryz.f11.body with | some c => c | none => .skip
noncomputable abbrev c11_0 : RC := .ops [oU 4 (rbox (T 0)),
  oU 5 (rbox (T 1)),
  oU 6 (rbox (T 2)),
  oU 7 (rbox (T 3)),
  oV 8 (rmv (K 0))]
noncomputable abbrev c11_1 : RC := .ops [oU 9 (rnew [.v (.bool false)]),
  oS (rstore 1 (T 9) (.const (.bool false)))]
noncomputable abbrev c11_2 : RC := .drawn true [dV 11 (rload false 1 (T 4)),
  dV 12 (rfn 30 [] [(T 5), (T 6), (T 4), (T 7), (T 9)]),
  dV 13 (rload false 1 (T 5)),
  dC false 14 (.func 21) [(T 13)],
  dC true 15 (.func 17) [(T 11), (T 12), (T 14)],
  dV 10 (rmv (T 15))]
noncomputable abbrev c11_3 : RC := .ops [oV 16 (rload false 1 (T 9))]
noncomputable abbrev c11_4 : RC := .ops [oV 8 (rmv (K 0))]
noncomputable abbrev c11_5 : RC := .seq c11_4 .ret
noncomputable abbrev c11_6 : RC := .cond (rX 16) c11_5 .skip
noncomputable abbrev c11_7 : RC := .seq c11_3 c11_6
noncomputable abbrev c11_8 : RC := .ops [oV 17 (rmv (T 10)),
  oV 8 (rmv (T 17))]
noncomputable abbrev c11_9 : RC := .seq c11_8 .ret
noncomputable abbrev c11_10 : RC := .seq c11_7 c11_9
noncomputable abbrev c11_11 : RC := .seq c11_2 c11_10
noncomputable abbrev c11_12 : RC := .seq c11_1 c11_11
noncomputable abbrev c11_13 : RC := .seq c11_0 c11_12
theorem fn11 : env.fn 11 = some ⟨18, [.tmp 8], body11⟩ := by kernel_rfl
theorem comp11 : comp env body11 = c11_13 := by kernel_rfl

/-! ### (*tributary/vfs.FS).Tree -/
noncomputable def body12 : Code := match Tryz.f12.body with | some c => c | none => .skip
noncomputable abbrev c12_0 : RC := .ops [oV 2 (rmv (.const (.slice none 0 0)))]
noncomputable abbrev c12_1 : RC := .ops [oV 8 (rmv (T 0)),
  oC 9 (.func 34) [(T 8)]]
noncomputable abbrev c12_2 : RC := .ops [oV 2 (rmv (.const (.slice none 0 0)))]
noncomputable abbrev c12_3 : RC := .seq c12_2 .ret
noncomputable abbrev c12_4 : RC := .cond (rX 9) c12_3 .skip
noncomputable abbrev c12_5 : RC := .seq c12_1 c12_4
noncomputable abbrev c12_6 : RC := .ops [oV 3 (rmv (.const (.slice none 0 0)))]
noncomputable abbrev c12_7 : RC := .ops [oV 10 (rmv (T 0)),
  oV 11 (rnil (T 10)),
  oV 12 (rfaddr 0 (T 11)),
  oV 13 (rload false 1 (T 12)),
  oV 14 (rlen (T 13)),
  oV 15 (rmv (K 0))]
noncomputable abbrev c12_8 : RC := .ops [oV 16 (rbin env .lss 3 false false (T 15) (T 14))]
noncomputable abbrev c12_9 : RC := .cond (rX 16) .skip (.exit 0)
noncomputable abbrev c12_10 : RC := .ops [oV 17 (riaddr 4 (T 13) (T 15)),
  oV 18 (rload true 4 (T 17)),
  oU 5 (rnew [.v (.string ⟨#[]⟩), .v (.int .i64 0), .v (.int .i64 0), .lst .full 0 0 []]),
  oS (rstore 4 (T 5) (T 18))]
noncomputable abbrev c12_11 : RC := .drawn true [dV 20 (rmv (T 0)),
  dV 21 (rnil (T 20)),
  dV 22 (rfaddr 0 (T 21)),
  dV 23 (rload false 1 (T 22)),
  dV 24 (rfaddr 0 (T 5)),
  dV 25 (rload false 1 (T 24)),
  dU 6 (rnew [.v (.int .i64 0), .v (.int .i64 0), .lst .full 0 0 []]),
  dC false 26 (.func 19) [(T 23), (T 25)],
  dV 19 (rmv (T 26)),
  dV 27 (rext (T 19) 0),
  dV 28 (rext (T 19) 1),
  dS (rstore 3 (T 6) (T 27)),
  dV 7 (rmv (T 28))]
noncomputable abbrev c12_12 : RC := .ops [oV 29 (rmv (T 3)),
  oV 30 (rfaddr 0 (T 5)),
  oV 31 (rload false 1 (T 30)),
  oV 32 (rload true 3 (T 6)),
  oV 33 (rbuild [.v (.string ⟨#[]⟩), .v (.int .i64 0), .v (.int .i64 0), .lst .full 0 0 []] [(0, 1), (1, 3)] [(0, (T 31)), (1, (T 32))]),
  oU 34 (rbuildL 4 1 [.v (.string ⟨#[]⟩), .v (.int .i64 0), .v (.int .i64 0), .lst .full 0 0 []] [(0, (T 33))]),
  oA 35 4 56 4 (T 29) (T 34),
  oV 3 (rmv (T 35))]
noncomputable abbrev c12_13 : RC := .seq c12_11 c12_12
noncomputable abbrev c12_14 : RC := .seq c12_10 c12_13
noncomputable abbrev c12_15 : RC := .block 1 c12_14
noncomputable abbrev c12_16 : RC := .ops [oV 36 (rbin env .add 3 false true (T 15) (K 1)),
  oV 15 (rmv (T 36))]
noncomputable abbrev c12_17 : RC := .seq c12_15 c12_16
noncomputable abbrev c12_18 : RC := .seq c12_9 c12_17
noncomputable abbrev c12_19 : RC := .seq c12_8 c12_18
noncomputable abbrev c12_20 : RC := .loop c12_19
noncomputable abbrev c12_21 : RC := .block 0 c12_20
noncomputable abbrev c12_22 : RC := .seq c12_7 c12_21
noncomputable abbrev c12_23 : RC := .ops [oV 37 (rmv (T 3)),
  oV 2 (rmv (T 37))]
noncomputable abbrev c12_24 : RC := .seq c12_23 .ret
noncomputable abbrev c12_25 : RC := .seq c12_22 c12_24
noncomputable abbrev c12_26 : RC := .seq c12_6 c12_25
noncomputable abbrev c12_27 : RC := .seq c12_5 c12_26
noncomputable abbrev c12_28 : RC := .seq c12_0 c12_27
theorem fn12 : env.fn 12 = some ⟨38, [.tmp 2], body12⟩ := by kernel_rfl
theorem comp12 : comp env body12 = c12_28 := by kernel_rfl

/-! ### (*tributary/vfs.FS).Stamp -/
noncomputable def body13 : Code := match Tryz.f13.body with | some c => c | none => .skip
noncomputable abbrev c13_0 : RC := .ops [oV 4 (rmv (K 0))]
noncomputable abbrev c13_1 : RC := .ops [oV 5 (rmv (T 0)),
  oC 6 (.func 34) [(T 5)]]
noncomputable abbrev c13_2 : RC := .ops [oV 4 (rmv (K 0))]
noncomputable abbrev c13_3 : RC := .seq c13_2 .ret
noncomputable abbrev c13_4 : RC := .cond (rX 6) c13_3 .skip
noncomputable abbrev c13_5 : RC := .seq c13_1 c13_4
noncomputable abbrev c13_6 : RC := comp env (subc [1, 1, 0] body13)
noncomputable abbrev c13_7 : RC := .seq c13_6 .ret
noncomputable abbrev c13_8 : RC := .seq c13_5 c13_7
noncomputable abbrev c13_9 : RC := .seq c13_0 c13_8
theorem fn13 : env.fn 13 = some ⟨13, [.tmp 4], body13⟩ := by kernel_rfl
theorem comp13 : comp env body13 = c13_9 := by kernel_rfl

/-! ### (*tributary/vfs.FS).Clock -/
noncomputable def body14 : Code := match Tryz.f14.body with | some c => c | none => .skip
noncomputable abbrev c14_0 : RC := .ops [oV 2 (rmv (K 0))]
noncomputable abbrev c14_1 : RC := .ops [oV 3 (rmv (T 0)),
  oC 4 (.func 34) [(T 3)]]
noncomputable abbrev c14_2 : RC := .ops [oV 2 (rmv (K 0))]
noncomputable abbrev c14_3 : RC := .seq c14_2 .ret
noncomputable abbrev c14_4 : RC := .cond (rX 4) c14_3 .skip
noncomputable abbrev c14_5 : RC := .seq c14_1 c14_4
noncomputable abbrev c14_6 : RC := .ops [oV 5 (rmv (T 0)),
  oV 6 (rnil (T 5)),
  oV 7 (rfaddr 2 (T 6)),
  oV 8 (rload false 1 (T 7)),
  oV 2 (rmv (T 8))]
noncomputable abbrev c14_7 : RC := .seq c14_6 .ret
noncomputable abbrev c14_8 : RC := .seq c14_5 c14_7
noncomputable abbrev c14_9 : RC := .seq c14_0 c14_8
theorem fn14 : env.fn 14 = some ⟨9, [.tmp 2], body14⟩ := by kernel_rfl
theorem comp14 : comp env body14 = c14_9 := by kernel_rfl

/-! ### tributary/tributarykit.LongEffect -/
noncomputable def body15 : Code := match Tryz.f15.body with | some c => c | none => .skip
noncomputable abbrev c15_0 : RC := .ops [oU 1 (rbox (T 0)),
  oV 2 (rmv (.const (.bool false)))]
noncomputable abbrev c15_1 : RC := .ops [oV 3 (rfaddr 2 (T 1)),
  oV 4 (rload false 1 (T 3)),
  oV 5 (rlen (T 4)),
  oV 6 (rbin env .gtr 3 false true (T 5) (K 1200)),
  oV 2 (rmv (T 6))]
noncomputable abbrev c15_2 : RC := .seq c15_1 .ret
noncomputable abbrev c15_3 : RC := .seq c15_0 c15_2
theorem fn15 : env.fn 15 = some ⟨7, [.tmp 2], body15⟩ := by kernel_rfl
theorem comp15 : comp env body15 = c15_3 := by kernel_rfl

/-! ### (*tributary/vfs.FS).change -/
noncomputable def body17 : Code := match Tryz.f17.body with | some c => c | none => .skip
noncomputable abbrev c17_0 : RC := .ops [oV 6 (rmv (K 0))]
noncomputable abbrev c17_1 : RC := .ops [oV 12 (rmv (T 0)),
  oC 13 (.func 34) [(T 12)],
  oV 11 (rmv (T 13))]
noncomputable abbrev c17_2 : RC := .ops [oV 6 (rmv (K 1))]
noncomputable abbrev c17_3 : RC := .seq c17_2 .ret
noncomputable abbrev c17_4 : RC := .ops [oV 15 (rmv (T 0)),
  oV 16 (rnil (T 15)),
  oV 17 (rfaddr 2 (T 16)),
  oV 18 (rload false 1 (T 17)),
  oV 19 (rbin env .geq 3 false true (T 18) (K 1099511627776)),
  oV 14 (rmv (T 19))]
noncomputable abbrev c17_5 : RC := .ops [oV 6 (rmv (K 8))]
noncomputable abbrev c17_6 : RC := .seq c17_5 .ret
noncomputable abbrev c17_7 : RC := .cond (rX 14) c17_6 .skip
noncomputable abbrev c17_8 : RC := .seq c17_4 c17_7
noncomputable abbrev c17_9 : RC := .cond (rX 11) c17_3 c17_8
noncomputable abbrev c17_10 : RC := .seq c17_1 c17_9
noncomputable abbrev c17_11 : RC := .block 0 c17_10
noncomputable abbrev c17_12 : RC := .ops [oV 21 (rmv (T 1)),
  oV 22 (rmv (T 0)),
  oV 23 (rnil (T 22)),
  oV 24 (rfaddr 0 (T 23)),
  oV 25 (rload false 1 (T 24)),
  oC 26 (T 21) [(T 25)],
  oV 20 (rmv (T 26)),
  oV 27 (rext (T 20) 0),
  oV 28 (rext (T 20) 1),
  oU 7 (rnew [.lst .full 0 0 []]),
  oS (rstore 1 (T 7) (T 27)),
  oV 8 (rmv (T 28))]
noncomputable abbrev c17_13 : RC := .ops [oV 29 (rmv (T 8)),
  oV 30 (rbin env .neq 36 false true (T 29) (K 0))]
noncomputable abbrev c17_14 : RC := .ops [oV 31 (rmv (T 8)),
  oV 6 (rmv (T 31))]
noncomputable abbrev c17_15 : RC := .seq c17_14 .ret
noncomputable abbrev c17_16 : RC := .cond (rX 30) c17_15 .skip
noncomputable abbrev c17_17 : RC := .seq c17_13 c17_16
noncomputable abbrev c17_18 : RC := .ops [oV 32 (rmv (T 0)),
  oV 33 (rload false 1 (T 7)),
  oV 34 (rnil (T 32)),
  oV 35 (rfaddr 0 (T 34)),
  oS (rstore 1 (T 35) (T 33))]
noncomputable abbrev c17_19 : RC := .ops [oV 36 (rmv (T 0)),
  oV 37 (rnil (T 36)),
  oV 38 (rfaddr 2 (T 37)),
  oV 39 (rload false 1 (T 38)),
  oV 40 (rbin env .add 3 false true (T 39) (K 1)),
  oV 41 (rnil (T 36)),
  oV 42 (rfaddr 2 (T 41)),
  oS (rstore 1 (T 42) (T 40))]
noncomputable abbrev c17_20 : RC := .ops [oV 43 (rload false 1 (T 7)),
  oV 44 (rlen (T 43)),
  oV 45 (rmv (K 0))]
noncomputable abbrev c17_21 : RC := .ops [oV 46 (rbin env .lss 3 false false (T 45) (T 44))]
noncomputable abbrev c17_22 : RC := .cond (rX 46) .skip (.exit 1)
noncomputable abbrev c17_23 : RC := .ops [oV 47 (riaddr 4 (T 43) (T 45)),
  oV 48 (rload true 4 (T 47)),
  oU 10 (rnew [.v (.string ⟨#[]⟩), .v (.int .i64 0), .v (.int .i64 0), .lst .full 0 0 []]),
  oS (rstore 4 (T 10) (T 48))]
noncomputable abbrev c17_24 : RC := .ops [oV 49 (rmv (T 2)),
  oV 50 (rfaddr 0 (T 10)),
  oV 51 (rload false 1 (T 50)),
  oC 52 (T 49) [(T 51)]]
noncomputable abbrev c17_25 : RC := comp env (subc [1, 1, 1, 1, 1, 1, 0, 1, 0, 0, 1, 1, 0, 0, 1, 1, 0] body17)
noncomputable abbrev c17_26 : RC := .cond (rX 52) c17_25 .skip
noncomputable abbrev c17_27 : RC := .seq c17_24 c17_26
noncomputable abbrev c17_28 : RC := .seq c17_23 c17_27
noncomputable abbrev c17_29 : RC := .block 2 c17_28
noncomputable abbrev c17_30 : RC := .ops [oV 63 (rbin env .add 3 false true (T 45) (K 1)),
  oV 45 (rmv (T 63))]
noncomputable abbrev c17_31 : RC := .seq c17_29 c17_30
noncomputable abbrev c17_32 : RC := .seq c17_22 c17_31
noncomputable abbrev c17_33 : RC := .seq c17_21 c17_32
noncomputable abbrev c17_34 : RC := .loop c17_33
noncomputable abbrev c17_35 : RC := .block 1 c17_34
noncomputable abbrev c17_36 : RC := .seq c17_20 c17_35
noncomputable abbrev c17_37 : RC := .ops [oV 64 (rmv (T 0)),
  oV 65 (rnil (T 64)),
  oV 66 (rfaddr 1 (T 65)),
  oV 67 (rload false 1 (T 66)),
  oV 68 (rfn 37 [] [(T 7)]),
  oC 69 (.func 36) [(T 67), (T 68)]]
noncomputable abbrev c17_38 : RC := .ops [oV 6 (rmv (K 0))]
noncomputable abbrev c17_39 : RC := .seq c17_38 .ret
noncomputable abbrev c17_40 : RC := .seq c17_37 c17_39
noncomputable abbrev c17_41 : RC := .seq c17_36 c17_40
noncomputable abbrev c17_42 : RC := .seq c17_19 c17_41
noncomputable abbrev c17_43 : RC := .seq c17_18 c17_42
noncomputable abbrev c17_44 : RC := .seq c17_17 c17_43
noncomputable abbrev c17_45 : RC := .seq c17_12 c17_44
noncomputable abbrev c17_46 : RC := .seq c17_11 c17_45
noncomputable abbrev c17_47 : RC := .seq c17_0 c17_46
theorem fn17 : env.fn 17 = some ⟨70, [.tmp 6], body17⟩ := by kernel_rfl
theorem comp17 : comp env body17 = c17_47 := by kernel_rfl

/-! ### tributary/vfs.just -/
noncomputable def body21 : Code := match Tryz.f21.body with | some c => c | none => .skip
noncomputable abbrev c21_0 : RC := .ops [oU 1 (rbox (T 0)),
  oV 2 (rmv (.const (.nilFunc)))]
noncomputable abbrev c21_1 : RC := .ops [oV 3 (rfn 42 [] [(T 1)]),
  oV 2 (rmv (T 3))]
noncomputable abbrev c21_2 : RC := .seq c21_1 .ret
noncomputable abbrev c21_3 : RC := .seq c21_0 c21_2
theorem fn21 : env.fn 21 = some ⟨4, [.tmp 2], body21⟩ := by kernel_rfl
theorem comp21 : comp env body21 = c21_3 := by kernel_rfl

/-! ### (*tributary/vfs.FS).none -/
noncomputable def body34 : Code := match Tryz.f34.body with | some c => c | none => .skip
noncomputable abbrev c34_0 : RC := .ops [oV 2 (rmv (.const (.bool false)))]
noncomputable abbrev c34_1 : RC := .ops [oV 3 (rmv (T 0)),
  oV 4 (rbin env .eql 30 false true (T 3) (.const (.pointer none))),
  oV 5 (rmv (T 4)),
  oG 6 5 false (rmv (T 0)),
  oG 7 5 false (rnil (T 6)),
  oG 8 5 false (rfaddr 1 (T 7)),
  oG 9 5 false (rload false 1 (T 8)),
  oG 10 5 false (rbin env .eql 32 false true (T 9) (.const (.map none))),
  oV 11 (rpick (T 5) (.const (.bool true)) (T 10)),
  oV 2 (rmv (T 11))]
noncomputable abbrev c34_2 : RC := .seq c34_1 .ret
noncomputable abbrev c34_3 : RC := .seq c34_0 c34_2
theorem fn34 : env.fn 34 = some ⟨12, [.tmp 2], body34⟩ := by kernel_rfl
theorem comp34 : comp env body34 = c34_3 := by kernel_rfl
end Go.Proofs.YtnhhppflnpfehaaGreatDoor
end

section
/- What a law is given, to the leaves: the shapes of its types, and data of these shapes in the world. Plain lemmas; no condition. -/
set_option linter.unusedVariables false
namespace Go.Am
open Go.RowKit

inductive Sh where
  | bool | int (k : IntKind) | str | sl (l : List Sh)

mutual
inductive Typ (P : Program) : TypeId → List Sh → Prop where
  | bool {t : TypeId} (h : P.underlying t = some .bool) : Typ P t [.bool]
  | int {t : TypeId} {k : IntKind} (h : P.underlying t = some (.int k)) : Typ P t [.int k]
  | str {t : TypeId} (h : P.underlying t = some .string) : Typ P t [.str]
  | sl {t e : TypeId} {l : List Sh} (h : P.underlying t = some (.slice e)) (he : Typ P e l) (hc : P.cellsOf e = l.length) (h0 : l.length ≠ 0) (hs : l.length < 4096) : Typ P t [.sl l]
  | struct {t : TypeId} {fs : Array Field} {l : List Sh} (h : P.underlying t = some (.struct fs)) (hf : TypFs P fs.toList 0 l) (hc : P.cellsOf t = l.length) : Typ P t l
inductive TypFs (P : Program) : List Field → Nat → List Sh → Prop where
  | nil {n : Nat} : TypFs P [] n []
  | cons {f : Field} {fs : List Field} {n : Nat} {l l' : List Sh} (ho : f.offset = n) (h : Typ P f.type l) (hc : P.cellsOf f.type = l.length) (hs : TypFs P fs (n + l.length) l') : TypFs P (f :: fs) n (l ++ l')
end

mutual
inductive ShP : Sh → DV → Prop where
  | bool (b : Bool) : ShP .bool (.v (.bool b))
  | int {k : IntKind} (n : Int) (h1 : k.min ≤ n) (h2 : n ≤ k.max) : ShP (.int k) (.v (.int k n))
  | str (s : ByteArray) (h : s.size ≤ maxLen) : ShP .str (.v (.string s))
  | nil (l : List Sh) : ShP (.sl l) (.v (.slice none 0 0))
  | sl {l : List Sh} {n : Nat} {cs : List DV} (h : ShRows l n cs) (hn : n ≤ maxLen) (hl : l.length < 4096) : ShP (.sl l) (.lst l.length n cs)
inductive ShPs : List Sh → List DV → Prop where
  | nil : ShPs [] []
  | cons {s : Sh} {d : DV} {l : List Sh} {l' : List DV} (h : ShP s d) (hs : ShPs l l') : ShPs (s :: l) (d :: l')
inductive ShRows : List Sh → Nat → List DV → Prop where
  | nil (l : List Sh) : ShRows l 0 []
  | cons {l : List Sh} {n : Nat} {r cs : List DV} (h : ShPs l r) (hs : ShRows l n cs) : ShRows l (n + 1) (r ++ cs)
end
theorem ShPs.length : ∀ {l : List Sh} {ds : List DV}, ShPs l ds → ds.length = l.length
  | _, _, .nil => rfl
  | _, _, .cons _ hs => by simp only [List.length_cons, hs.length]
theorem ShPs.append : ∀ {l l' : List Sh} {ds ds' : List DV}, ShPs l ds → ShPs l' ds' → ShPs (l ++ l') (ds ++ ds')
  | _, _, _, _, .nil, h' => h'
  | _, _, _, _, .cons h hs, h' => .cons h (hs.append h')
theorem ShRows.length {l : List Sh} : ∀ {n : Nat} {cs : List DV}, ShRows l n cs → cs.length = n * l.length
  | _, _, .nil _ => by simp
  | _, _, .cons h hs => by rw [List.length_append, h.length, hs.length, Nat.succ_mul, Nat.add_comm]
theorem DWs.append {w : World} {l l' : List DV} {vs vs' : List Value} (h : DWs w l vs) (h' : DWs w l' vs') : DWs w (l ++ l') (vs ++ vs') := by
  cases h with
  | nil => exact h'
  | cons h hs => exact .cons h (hs.append h')

section
variable {H : Type} {enc : TypeId × Value → H} {P : Program} {w : World} {base : Nat} {spare : Nat → Bool} {held : Bool}

theorem cells?_get {a : Addr} {n : Nat} {cs : List Value} (h : w.cells? base a n = some cs) : cs.length = n ∧ ∀ (i : Nat) v, cs[i]? = some v → w.cell? (a.add i) = some v := by
  unfold World.cells? at h
  split at h
  · have hl := mapM_some_length h
    simp at hl
    refine ⟨hl, fun i v e => ?_⟩
    have hi : i < n := by
      rcases Nat.lt_or_ge i cs.length with hx | hx
      · omega
      · rw [List.getElem?_eq_none hx] at e; cases e
    have := mapM_some_get h i i (by simp [hi])
    rw [this, e]
  · cases h

theorem cell_path {a : Addr} {v : Value} (h : w.cell? a = some v) : a.block < w.heap.size := by
  rcases Nat.lt_or_ge a.block w.heap.size with hx | hx
  · exact hx
  · unfold World.cell? at h
    rw [Array.getElem?_eq_none hx] at h
    simp at h

/-- A list's elements, read one by one. -/
theorem read_rows {a : Addr} {e : TypeId} {l : List Sh} {fuel : Nat} (hc : P.cellsOf e = l.length)
    (hr : ∀ (cs : List Value) (x : DataW H × List MemPlace), DataW.trod enc P w base spare held fuel e cs = some x → ∃ ds, DWs w ds cs ∧ ShPs l ds) : ∀ (n i : Nat),
    (∀ j, i ≤ j → j < i + n → ((w.cells? base (a.add (j * P.cellsOf e)) (P.cellsOf e)).bind (DataW.trod enc P w base spare held fuel e)).isSome = true) →
    ∃ (ds : List DV) (vs : List Value), (∀ (j : Nat) v, vs[j]? = some v → w.cell? (a.add (i * l.length + j)) = some v) ∧ DWs w ds vs ∧ ShRows l n ds
  | 0, i, _ => ⟨[], [], fun j v e => by simp at e, .nil, .nil l⟩
  | n + 1, i, h => by
    have h0 := h i (Nat.le_refl _) (by omega)
    rw [Option.isSome_iff_exists] at h0
    obtain ⟨x, h0⟩ := h0
    simp only [Option.bind_eq_some_iff] at h0
    obtain ⟨cs, k1, k2⟩ := h0
    obtain ⟨ds, k3, k4⟩ := hr cs x k2
    obtain ⟨kl, kc⟩ := cells?_get k1
    obtain ⟨ds', vs', g1, g2, g3⟩ := read_rows hc hr n (i + 1) (fun j hj hj' => h j (by omega) (by omega))
    refine ⟨ds ++ ds', cs ++ vs', fun j v e => ?_, k3.append g2, .cons k4 g3⟩
    rcases Nat.lt_or_ge j cs.length with hx | hx
    · rw [List.getElem?_append_left hx] at e
      have := kc j v e
      rw [hc] at this
      have e3 : (a.add (i * l.length)).add j = a.add (i * l.length + j) := by
        unfold Addr.add
        split <;> split <;> simp_all <;> omega
      rw [e3] at this
      exact this
    · rw [List.getElem?_append_right hx] at e
      have := g1 _ v e
      rw [Nat.succ_mul, show i * l.length + l.length + (j - cs.length) = i * l.length + j by omega] at this
      exact this

theorem cell_spot {a : Addr} {v : Value} (h : w.cell? a = some v) : a.spot = none := by
  unfold World.cell? at h
  cases hs : a.spot with
  | none => rfl
  | some x =>
    rw [hs] at h
    split at h <;> simp at h

theorem open_slT {t e : TypeId} {l : List Sh} (hu : P.underlying t = some (.slice e)) (hc : P.cellsOf e = l.length) (h0 : l.length ≠ 0) (hs : l.length < 4096)
    (hr : ∀ (fuel : Nat) (cs : List Value) (x : DataW H × List MemPlace), DataW.trod enc P w base (fun _ => true) held fuel e cs = some x → ∃ ds, DWs w ds cs ∧ ShPs l ds)
    {fuel : Nat} {cs : List Value} {x : DataW H × List MemPlace} (h : DataW.trod enc P w base (fun _ => true) held fuel t cs = some x) : ∃ ds, DWs w ds cs ∧ ShPs [.sl l] ds := by
  rcases DataW.trod_slice hu h with ⟨rfl, _⟩ | ⟨a, len, cap, elems, rest, n, rfl, rfl, -, -, hle, hmax, hlen, hel, hrest, -⟩
  · exact ⟨[.v (.slice none 0 0)], .cons (.v rfl) .nil, .cons (.nil l) .nil⟩
  · obtain ⟨ds, vs, k1, k2, k3⟩ := read_rows (a := a) hc (hr n) len 0 (fun j _ hj => by rw [hel j (by omega)]; simp; omega)
    have hsh : ShPs [.sl l] [DV.lst l.length len ds] := .cons (.sl k3 (by omega) hs) .nil
    by_cases hcap : cap = 0
    · subst hcap
      have : len = 0 := by omega
      subst this
      have hd : ds = [] := by cases k3; rfl
      subst hd
      exact ⟨_, .cons (.emp _ a hs) .nil, hsh⟩
    · have hfirst : ∃ v, w.cell? (a.add (0 * P.cellsOf e)) = some v := by
        have : ∃ x, ((w.cells? base (a.add (0 * P.cellsOf e)) (P.cellsOf e)).bind (DataW.trod enc P w base (fun _ => true) held n e)) = some x := by
          by_cases hl : 0 < len
          · rw [hel 0 hl]; exact ⟨elems[0], by simp⟩
          · obtain ⟨hr1, hr2⟩ := hrest rfl
            have := hr2 0 (by omega)
            have e0 : len = 0 := by omega
            subst e0
            simp only [Nat.zero_add] at this
            rw [this]; exact ⟨rest[0], by simp⟩
        obtain ⟨x, hx⟩ := this
        simp only [Option.bind_eq_some_iff] at hx
        obtain ⟨cs, k1, _⟩ := hx
        obtain ⟨kl, kc⟩ := cells?_get k1
        have h0' : 0 < cs.length := by omega
        refine ⟨cs[0], ?_⟩
        have := kc 0 cs[0] (by simp)
        simpa [Addr.add] using this
      obtain ⟨v0, hv0⟩ := hfirst
      rw [Nat.zero_mul, show a.add 0 = a from rfl] at hv0
      have hsp := cell_spot hv0
      have hb := cell_path hv0
      obtain ⟨b, off, spot⟩ := a
      simp only at hsp hb
      subst hsp
      refine ⟨_, .cons (.lst hb (by rw [k3.length]) hle hs (fun j v e => ?_) k2) .nil, hsh⟩
      have := k1 j v e
      rw [Nat.zero_mul, Nat.zero_add] at this
      have e2 : (⟨b, off, none⟩ : Addr).add j = ⟨b, off + j, none⟩ := by
        unfold Addr.add; split
        · rename_i h; subst h; rfl
        · rfl
      rw [e2] at this; exact this

mutual
theorem open_typ : ∀ {t : TypeId} {l : List Sh}, Typ P t l → ∀ (fuel : Nat) (cs : List Value) (x : DataW H × List MemPlace), DataW.trod enc P w base (fun _ => true) held fuel t cs = some x → ∃ ds, DWs w ds cs ∧ ShPs l ds
  | _, _, .bool hu, fuel, cs, x, h => by
    obtain ⟨b, rfl, -⟩ := DataW.trod_bool hu h
    exact ⟨_, .cons (.v rfl) .nil, .cons (.bool b) .nil⟩
  | _, _, .int hu, fuel, cs, x, h => by
    obtain ⟨n, rfl, -, hw⟩ := DataW.trod_int hu h
    simp only [Lit.wf, Bool.and_eq_true, decide_eq_true_eq] at hw
    exact ⟨_, .cons (.v rfl) .nil, .cons (.int n hw.1 hw.2) .nil⟩
  | _, _, .str hu, fuel, cs, x, h => by
    obtain ⟨s, rfl, -, hs⟩ := DataW.trod_string hu h
    exact ⟨_, .cons (.v rfl) .nil, .cons (.str s hs) .nil⟩
  | _, _, .sl hu he hc h0 hs, fuel, cs, x, h => open_slT hu hc h0 hs (open_typ he) h
  | _, _, .struct (l := l) hu hf hc, fuel, cs, x, h => by
    obtain ⟨xs, n, rfl, rfl, hl, hn, hx⟩ := DataW.trod_struct hu h
    obtain ⟨ds, k1, k2⟩ := open_fs hf n cs (fun i f e => by
      rw [hx i f (by simpa using e)]
      have hi : i < xs.length := by
        rw [hn]
        rcases Nat.lt_or_ge i _ with h' | h'
        · exact h'
        · rw [List.getElem?_eq_none (by simpa using h')] at e; cases e
      exact ⟨xs[i], by simp⟩) (by rw [hl, hc]; omega)
    rw [List.drop_zero, List.take_of_length_le (by rw [hl, hc]; exact Nat.le_refl _)] at k1
    exact ⟨ds, k1, k2⟩
theorem open_fs : ∀ {fs : List Field} {n : Nat} {l : List Sh}, TypFs P fs n l → ∀ (fuel : Nat) (cs : List Value),
    (∀ (i : Nat) f, fs[i]? = some f → ∃ x, DataW.trod enc P w base (fun _ => true) held fuel f.type ((cs.drop f.offset).take (P.cellsOf f.type)) = some x) → n + l.length ≤ cs.length →
    ∃ ds, DWs w ds ((cs.drop n).take l.length) ∧ ShPs l ds
  | _, _, _, .nil, fuel, cs, _, _ => ⟨[], by simp; exact .nil, .nil⟩
  | _, _, _, .cons (l := l) (l' := l') ho ht hc hs, fuel, cs, h, hl => by
    obtain ⟨x, hx⟩ := h 0 _ rfl
    rw [ho, hc] at hx
    obtain ⟨d1, k1, k2⟩ := open_typ ht fuel _ x hx
    rw [List.length_append] at hl
    obtain ⟨d2, g1, g2⟩ := open_fs hs fuel cs (fun i f e => h (i + 1) f e) (by omega)
    refine ⟨d1 ++ d2, ?_, k2.append g2⟩
    rw [List.length_append, List.take_add, List.drop_drop]
    exact k1.append g1
end

/-- What is no struct is one cell. -/
def oneT : Option TypeDesc → Bool
  | some .bool => true
  | some (.int _) => true
  | some .string => true
  | some (.slice _) => true
  | _ => false
theorem open_one {W0 : World} {b0 : Nat} {t : TypeId} {s : Sh} {v : Value} {d : DataW H} {p : List MemPlace} (hT : Typ P t [s]) (hu : oneT (P.underlying t) = true) (hv : Value.okWide P W0 .any b0 t v)
    (h : DataW.Trod enc P w base (fun _ => true) held t v d p) : ∃ ds, DW w ds v ∧ ShP s ds := by
  obtain ⟨fuel, h⟩ := h
  obtain ⟨ds, k1, k2⟩ := open_typ hT fuel _ _ h
  have hna : ∀ cs, v ≠ .agg cs := by
    intro cs e
    subst e
    unfold Value.okWide at hv
    unfold oneT at hu
    split at hu <;> rename_i hq <;> first | (cases hu; done) | (rw [hq] at hv; simp [Cell.okWide, Cell.ok, hq] at hv)
  have hc : v.cells.toList = [v] := by
    unfold Value.cells
    split
    · exact absurd rfl (hna _)
    · rfl
  rw [hc] at k1
  cases k2 with
  | cons k2 k3 =>
    cases k1 with
    | cons k1 _ => exact ⟨_, k1, k2⟩
theorem open_agg {W0 : World} {b0 : Nat} {t : TypeId} {l : List Sh} {fs : Array Field} {v : Value} {d : DataW H} {p : List MemPlace} (hT : Typ P t l) (hu : P.underlying t = some (.struct fs)) (hv : Value.okWide P W0 .any b0 t v)
    (h : DataW.Trod enc P w base (fun _ => true) held t v d p) : ∃ ds, DW w (.agg ds) v ∧ ShPs l ds := by
  obtain ⟨fuel, h⟩ := h
  obtain ⟨ds, k1, k2⟩ := open_typ hT fuel _ _ h
  unfold Value.okWide at hv
  rw [hu] at hv
  obtain ⟨cs, rfl, _, _⟩ := hv
  exact ⟨ds, .agg k1, k2⟩
end
end Go.Am
end

section
/- From what a law is given to the plain state: data of known shapes as plain values, a call of the law over them. Plain lemmas; no condition. -/
set_option linter.unusedVariables false
namespace Go.Pm
open Go.RowKit Go.Am

/-! ### Data as plain values -/
mutual
/-- The plain value of data of a shape. -/
def pvD : Sh → DV → PV
  | .sl l, .v _ => .lst .no l.length 0 []
  | .sl l, .lst es n cs => .lst .no es n (pvC l l cs)
  | _, .v x => .v x
  | _, _ => .junk
/-- Cells of rows of a shape, again and again. -/
def pvC : List Sh → List Sh → List DV → List PV
  | _, _, [] => []
  | l, [], d :: ds => match l with
    | [] => []
    | s :: r => pvD s d :: pvC l r ds
  | l, s :: r, d :: ds => pvD s d :: pvC l r ds
end
def pvs : List Sh → List DV → List PV
  | [], _ => []
  | _, [] => []
  | s :: r, d :: ds => pvD s d :: pvs r ds
def pvRows (l : List Sh) : Nat → List DV → List PV
  | 0, _ => []
  | n + 1, cs => pvs l (cs.take l.length) ++ pvRows l n (cs.drop l.length)

theorem pvC_app (l : List Sh) : ∀ (r : List Sh) (a b : List DV), a.length = r.length → pvC l r (a ++ b) = pvs r a ++ pvC l [] b
  | [], [], b, _ => rfl
  | s :: r, d :: a, b, h => by
    simp only [List.cons_append, pvC, pvs]
    rw [pvC_app l r a b (by simpa using h)]
theorem pvC_nil (l : List Sh) (h : l ≠ []) (ds : List DV) : pvC l [] ds = pvC l l ds := by
  cases l with
  | nil => exact absurd rfl h
  | cons s r => cases ds <;> simp [pvC]

/-! ### What is laid holds these -/
theorem flat_leaf {x : Value} (h : closedV x = true) (h1 : ∀ cs, x ≠ .agg cs) (h2 : ∀ cs, x ≠ .tuple cs) (h3 : ∀ t v, x ≠ .iface t v) (h4 : ∀ f a b, x ≠ .func f a b) : flat x = true := by
  unfold closedV at h
  split at h
  · exact absurd rfl (h1 _)
  · exact absurd rfl (h2 _)
  · exact absurd rfl (h3 _ _)
  · exact absurd rfl (h4 _ _ _)
  · exact h
def Holds (cx : Cx) (ng : Nat) (R : List (List Value × Nat)) : Prop := ∀ (i : Nat) vs es, R[i]? = some (vs, es) → cx.role (ng + i) = .im vs
theorem Holds.left {cx : Cx} {ng : Nat} {R Y : List (List Value × Nat)} (h : Holds cx ng (R ++ Y)) : Holds cx ng R := fun i vs es e => h i vs es (by
  rw [List.getElem?_append_left]
  · exact e
  · rcases Nat.lt_or_ge i R.length with hx | hx
    · exact hx
    · rw [List.getElem?_eq_none hx] at e; cases e)

mutual
theorem lay_grow (ng : Nat) : ∀ (d : DV) (R : List (List Value × Nat)), ∃ Y, (lay ng d R).2 = R ++ Y
  | .v x, R => ⟨[], by simp [lay]⟩
  | .lst es k cs, R => by
    obtain ⟨Y, hY⟩ := lays_grow ng cs R
    exact ⟨Y ++ [((lays ng cs R).1, es)], by simp only [lay]; rw [hY, List.append_assoc]⟩
  | .agg cs, R => by
    obtain ⟨Y, hY⟩ := lays_grow ng cs R
    exact ⟨Y, by simp only [lay]; exact hY⟩
theorem lays_grow (ng : Nat) : ∀ (ds : List DV) (R : List (List Value × Nat)), ∃ Y, (lays ng ds R).2 = R ++ Y
  | [], R => ⟨[], by simp [lays]⟩
  | d :: ds, R => by
    obtain ⟨Y, hY⟩ := lay_grow ng d R
    obtain ⟨Y', hY'⟩ := lays_grow ng ds (lay ng d R).2
    exact ⟨Y ++ Y', by simp only [lays]; rw [hY', hY, List.append_assoc]⟩
end

theorem lays_app (ng : Nat) : ∀ (a b : List DV) (R : List (List Value × Nat)), lays ng (a ++ b) R = ((lays ng a R).1 ++ (lays ng b (lays ng a R).2).1, (lays ng b (lays ng a R).2).2)
  | [], b, R => by simp [lays]
  | d :: a, b, R => by
    simp only [List.cons_append, lays]
    rw [lays_app ng a b]
theorem lays_len (ng : Nat) : ∀ (a : List DV) (R : List (List Value × Nat)), (lays ng a R).1.length = a.length
  | [], R => by simp [lays]
  | d :: a, R => by simp only [lays, List.length_cons]; rw [lays_len ng a]
theorem pvs_len : ∀ {l : List Sh} {ds : List DV}, ds.length = l.length → (pvs l ds).length = l.length
  | [], _, _ => rfl
  | s :: r, [], h => by simp at h
  | s :: r, d :: ds, h => by simp only [pvs, List.length_cons]; rw [pvs_len (by simpa using h)]

mutual
theorem lay_pr {cx : Cx} (ng : Nat) : ∀ {s : Sh} {d : DV}, ShP s d → ∀ R, Holds cx ng (lay ng d R).2 → PR cx (pvD s d) (lay ng d R).1
  | _, _, .bool b, R, _ => by simp only [lay, pvD]; exact .v rfl
  | _, _, .int n _ _, R, _ => by simp only [lay, pvD]; exact .v rfl
  | _, _, .str s _, R, _ => by simp only [lay, pvD]; exact .v rfl
  | _, _, .nil l, R, _ => by simp only [lay, pvD]; exact .l0 _ none 0 (.inl rfl)
  | _, _, .sl (l := l) (n := n) (cs := cs) h hn hl, R, hH => by
    simp only [lay] at hH ⊢
    have hrole := hH (lays ng cs R).2.length (lays ng cs R).1 l.length (by simp)
    obtain ⟨k1, k2⟩ := lay_rows ng h R hH.left
    simp only [pvD]
    have hlen : (pvC l l cs).length = (lays ng cs R).1.length := k1.length
    refine .lno hrole (by rw [hlen, Nat.zero_add]; exact Nat.le_refl _) ?_ ?_ (by rw [capOf_lo' _ _ hl]; exact Nat.le_refl _) (.inr (esOf_lo _ _ hl))
    · rw [List.drop_zero, List.take_of_length_le (by rw [hlen]; exact Nat.le_refl _)]; exact k1
    · rw [hlen, lays_len, h.length]
theorem lay_prs {cx : Cx} (ng : Nat) : ∀ {l : List Sh} {ds : List DV}, ShPs l ds → ∀ R, Holds cx ng (lays ng ds R).2 → PRs cx (pvs l ds) (lays ng ds R).1
  | _, _, .nil, R, _ => by simp only [lays, pvs]; exact .nil
  | _, _, .cons (d := d) (l' := ds) h hs, R, hH => by
    simp only [lays] at hH ⊢
    obtain ⟨Y, hY⟩ := lays_grow ng ds (lay ng d R).2
    refine .cons (lay_pr ng h R ?_) (lay_prs ng hs _ hH)
    rw [hY] at hH
    exact hH.left
theorem lay_rows {cx : Cx} (ng : Nat) : ∀ {l : List Sh} {n : Nat} {cs : List DV}, ShRows l n cs → ∀ R, Holds cx ng (lays ng cs R).2 → PRs cx (pvC l l cs) (lays ng cs R).1 ∧ True
  | _, _, _, .nil l, R, _ => by
    refine ⟨?_, trivial⟩
    have : pvC l l [] = [] := by cases l <;> rfl
    rw [this]; simp only [lays]; exact .nil
  | _, _, _, .cons (l := l) (r := r) (cs := cs) h hs, R, hH => by
    refine ⟨?_, trivial⟩
    rw [lays_app] at hH ⊢
    simp only at hH ⊢
    obtain ⟨Y, hY⟩ := lays_grow ng cs (lays ng r R).2
    have h1 := lay_prs (cx := cx) ng h R (by rw [hY] at hH; exact hH.left)
    have h2 := (lay_rows (cx := cx) ng hs _ hH).1
    have e : pvC l l (r ++ cs) = pvs l r ++ pvC l l cs := by
      rw [pvC_app l l r cs h.length]
      by_cases hl : l = []
      · subst hl
        cases cs with
        | nil => rfl
        | cons c cs => rfl
      · rw [pvC_nil l hl]
    rw [e]
    exact h1.append h2
end

/-! ### The plain state that holds what is given -/
def cxR (ng : Nat) (R : List (List Value × Nat)) : Cx where
  at_ := fun k i => if k = 0 ∧ i < ng then some i else none
  role := fun r => if r < ng then .ob 0 r else match R[r - ng]? with
    | some (vs, _) => .im vs
    | none => .none
  tk := fun _ _ => none
  nk := 1
theorem cxR_holds (ng : Nat) (R : List (List Value × Nat)) : Holds (cxR ng R) ng R := fun i vs es e => by
  unfold cxR
  dsimp only
  rw [if_neg (by omega), Nat.add_sub_cancel_left, e]
theorem memR_at {ng : Nat} {R : List (List Value × Nat)} {i : Nat} {vs : List Value} {es : Nat} (h : R[i]? = some (vs, es)) : (memR ng R).get (ng + i) = some (.row vs .ro es none) := by
  have hi : i < R.length := by
    rcases Nat.lt_or_ge i R.length with hx | hx
    · exact hx
    · rw [List.getElem?_eq_none hx] at h; cases h
  rw [Mem.get_def]
  unfold memR
  dsimp only
  have h1 : Nat.blt (ng + i) (ng + R.length) = true := by rw [Nat.blt_eq]; omega
  have h2 : Nat.blt (ng + i) ng = false := by
    cases e : Nat.blt (ng + i) ng with
    | false => rfl
    | true => rw [Nat.blt_eq] at e; omega
  rw [h1, cond_true, h2]
  dsimp only
  rw [show Nat.sub (ng + i) ng = i from Nat.add_sub_cancel_left ng i, nthK_map, h]
theorem cxR_pg {E : Env} {R : List (List Value × Nat)} (hw : Wf (memR E.ng R)) : PG E (cxR E.ng R) (fun _ _ => none) (memR E.ng R) where
  obj := fun k i o h => by cases h
  at_ := fun k i r h => by
    unfold cxR at h ⊢
    dsimp only at h ⊢
    split at h
    · rename_i hc
      obtain ⟨hk, hi⟩ := hc
      subst hk
      cases h
      refine ⟨?_, ?_⟩
      · show i < E.ng + R.length; omega
      · rw [if_pos hi]
    · cases h
  im := fun r cells h => by
    unfold cxR at h
    dsimp only at h
    split at h
    · cases h
    · rename_i hr
      split at h
      · rename_i vs es he
        cases h
        refine ⟨?_, .ro, es, none, ?_⟩
        · show r < E.ng + R.length
          rcases Nat.lt_or_ge (r - E.ng) R.length with hx | hx
          · omega
          · rw [List.getElem?_eq_none hx] at he; cases he
        · have := memR_at (ng := E.ng) he
          rwa [show E.ng + (r - E.ng) = r by omega] at this
      · cases h
  mks := fun r h => by
    unfold cxR at h
    dsimp only at h
    split at h
    · cases h
    · split at h <;> cases h
  keys := fun k i hk => by
    unfold cxR at hk ⊢
    dsimp only at hk ⊢
    exact ⟨if_neg (by omega), rfl⟩
  tkin := fun k i k' i' r n es n' es' h => by cases h
  glob := fun g hg => by
    unfold cxR
    dsimp only
    exact if_pos ⟨rfl, hg⟩
  wf := hw
  pos := Nat.zero_lt_one

/-- A law over data that yields true, whatever else there is in memory; nothing that was there is changed. -/
theorem law_calls {E : Env} {P : Program} {f : Nat} {x : Fun} {ds : List DV} {args : List PV} {vargs : List Value} {W : World} {v : Bool} (hE : EnvOk E P) (hf : E.fn f = some x) (hW : E.ng ≤ W.heap.size)
    (hd : DWs W ds vargs) (hp : ∀ cx, Holds cx E.ng (lays E.ng ds []).2 → PRs cx args (lays E.ng ds []).1)
    (h : PT E P f args (fun _ _ => none) (fun x _ => x = .v (.bool v))) :
    Calls P f vargs.toArray W fun e W' => e = .returned (.bool v) ∧ (∀ b, b < W.heap.size → W'.heap[b]? = W.heap[b]?) ∧ W.heap.size ≤ W'.heap.size ∧ W'.os = W.os ∧ W'.tape = W.tape ∧ W'.output = W.output := by
  obtain ⟨Y, X, h1, h2, h3, h4⟩ := lays_ok E.ng hd [] [] rfl
  simp only [List.nil_append] at h1 h4
  have hPR := hp (cxR E.ng (lays E.ng ds []).2) (cxR_holds _ _)
  generalize hq : lays E.ng ds [] = q at h1 h4 hPR
  obtain ⟨vs, R⟩ := q
  simp only at h1 h4 hPR
  subst h1
  obtain ⟨k1, k2⟩ := h4 (injR E.ng X) (fun i t e => by
    unfold injR
    rw [if_neg (by omega), Nat.add_sub_cancel_left, e])
  have hrel : Rel E (injR E.ng X) (memR E.ng R) W := relR h2 hW h3 (fun i t cs es e e' => k2 i t cs es e e')
  obtain ⟨v1, m1, cx1, x1, M1, hc, -, -, hpr, rfl⟩ := h _ _ _ (cxR_pg hrel.wf) hPR
  obtain ⟨rfl, -⟩ := hpr.flat_eq
  have hu := hc.ok _ _ _ hrel k1
  rw [callFunc_enter hE hf] at hu
  have hu' : CallsIn Fence.wide 0 P f vargs.toArray W (retOnly (Got E (injR E.ng X) (memR E.ng R) W (.bool v) m1)) := hu
  refine (callsIn_wide.1 hu').mono fun e W' he => ?_
  cases e with
  | returned v' =>
    obtain ⟨ι1, hvr, hst⟩ := he
    cases hvr
    exact ⟨rfl, fun b hb => hst.keep b hb ownR, hst.size, hst.os, hst.tape, hst.output⟩
  | panicked _ => exact he.elim
  | outgrown => exact he.elim

/-- Calls over closed data, by one run. -/
theorem PTp.of_pure {E : Env} {P : Program} {f : Nat} {x : Fun} {v : Value} (hE : EnvOk E P) (hf : E.fn f = some x) (h : PureE P E.ng f [] v) (hv : flat v = true) : PTp E P f [] (.v v) := by
  intro M cx m vargs hpg hargs
  cases hargs
  refine ⟨v, m, cx, .v v, M, ⟨fun ι w args' hR hA => ?_, fun _ => Keep.refl _⟩, hpg, Ext.refl _ _, .v hv, rfl, rfl⟩
  cases hA
  refine (h w [] hR.ng .nil).mono fun v' w1 ⟨e, hb, hs, h1, h2, h3⟩ => ?_
  subst e
  have hR' : Rel E ι m w1 := hR.more hb hs
  exact ⟨ι, VR.flat hv, ⟨Am.Sub.refl _, (fun b t e n => by rw [e] at n; cases n), hR', fun _ _ h => h, fun b hb' _ => hb b hb', hs, Nat.le_refl _, h1, h2, h3⟩⟩

/-! ### Lists out of data -/
theorem rows_dec {α : Type} {B : α → Prop} {enc : α → List PV} {l : List Sh} (hl : l ≠ []) (hx : ∀ ds, ShPs l ds → ∃ x : α, pvs l ds = enc x ∧ B x) : ∀ {n : Nat} {cs : List DV}, ShRows l n cs → ∃ xs : List α, xs.length = n ∧ pvC l l cs = xs.flatMap enc ∧ ∀ x ∈ xs, B x := by
  intro n
  induction n with
  | zero =>
    intro cs h
    cases h
    refine ⟨[], rfl, ?_, fun x hx => by cases hx⟩
    cases l <;> rfl
  | succ n ih =>
    intro cs h
    cases h with
    | cons h hs =>
      obtain ⟨x, h1, h2⟩ := hx _ h
      obtain ⟨xs, g1, g2, g3⟩ := ih hs
      refine ⟨x :: xs, by rw [List.length_cons, g1], ?_, fun y hy => ?_⟩
      · rw [pvC_app l l _ _ h.length, pvC_nil l hl, h1, g2, List.flatMap_cons]
      · rcases List.mem_cons.1 hy with rfl | hy
        · exact h2
        · exact g3 y hy
theorem sl_dec {α : Type} {B : α → Prop} {enc : α → List PV} {l : List Sh} (hl : l ≠ []) (hx : ∀ ds, ShPs l ds → ∃ x : α, pvs l ds = enc x ∧ B x) {d : DV} (h : ShP (.sl l) d) :
    ∃ xs : List α, pvD (.sl l) d = .lst .no l.length xs.length (xs.flatMap enc) ∧ xs.length ≤ maxLen ∧ ∀ x ∈ xs, B x := by
  cases h with
  | nil => exact ⟨[], by simp only [pvD]; rfl, Nat.zero_le _, fun x hx => by cases hx⟩
  | sl h hn _ =>
    obtain ⟨xs, g1, g2, g3⟩ := rows_dec hl hx h
    subst g1
    exact ⟨xs, by simp only [pvD]; rw [g2], hn, g3⟩
theorem int_dec {k : IntKind} {d : DV} (h : ShP (.int k) d) : ∃ n : Int, pvD (.int k) d = .v (.int k n) ∧ k.min ≤ n ∧ n ≤ k.max := by
  cases h with
  | int n h1 h2 => exact ⟨n, by simp only [pvD], h1, h2⟩
theorem bool_dec {d : DV} (h : ShP .bool d) : ∃ b : Bool, pvD .bool d = .v (.bool b) := by
  cases h with
  | bool b => exact ⟨b, by simp only [pvD]⟩
theorem str_dec {d : DV} (h : ShP .str d) : ∃ s : ByteArray, pvD .str d = .v (.string s) ∧ s.size ≤ maxLen := by
  cases h with
  | str s h => exact ⟨s, by simp only [pvD], h⟩
theorem pvD_agg {cx : Cx} {ng : Nat} {l : List Sh} {ds : List DV} {R : List (List Value × Nat)} (h : ShPs l ds) (hH : Holds cx ng (lay ng (.agg ds) R).2) : PR cx (.agg (pvs l ds)) (lay ng (.agg ds) R).1 := by
  simp only [lay] at hH ⊢
  exact .agg (lay_prs ng h R hH)
end Go.Pm
end
