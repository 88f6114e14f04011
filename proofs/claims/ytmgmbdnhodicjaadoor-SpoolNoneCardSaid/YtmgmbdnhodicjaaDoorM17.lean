/- SpoolNone: what is none answers ErrNil, by a verified abstract machine and a logic over plain values. Part 17 of 19; no condition. -/
import Derived.Test.YtmgmbdnhodicjaaDoorM16
section
/- Code in its easy form, printed by a program; the kernel finds that it stands for the code. -/
set_option linter.unusedVariables false
set_option maxRecDepth 100000
namespace Go.Proofs.YtmgmbdnhodicjaaDoor
open Go Go.Am Go.Pm

/-! ### tributary/tributarylaw21.SpoolKnown -/
noncomputable def body3 : Code := match Tryd.f3.body with | some c => c | none => .skip
noncomputable abbrev c3_0 : RC := .ops [oV 0 (rmv (.const (.bool false)))]
noncomputable abbrev c3_1 : RC := .ops [oC 11 (.func 7) [(K 40), (K 5)],
  oV 10 (rmv (T 11)),
  oV 12 (rext (T 10) 0),
  oV 13 (rext (T 10) 1),
  oV 1 (rmv (T 12)),
  oV 2 (rmv (T 13))]
noncomputable abbrev c3_2 : RC := .ops [oC 15 (.func 7) [(K 16), (K 5)],
  oV 14 (rmv (T 15)),
  oV 16 (rext (T 14) 0),
  oV 17 (rext (T 14) 1),
  oV 3 (rmv (T 16)),
  oV 4 (rmv (T 17))]
noncomputable abbrev c3_3 : RC := .ops [oC 19 (.func 7) [(K 100), (K 0)],
  oV 18 (rmv (T 19)),
  oV 20 (rext (T 18) 0),
  oV 21 (rext (T 18) 1),
  oV 5 (rmv (T 20)),
  oV 6 (rmv (T 21))]
noncomputable abbrev c3_4 : RC := .ops [oC 23 (.func 7) [(K (-1)), (K 0)],
  oV 22 (rmv (T 23)),
  oV 24 (rext (T 22) 0),
  oV 25 (rext (T 22) 1),
  oV 7 (rmv (T 24)),
  oV 8 (rmv (T 25))]
noncomputable abbrev c3_5 : RC := .ops [oV 26 (rmv (T 2)),
  oV 27 (rbin env .neq 23 false true (T 26) (K 0)),
  oV 28 (rmv (T 27)),
  oG 29 28 false (rmv (T 1)),
  oG 30 28 false (rbin env .eql 22 false true (T 29) (.const (.pointer none))),
  oV 31 (rpick (T 28) (.const (.bool true)) (T 30)),
  oV 32 (rmv (T 31)),
  oG 33 32 false (rmv (T 4)),
  oG 34 32 false (rbin env .neq 23 false true (T 33) (K 0)),
  oV 35 (rpick (T 32) (.const (.bool true)) (T 34)),
  oV 36 (rmv (T 35)),
  oG 37 36 false (rmv (T 3)),
  oG 38 36 false (rbin env .eql 22 false true (T 37) (.const (.pointer none))),
  oV 39 (rpick (T 36) (.const (.bool true)) (T 38)),
  oV 40 (rmv (T 39)),
  oG 41 40 false (rmv (T 6)),
  oG 42 40 false (rbin env .neq 23 false true (T 41) (K 0)),
  oV 43 (rpick (T 40) (.const (.bool true)) (T 42)),
  oV 44 (rmv (T 43)),
  oG 45 44 false (rmv (T 5)),
  oG 46 44 false (rbin env .eql 22 false true (T 45) (.const (.pointer none))),
  oV 47 (rpick (T 44) (.const (.bool true)) (T 46)),
  oV 48 (rmv (T 47)),
  oG 49 48 false (rmv (T 1)),
  oCG 50 48 false (.func 9) [],
  oCG 51 48 false (.func 8) [(T 49), (T 50)],
  oG 52 48 false (rbin env .neq 23 false true (T 51) (K 0)),
  oV 53 (rpick (T 48) (.const (.bool true)) (T 52))]
noncomputable abbrev c3_6 : RC := .ops [oV 0 (rmv (.const (.bool false)))]
noncomputable abbrev c3_7 : RC := .seq c3_6 .ret
noncomputable abbrev c3_8 : RC := .cond (rX 53) c3_7 .skip
noncomputable abbrev c3_9 : RC := .seq c3_5 c3_8
noncomputable abbrev c3_10 : RC := .ops [oV 54 (rmv (T 1)),
  oC 55 (.func 9) [],
  oV 56 (rfield true 2 0 (T 55)),
  oC 57 (.func 10) [(T 54), (T 56)],
  oV 58 (rbin env .eql 23 false true (T 57) (K 0)),
  oV 59 (rmv (T 58)),
  oG 60 59 true (rmv (T 1)),
  oCG 61 59 true (.func 11) [],
  oCG 62 59 true (.func 8) [(T 60), (T 61)],
  oG 63 59 true (rbin env .eql 23 false true (T 62) (K 0)),
  oV 64 (rpick (T 59) (T 63) (.const (.bool false))),
  oV 65 (rmv (T 64)),
  oG 66 65 true (rmv (T 1)),
  oCG 67 65 true (.func 12) [(T 66), (K 26), (K 1)],
  oV 68 (rpick (T 65) (T 67) (.const (.bool false))),
  oV 69 (rmv (T 68)),
  oG 70 69 true (rmv (T 1)),
  oCG 71 69 true (.func 13) [(T 70)],
  oG 72 69 true (rbin env .eql 3 false true (T 71) (K 26)),
  oV 73 (rpick (T 69) (T 72) (.const (.bool false))),
  oV 74 (rmv (T 73)),
  oG 75 74 true (rmv (T 1)),
  oCG 76 74 true (.func 9) [],
  oG 77 74 true (rfield true 2 0 (T 76)),
  oCG 78 74 true (.func 10) [(T 75), (T 77)],
  oG 79 74 true (rbin env .eql 23 false true (T 78) (K 6)),
  oV 80 (rpick (T 74) (T 79) (.const (.bool false))),
  oV 9 (rmv (T 80))]
noncomputable abbrev c3_11 : RC := .ops [oC 81 (.func 14) [],
  oV 82 (rmv (T 81)),
  oG 83 82 true (rmv (T 9)),
  oV 84 (rpick (T 82) (T 83) (.const (.bool false))),
  oV 85 (rmv (T 84)),
  oG 86 85 true (rmv (T 3)),
  oCG 87 85 true (.func 9) [],
  oCG 88 85 true (.func 8) [(T 86), (T 87)],
  oG 89 85 true (rbin env .eql 23 false true (T 88) (K 3)),
  oV 90 (rpick (T 85) (T 89) (.const (.bool false))),
  oV 91 (rmv (T 90)),
  oG 92 91 true (rmv (T 8)),
  oG 93 91 true (rbin env .eql 23 false true (T 92) (K 2)),
  oV 94 (rpick (T 91) (T 93) (.const (.bool false))),
  oV 95 (rmv (T 94)),
  oG 96 95 true (rmv (T 5)),
  oCG 97 95 true (.func 9) [],
  oCG 98 95 true (.func 8) [(T 96), (T 97)],
  oG 99 95 true (rbin env .eql 23 false true (T 98) (K 3)),
  oV 100 (rpick (T 95) (T 99) (.const (.bool false))),
  oV 0 (rmv (T 100))]
noncomputable abbrev c3_12 : RC := .seq c3_11 .ret
noncomputable abbrev c3_13 : RC := .seq c3_10 c3_12
noncomputable abbrev c3_14 : RC := .seq c3_9 c3_13
noncomputable abbrev c3_15 : RC := .seq c3_4 c3_14
noncomputable abbrev c3_16 : RC := .seq c3_3 c3_15
noncomputable abbrev c3_17 : RC := .seq c3_2 c3_16
noncomputable abbrev c3_18 : RC := .seq c3_1 c3_17
noncomputable abbrev c3_19 : RC := .seq c3_0 c3_18
theorem fn3 : env.fn 3 = some ⟨101, [.tmp 0], body3⟩ := by kernel_rfl
theorem comp3 : comp env body3 = c3_19 := by kernel_rfl

/-! ### tributary/tributarylaw21.SpoolDrains -/
noncomputable def body4 : Code := match Tryd.f4.body with | some c => c | none => .skip
noncomputable abbrev c4_0 : RC := .ops [oU 7 (rbox (T 3)),
  oV 8 (rmv (.const (.bool false)))]
noncomputable abbrev c4_1 : RC := .ops [oC 21 (.func 14) [],
  oV 9 (rmv (T 21))]
noncomputable abbrev c4_2 : RC := .ops [oV 22 (rmv (T 0)),
  oC 23 (.func 15) [(T 22), (K 3001)],
  oV 24 (rmv (T 1)),
  oC 25 (.func 15) [(T 24), (K 12)],
  oV 26 (rbin env .add 3 true false (K 1) (T 25)),
  oV 0 (rmv (T 23)),
  oV 1 (rmv (T 26))]
noncomputable abbrev c4_3 : RC := .ops [oV 28 (rmv (T 0)),
  oV 29 (rmv (T 1)),
  oC 30 (.func 7) [(T 28), (T 29)],
  oV 27 (rmv (T 30)),
  oV 31 (rext (T 27) 0),
  oV 32 (rext (T 27) 1),
  oV 10 (rmv (T 31)),
  oV 11 (rmv (T 32))]
noncomputable abbrev c4_4 : RC := .ops [oV 33 (rmv (T 11)),
  oV 34 (rbin env .neq 23 false true (T 33) (K 0)),
  oV 35 (rmv (T 34)),
  oG 36 35 false (rmv (T 10)),
  oG 37 35 false (rbin env .eql 22 false true (T 36) (.const (.pointer none))),
  oV 38 (rpick (T 35) (.const (.bool true)) (T 37))]
noncomputable abbrev c4_5 : RC := .ops [oV 8 (rmv (.const (.bool false)))]
noncomputable abbrev c4_6 : RC := .seq c4_5 .ret
noncomputable abbrev c4_7 : RC := .cond (rX 38) c4_6 .skip
noncomputable abbrev c4_8 : RC := .seq c4_4 c4_7
noncomputable abbrev c4_9 : RC := .ops [oV 39 (rmv (T 2)),
  oC 40 (.func 16) [(T 39)],
  oV 41 (rmv (T 40)),
  oG 42 41 false (rload true 7 (T 7)),
  oG 43 41 false (rbuild [.v (.bool false), .v (.int .i64 0), .v (.int .i64 0), .v (.string ⟨#[]⟩), .v (.int .i64 0), .v (.int .i64 0), .lst .full 0 0 [], .lst .full 0 0 []] [(0, 1), (1, 7)] [(1, (T 42))]),
  oH 44 41 false (rbuildL 8 1 [.v (.bool false), .v (.int .i64 0), .v (.int .i64 0), .v (.string ⟨#[]⟩), .v (.int .i64 0), .v (.int .i64 0), .lst .full 0 0 [], .lst .full 0 0 []] [(0, (T 43))]),
  oCG 45 41 false (.func 16) [(T 44)],
  oV 46 (rpick (T 41) (.const (.bool true)) (T 45))]
noncomputable abbrev c4_10 : RC := .ops [oV 47 (rmv (T 9)),
  oV 8 (rmv (T 47))]
noncomputable abbrev c4_11 : RC := .seq c4_10 .ret
noncomputable abbrev c4_12 : RC := .cond (rX 46) c4_11 .skip
noncomputable abbrev c4_13 : RC := .seq c4_9 c4_12
noncomputable abbrev c4_14 : RC := .ops [oV 12 (rmv (K 0))]
noncomputable abbrev c4_15 : RC := .ops [oV 48 (rmv (T 12)),
  oV 49 (rmv (T 2)),
  oV 50 (rlen (T 49)),
  oV 51 (rbin env .lss 3 false false (T 48) (T 50))]
noncomputable abbrev c4_16 : RC := .cond (rX 51) .skip (.exit 0)
noncomputable abbrev c4_17 : RC := .seq c4_15 c4_16
noncomputable abbrev c4_18 : RC := .ops [oV 54 (rmv (T 10)),
  oV 55 (rmv (T 2)),
  oV 56 (rmv (T 12)),
  oV 57 (riaddr 8 (T 55) (T 56)),
  oV 58 (rfaddr 1 (T 57)),
  oV 59 (rload true 7 (T 58)),
  oC 60 (.func 8) [(T 54), (T 59)]]
noncomputable abbrev c4_19 : RC := .block 1 c4_18
noncomputable abbrev c4_20 : RC := .ops [oV 52 (rmv (T 12)),
  oV 53 (rbin env .add 3 false true (T 52) (K 1)),
  oV 12 (rmv (T 53))]
noncomputable abbrev c4_21 : RC := .seq c4_19 c4_20
noncomputable abbrev c4_22 : RC := .seq c4_17 c4_21
noncomputable abbrev c4_23 : RC := .loop c4_22
noncomputable abbrev c4_24 : RC := .block 0 c4_23
noncomputable abbrev c4_25 : RC := .seq c4_14 c4_24
noncomputable abbrev c4_26 : RC := .ops [oV 61 (rmv (T 10)),
  oC 62 (.func 17) [(T 61)],
  oV 13 (rmv (T 62))]
noncomputable abbrev c4_27 : RC := .ops [oV 14 (rmv (K 0))]
noncomputable abbrev c4_28 : RC := .ops [oV 63 (rmv (T 14)),
  oV 64 (rmv (T 13)),
  oV 65 (rlen (T 64)),
  oV 66 (rbin env .lss 3 false false (T 63) (T 65))]
noncomputable abbrev c4_29 : RC := .cond (rX 66) .skip (.exit 2)
noncomputable abbrev c4_30 : RC := .seq c4_28 c4_29
noncomputable abbrev c4_31 : RC := .ops [oV 70 (rmv (T 10)),
  oC 71 (.func 18) [(T 70)],
  oV 69 (rmv (T 71)),
  oV 72 (rext (T 69) 0),
  oV 73 (rext (T 69) 1),
  oU 15 (rnew [.v (.int .i64 0), .v (.int .i64 0), .v (.string ⟨#[]⟩), .v (.int .i64 0), .v (.int .i64 0), .lst .full 0 0 [], .lst .full 0 0 []]),
  oS (rstore 7 (T 15) (T 72)),
  oV 16 (rmv (T 73))]
noncomputable abbrev c4_32 : RC := .drawn true [dV 74 (rmv (T 16)),
  dV 75 (run' .not (T 74)),
  dV 76 (rmv (T 75)),
  dG 77 76 false (rload true 7 (T 15)),
  dG 78 76 false (rmv (T 13)),
  dG 79 76 false (rmv (T 14)),
  dG 80 76 false (riaddr 7 (T 78) (T 79)),
  dG 81 76 false (rload true 7 (T 80)),
  dCG true 82 76 false (.func 19) [(T 77), (T 81)],
  dG 83 76 false (run' .not (T 82)),
  dV 84 (rpick (T 76) (.const (.bool true)) (T 83)),
  dV 85 (rmv (T 84)),
  dG 86 85 false (rmv (T 10)),
  dG 87 85 false (rfaddr 0 (T 15)),
  dG 88 85 false (rload true 2 (T 87)),
  dCG true 89 85 false (.func 10) [(T 86), (T 88)],
  dG 90 85 false (rbin env .neq 23 false true (T 89) (K 0)),
  dV 91 (rpick (T 85) (.const (.bool true)) (T 90))]
noncomputable abbrev c4_33 : RC := .ops [oV 8 (rmv (.const (.bool false)))]
noncomputable abbrev c4_34 : RC := .seq c4_33 .ret
noncomputable abbrev c4_35 : RC := .cond (rX 91) c4_34 .skip
noncomputable abbrev c4_36 : RC := .seq c4_32 c4_35
noncomputable abbrev c4_37 : RC := .seq c4_31 c4_36
noncomputable abbrev c4_38 : RC := .block 3 c4_37
noncomputable abbrev c4_39 : RC := .ops [oV 67 (rmv (T 14)),
  oV 68 (rbin env .add 3 false true (T 67) (K 1)),
  oV 14 (rmv (T 68))]
noncomputable abbrev c4_40 : RC := .seq c4_38 c4_39
noncomputable abbrev c4_41 : RC := .seq c4_30 c4_40
noncomputable abbrev c4_42 : RC := .loop c4_41
noncomputable abbrev c4_43 : RC := .block 2 c4_42
noncomputable abbrev c4_44 : RC := .seq c4_27 c4_43
noncomputable abbrev c4_45 : RC := .ops [oV 93 (rmv (T 10)),
  oC 94 (.func 18) [(T 93)],
  oV 92 (rmv (T 94)),
  oV 95 (rext (T 92) 0),
  oV 96 (rext (T 92) 1),
  oU 17 (rnew [.v (.int .i64 0), .v (.int .i64 0), .v (.string ⟨#[]⟩), .v (.int .i64 0), .v (.int .i64 0), .lst .full 0 0 [], .lst .full 0 0 []]),
  oS (rstore 7 (T 17) (T 95)),
  oV 18 (rmv (T 96))]
noncomputable abbrev c4_46 : RC := .ops [oV 97 (rmv (T 18)),
  oV 98 (rmv (T 97)),
  oG 99 98 false (rmv (T 10)),
  oCG 100 98 false (.func 12) [(T 99), (K 0), (K 0)],
  oG 101 98 false (run' .not (T 100)),
  oV 102 (rpick (T 98) (.const (.bool true)) (T 101))]
noncomputable abbrev c4_47 : RC := .ops [oV 8 (rmv (.const (.bool false)))]
noncomputable abbrev c4_48 : RC := .seq c4_47 .ret
noncomputable abbrev c4_49 : RC := .cond (rX 102) c4_48 .skip
noncomputable abbrev c4_50 : RC := .seq c4_46 c4_49
noncomputable abbrev c4_51 : RC := .ops [oV 103 (rmv (T 10)),
  oV 104 (rload true 7 (T 7)),
  oC 105 (.func 8) [(T 103), (T 104)],
  oV 19 (rmv (T 105))]
noncomputable abbrev c4_52 : RC := .ops [oV 106 (rload true 7 (T 7)),
  oC 107 (.func 20) [(T 106)],
  oV 108 (rbin env .eql 23 false true (T 107) (K 0)),
  oV 109 (rmv (T 108)),
  oG 110 109 true (rload true 7 (T 7)),
  oCG 111 109 true (.func 21) [(T 110)],
  oG 112 109 true (rmv (T 0)),
  oG 113 109 true (rbin env .leq 3 false false (T 111) (T 112)),
  oV 114 (rpick (T 109) (T 113) (.const (.bool false))),
  oV 20 (rmv (T 114))]
noncomputable abbrev c4_53 : RC := .ops [oV 115 (rmv (T 9)),
  oV 116 (rmv (T 115)),
  oG 117 116 true (rmv (T 19)),
  oG 118 116 true (rbin env .eql 23 false true (T 117) (K 0)),
  oG 119 116 true (rmv (T 20)),
  oG 120 116 true (rbin env .eql 4 false false (T 118) (T 119)),
  oV 121 (rpick (T 116) (T 120) (.const (.bool false))),
  oV 8 (rmv (T 121))]
noncomputable abbrev c4_54 : RC := .seq c4_53 .ret
noncomputable abbrev c4_55 : RC := .seq c4_52 c4_54
noncomputable abbrev c4_56 : RC := .seq c4_51 c4_55
noncomputable abbrev c4_57 : RC := .seq c4_50 c4_56
noncomputable abbrev c4_58 : RC := .seq c4_45 c4_57
noncomputable abbrev c4_59 : RC := .seq c4_44 c4_58
noncomputable abbrev c4_60 : RC := .seq c4_26 c4_59
noncomputable abbrev c4_61 : RC := .seq c4_25 c4_60
noncomputable abbrev c4_62 : RC := .seq c4_13 c4_61
noncomputable abbrev c4_63 : RC := .seq c4_8 c4_62
noncomputable abbrev c4_64 : RC := .seq c4_3 c4_63
noncomputable abbrev c4_65 : RC := .seq c4_2 c4_64
noncomputable abbrev c4_66 : RC := .seq c4_1 c4_65
noncomputable abbrev c4_67 : RC := .seq c4_0 c4_66
theorem fn4 : env.fn 4 = some ⟨122, [.tmp 8], body4⟩ := by kernel_rfl
theorem comp4 : comp env body4 = c4_67 := by kernel_rfl

/-! ### tributary/tributarylaw21.SpoolNone -/
noncomputable def body5 : Code := match Tryd.f5.body with | some c => c | none => .skip
noncomputable abbrev c5_0 : RC := .ops [oU 1 (rbox (T 0)),
  oV 2 (rmv (.const (.bool false)))]
noncomputable abbrev c5_1 : RC := .ops [oV 10 (rload true 7 (T 1)),
  oU 11 (rbuildL 7 1 [.v (.int .i64 0), .v (.int .i64 0), .v (.string ⟨#[]⟩), .v (.int .i64 0), .v (.int .i64 0), .lst .full 0 0 [], .lst .full 0 0 []] [(0, (T 10))]),
  oC 12 (.func 22) [(T 11), (K 1)]]
noncomputable abbrev c5_2 : RC := .ops [oC 13 (.func 14) [],
  oV 2 (rmv (T 13))]
noncomputable abbrev c5_3 : RC := .seq c5_2 .ret
noncomputable abbrev c5_4 : RC := .cond (rX 12) c5_3 .skip
noncomputable abbrev c5_5 : RC := .seq c5_1 c5_4
noncomputable abbrev c5_6 : RC := .ops [oV 14 (rbuild [.v (.bool false), .v (.int .i64 0), .v (.int .i64 0), .v (.pointer none), .v (.int .i64 0), .v (.int .i64 0), .v (.int .i64 0)] [(0, 1), (1, 1), (2, 1), (3, 1), (4, 1), (5, 1), (6, 1)] []),
  oU 15 (rbox (T 14)),
  oU 16 (rbuildL 1 2 [.v (.pointer none), .v (.pointer none)] [(0, (.const (.pointer none))), (1, (T 15))]),
  oV 3 (rmv (T 16))]
noncomputable abbrev c5_7 : RC := .ops [oV 4 (rmv (K 0))]
noncomputable abbrev c5_8 : RC := .ops [oV 17 (rmv (T 4)),
  oV 18 (rmv (T 3)),
  oV 19 (rlen (T 18)),
  oV 20 (rbin env .lss 3 false false (T 17) (T 19))]
noncomputable abbrev c5_9 : RC := .cond (rX 20) .skip (.exit 0)
noncomputable abbrev c5_10 : RC := .seq c5_8 c5_9
noncomputable abbrev c5_11 : RC := .ops [oV 23 (rmv (T 3)),
  oV 24 (rmv (T 4)),
  oV 25 (riaddr 1 (T 23) (T 24)),
  oV 26 (rload false 1 (T 25)),
  oV 5 (rmv (T 26))]
noncomputable abbrev c5_12 : RC := .ops [oV 28 (rmv (T 5)),
  oC 29 (.func 23) [(T 28)],
  oV 27 (rmv (T 29)),
  oV 30 (rext (T 27) 0),
  oV 31 (rext (T 27) 1),
  oV 6 (rmv (T 30)),
  oV 7 (rmv (T 31))]
noncomputable abbrev c5_13 : RC := .ops [oV 33 (rmv (T 5)),
  oC 34 (.func 18) [(T 33)],
  oV 32 (rmv (T 34)),
  oV 35 (rext (T 32) 0),
  oV 36 (rext (T 32) 1),
  oU 8 (rnew [.v (.int .i64 0), .v (.int .i64 0), .v (.string ⟨#[]⟩), .v (.int .i64 0), .v (.int .i64 0), .lst .full 0 0 [], .lst .full 0 0 []]),
  oS (rstore 7 (T 8) (T 35)),
  oV 9 (rmv (T 36))]
noncomputable abbrev c5_14 : RC := .ops [oV 37 (rmv (T 5)),
  oV 38 (rload true 7 (T 1)),
  oC 39 (.func 8) [(T 37), (T 38)],
  oV 40 (rbin env .neq 23 false true (T 39) (K 1)),
  oV 41 (rmv (T 40)),
  oG 42 41 false (rmv (T 5)),
  oG 43 41 false (rfaddr 0 (T 1)),
  oG 44 41 false (rload true 2 (T 43)),
  oCG 45 41 false (.func 10) [(T 42), (T 44)],
  oG 46 41 false (rbin env .neq 23 false true (T 45) (K 1)),
  oV 47 (rpick (T 41) (.const (.bool true)) (T 46)),
  oV 48 (rmv (T 47)),
  oG 49 48 false (rmv (T 6)),
  oG 50 48 false (rmv (T 7)),
  oG 51 48 false (rbin env .add 3 false false (T 49) (T 50)),
  oG 52 48 false (rmv (T 5)),
  oCG 53 48 false (.func 13) [(T 52)],
  oG 54 48 false (rbin env .add 3 false false (T 51) (T 53)),
  oG 55 48 false (rmv (T 5)),
  oCG 56 48 false (.func 17) [(T 55)],
  oG 57 48 false (rlen (T 56)),
  oG 58 48 false (rbin env .add 3 false false (T 54) (T 57)),
  oG 59 48 false (rbin env .neq 3 false true (T 58) (K 0)),
  oV 60 (rpick (T 48) (.const (.bool true)) (T 59)),
  oV 61 (rmv (T 60)),
  oG 62 61 false (rmv (T 9)),
  oV 63 (rpick (T 61) (.const (.bool true)) (T 62))]
noncomputable abbrev c5_15 : RC := .ops [oV 2 (rmv (.const (.bool false)))]
noncomputable abbrev c5_16 : RC := .seq c5_15 .ret
noncomputable abbrev c5_17 : RC := .cond (rX 63) c5_16 .skip
noncomputable abbrev c5_18 : RC := .seq c5_14 c5_17
noncomputable abbrev c5_19 : RC := .seq c5_13 c5_18
noncomputable abbrev c5_20 : RC := .seq c5_12 c5_19
noncomputable abbrev c5_21 : RC := .seq c5_11 c5_20
noncomputable abbrev c5_22 : RC := .block 1 c5_21
noncomputable abbrev c5_23 : RC := .ops [oV 21 (rmv (T 4)),
  oV 22 (rbin env .add 3 false true (T 21) (K 1)),
  oV 4 (rmv (T 22))]
noncomputable abbrev c5_24 : RC := .seq c5_22 c5_23
noncomputable abbrev c5_25 : RC := .seq c5_10 c5_24
noncomputable abbrev c5_26 : RC := .loop c5_25
noncomputable abbrev c5_27 : RC := .block 0 c5_26
noncomputable abbrev c5_28 : RC := .seq c5_7 c5_27
noncomputable abbrev c5_29 : RC := .ops [oC 64 (.func 14) [],
  oV 2 (rmv (T 64))]
noncomputable abbrev c5_30 : RC := .seq c5_29 .ret
noncomputable abbrev c5_31 : RC := .seq c5_28 c5_30
noncomputable abbrev c5_32 : RC := .seq c5_6 c5_31
noncomputable abbrev c5_33 : RC := .seq c5_5 c5_32
noncomputable abbrev c5_34 : RC := .seq c5_0 c5_33
theorem fn5 : env.fn 5 = some ⟨65, [.tmp 2], body5⟩ := by kernel_rfl
theorem comp5 : comp env body5 = c5_34 := by kernel_rfl

/-! ### tributary/tributarylaw08.EventOrder -/
noncomputable def body6 : Code := match Tryd.f6.body with | some c => c | none => .skip
noncomputable abbrev c6_0 : RC := .ops [oV 4 (rmv (.const (.bool false)))]
noncomputable abbrev c6_1 : RC := .ops [oC 15 (.func 24) [],
  oV 5 (rmv (T 15))]
noncomputable abbrev c6_2 : RC := .ops [oV 16 (rmv (T 0)),
  oC 17 (.func 22) [(T 16), (K 20)],
  oV 18 (rmv (T 17)),
  oG 19 18 false (rmv (T 0)),
  oCG 20 18 false (.func 25) [(T 19)],
  oG 21 18 false (run' .not (T 20)),
  oV 22 (rpick (T 18) (.const (.bool true)) (T 21))]
noncomputable abbrev c6_3 : RC := .ops [oV 23 (rmv (T 5)),
  oV 4 (rmv (T 23))]
noncomputable abbrev c6_4 : RC := .seq c6_3 .ret
noncomputable abbrev c6_5 : RC := .cond (rX 22) c6_4 .skip
noncomputable abbrev c6_6 : RC := .seq c6_2 c6_5
noncomputable abbrev c6_7 : RC := .ops [oV 6 (rmv (K 0))]
noncomputable abbrev c6_8 : RC := .ops [oV 24 (rmv (T 6)),
  oV 25 (rmv (T 0)),
  oV 26 (rlen (T 25)),
  oV 27 (rbin env .lss 3 false false (T 24) (T 26))]
noncomputable abbrev c6_9 : RC := .cond (rX 27) .skip (.exit 0)
noncomputable abbrev c6_10 : RC := .seq c6_8 c6_9
noncomputable abbrev c6_11 : RC := .ops [oV 7 (rmv (K 0))]
noncomputable abbrev c6_12 : RC := .ops [oV 30 (rmv (T 7)),
  oV 31 (rmv (T 0)),
  oV 32 (rlen (T 31)),
  oV 33 (rbin env .lss 3 false false (T 30) (T 32))]
noncomputable abbrev c6_13 : RC := .cond (rX 33) .skip (.exit 2)
noncomputable abbrev c6_14 : RC := .seq c6_12 c6_13
noncomputable abbrev c6_15 : RC := .drawn true [dV 36 (rmv (T 0)),
  dV 37 (rmv (T 6)),
  dV 38 (riaddr 7 (T 36) (T 37)),
  dV 39 (rload true 7 (T 38)),
  dV 40 (rmv (T 0)),
  dV 41 (rmv (T 7)),
  dV 42 (riaddr 7 (T 40) (T 41)),
  dV 43 (rload true 7 (T 42)),
  dC true 44 (.func 26) [(T 39), (T 43)],
  dV 8 (rmv (T 44))]
noncomputable abbrev c6_16 : RC := .drawn true [dV 45 (rmv (T 8)),
  dV 46 (rmv (T 45)),
  dG 47 46 true (rmv (T 6)),
  dG 48 46 true (rmv (T 7)),
  dG 49 46 true (rbin env .eql 3 false false (T 47) (T 48)),
  dG 50 46 true (rmv (T 49)),
  dG 51 50 false (rmv (T 0)),
  dG 52 50 false (rmv (T 7)),
  dG 53 50 false (riaddr 7 (T 51) (T 52)),
  dG 54 50 false (rload true 7 (T 53)),
  dG 55 50 false (rmv (T 0)),
  dG 56 50 false (rmv (T 6)),
  dG 57 50 false (riaddr 7 (T 55) (T 56)),
  dG 58 50 false (rload true 7 (T 57)),
  dCG true 59 50 false (.func 26) [(T 54), (T 58)],
  dG 60 46 true (rpick (T 50) (.const (.bool true)) (T 59)),
  dV 61 (rpick (T 46) (T 60) (.const (.bool false)))]
noncomputable abbrev c6_17 : RC := .ops [oV 4 (rmv (.const (.bool false)))]
noncomputable abbrev c6_18 : RC := .seq c6_17 .ret
noncomputable abbrev c6_19 : RC := .cond (rX 61) c6_18 .skip
noncomputable abbrev c6_20 : RC := .seq c6_16 c6_19
noncomputable abbrev c6_21 : RC := .ops [oV 9 (rmv (K 0))]
noncomputable abbrev c6_22 : RC := .ops [oV 62 (rmv (T 8)),
  oV 63 (rmv (T 62)),
  oG 64 63 true (rmv (T 9)),
  oG 65 63 true (rmv (T 0)),
  oG 66 63 true (rlen (T 65)),
  oG 67 63 true (rbin env .lss 3 false false (T 64) (T 66)),
  oV 68 (rpick (T 63) (T 67) (.const (.bool false)))]
noncomputable abbrev c6_23 : RC := .cond (rX 68) .skip (.exit 4)
noncomputable abbrev c6_24 : RC := .seq c6_22 c6_23
noncomputable abbrev c6_25 : RC := .drawn true [dV 71 (rmv (T 0)),
  dV 72 (rmv (T 7)),
  dV 73 (riaddr 7 (T 71) (T 72)),
  dV 74 (rload true 7 (T 73)),
  dV 75 (rmv (T 0)),
  dV 76 (rmv (T 9)),
  dV 77 (riaddr 7 (T 75) (T 76)),
  dV 78 (rload true 7 (T 77)),
  dC true 79 (.func 26) [(T 74), (T 78)],
  dV 80 (rmv (T 79)),
  dG 81 80 true (rmv (T 0)),
  dG 82 80 true (rmv (T 6)),
  dG 83 80 true (riaddr 7 (T 81) (T 82)),
  dG 84 80 true (rload true 7 (T 83)),
  dG 85 80 true (rmv (T 0)),
  dG 86 80 true (rmv (T 9)),
  dG 87 80 true (riaddr 7 (T 85) (T 86)),
  dG 88 80 true (rload true 7 (T 87)),
  dCG true 89 80 true (.func 26) [(T 84), (T 88)],
  dG 90 80 true (run' .not (T 89)),
  dV 91 (rpick (T 80) (T 90) (.const (.bool false)))]
noncomputable abbrev c6_26 : RC := .ops [oV 4 (rmv (.const (.bool false)))]
noncomputable abbrev c6_27 : RC := .seq c6_26 .ret
noncomputable abbrev c6_28 : RC := .cond (rX 91) c6_27 .skip
noncomputable abbrev c6_29 : RC := .seq c6_25 c6_28
noncomputable abbrev c6_30 : RC := .block 5 c6_29
noncomputable abbrev c6_31 : RC := .ops [oV 69 (rmv (T 9)),
  oV 70 (rbin env .add 3 false true (T 69) (K 1)),
  oV 9 (rmv (T 70))]
noncomputable abbrev c6_32 : RC := .seq c6_30 c6_31
noncomputable abbrev c6_33 : RC := .seq c6_24 c6_32
noncomputable abbrev c6_34 : RC := .loop c6_33
noncomputable abbrev c6_35 : RC := .block 4 c6_34
noncomputable abbrev c6_36 : RC := .seq c6_21 c6_35
noncomputable abbrev c6_37 : RC := .seq c6_20 c6_36
noncomputable abbrev c6_38 : RC := .seq c6_15 c6_37
noncomputable abbrev c6_39 : RC := .block 3 c6_38
noncomputable abbrev c6_40 : RC := .ops [oV 34 (rmv (T 7)),
  oV 35 (rbin env .add 3 false true (T 34) (K 1)),
  oV 7 (rmv (T 35))]
noncomputable abbrev c6_41 : RC := .seq c6_39 c6_40
noncomputable abbrev c6_42 : RC := .seq c6_14 c6_41
noncomputable abbrev c6_43 : RC := .loop c6_42
noncomputable abbrev c6_44 : RC := .block 2 c6_43
noncomputable abbrev c6_45 : RC := .seq c6_11 c6_44
noncomputable abbrev c6_46 : RC := .block 1 c6_45
noncomputable abbrev c6_47 : RC := .ops [oV 28 (rmv (T 6)),
  oV 29 (rbin env .add 3 false true (T 28) (K 1)),
  oV 6 (rmv (T 29))]
noncomputable abbrev c6_48 : RC := .seq c6_46 c6_47
noncomputable abbrev c6_49 : RC := .seq c6_10 c6_48
noncomputable abbrev c6_50 : RC := .loop c6_49
noncomputable abbrev c6_51 : RC := .block 0 c6_50
noncomputable abbrev c6_52 : RC := .seq c6_7 c6_51
noncomputable abbrev c6_53 : RC := .ops [oV 93 (rmv (T 0)),
  oC 94 (.func 27) [(T 93)],
  oV 92 (rmv (T 94)),
  oV 95 (rext (T 92) 0),
  oV 96 (rext (T 92) 1),
  oV 10 (rmv (T 95)),
  oV 11 (rmv (T 96))]
noncomputable abbrev c6_54 : RC := .ops [oV 97 (rmv (T 1)),
  oC 98 (.func 15) [(T 97), (K 200)],
  oV 99 (rbin env .add 3 true false (K 1) (T 98)),
  oV 1 (rmv (T 99))]
noncomputable abbrev c6_55 : RC := .ops [oV 100 (rmv (T 10)),
  oV 101 (rmv (T 1)),
  oC 102 (.func 28) [(T 100), (T 101)],
  oV 12 (rmv (T 102))]
noncomputable abbrev c6_56 : RC := .ops [oV 103 (rmv (T 11)),
  oV 104 (rbin env .neq 23 false true (T 103) (K 0)),
  oV 105 (rmv (T 104)),
  oG 106 105 false (rmv (T 12)),
  oG 107 105 false (rbin env .geq 3 false true (T 106) (K 2147483647)),
  oV 108 (rpick (T 105) (.const (.bool true)) (T 107))]
noncomputable abbrev c6_57 : RC := .ops [oV 109 (rmv (T 5)),
  oV 110 (rmv (T 109)),
  oG 111 110 true (rmv (T 11)),
  oG 112 110 true (rbin env .eql 23 false true (T 111) (K 0)),
  oV 113 (rpick (T 110) (T 112) (.const (.bool false))),
  oV 4 (rmv (T 113))]
noncomputable abbrev c6_58 : RC := .seq c6_57 .ret
noncomputable abbrev c6_59 : RC := .cond (rX 108) c6_58 .skip
noncomputable abbrev c6_60 : RC := .seq c6_56 c6_59
noncomputable abbrev c6_61 : RC := .ops [oV 114 (rmv (T 1)),
  oV 115 (rmv (T 12)),
  oV 116 (rbin env .add 3 false true (T 115) (K 1)),
  oV 117 (rbuild [.v (.int .i64 0), .v (.int .i64 0)] [(0, 1), (1, 1)] [(0, (T 114)), (1, (T 116))]),
  oV 118 (rbuild [.v (.int .i64 0), .v (.int .i64 0), .lst .full 0 0 []] [(0, 1), (1, 1), (2, 1)] [(0, (K 2))]),
  oV 119 (rmv (T 10)),
  oV 120 (rbuild [.v (.int .i64 0), .v (.int .i64 0), .v (.string ⟨#[]⟩), .v (.int .i64 0), .v (.int .i64 0), .lst .full 0 0 [], .lst .full 0 0 []] [(0, 2), (2, 1), (3, 3), (6, 1)] [(0, (T 117)), (1, (.const (.string ⟨#[97, 47, 98]⟩))), (2, (T 118)), (3, (T 119))]),
  oU 13 (rnew [.v (.int .i64 0), .v (.int .i64 0), .v (.string ⟨#[]⟩), .v (.int .i64 0), .v (.int .i64 0), .lst .full 0 0 [], .lst .full 0 0 []]),
  oS (rstore 7 (T 13) (T 120))]
noncomputable abbrev c6_62 : RC := .ops [oV 14 (rmv (K 0))]
noncomputable abbrev c6_63 : RC := .ops [oV 121 (rmv (T 14)),
  oV 122 (rmv (T 0)),
  oV 123 (rlen (T 122)),
  oV 124 (rbin env .lss 3 false false (T 121) (T 123))]
noncomputable abbrev c6_64 : RC := .cond (rX 124) .skip (.exit 6)
noncomputable abbrev c6_65 : RC := .seq c6_63 c6_64
noncomputable abbrev c6_66 : RC := .drawn true [dV 127 (rmv (T 0)),
  dV 128 (rmv (T 14)),
  dV 129 (riaddr 7 (T 127) (T 128)),
  dV 130 (rload true 7 (T 129)),
  dV 131 (rload true 7 (T 13)),
  dC true 132 (.func 26) [(T 130), (T 131)],
  dV 133 (run' .not (T 132)),
  dV 134 (rmv (T 133)),
  dG 135 134 false (rload true 7 (T 13)),
  dG 136 134 false (rmv (T 0)),
  dG 137 134 false (rmv (T 14)),
  dG 138 134 false (riaddr 7 (T 136) (T 137)),
  dG 139 134 false (rload true 7 (T 138)),
  dCG true 140 134 false (.func 26) [(T 135), (T 139)],
  dV 141 (rpick (T 134) (.const (.bool true)) (T 140))]
noncomputable abbrev c6_67 : RC := .ops [oV 4 (rmv (.const (.bool false)))]
noncomputable abbrev c6_68 : RC := .seq c6_67 .ret
noncomputable abbrev c6_69 : RC := .cond (rX 141) c6_68 .skip
noncomputable abbrev c6_70 : RC := .seq c6_66 c6_69
noncomputable abbrev c6_71 : RC := .block 7 c6_70
noncomputable abbrev c6_72 : RC := .ops [oV 125 (rmv (T 14)),
  oV 126 (rbin env .add 3 false true (T 125) (K 1)),
  oV 14 (rmv (T 126))]
noncomputable abbrev c6_73 : RC := .seq c6_71 c6_72
noncomputable abbrev c6_74 : RC := .seq c6_65 c6_73
noncomputable abbrev c6_75 : RC := .loop c6_74
noncomputable abbrev c6_76 : RC := .block 6 c6_75
noncomputable abbrev c6_77 : RC := .seq c6_62 c6_76
noncomputable abbrev c6_78 : RC := .drawn true [dV 142 (rmv (T 5)),
  dV 143 (rmv (T 142)),
  dG 144 143 true (rload true 7 (T 13)),
  dCG true 145 143 true (.func 20) [(T 144)],
  dG 146 143 true (rbin env .eql 23 false true (T 145) (K 0)),
  dV 147 (rpick (T 143) (T 146) (.const (.bool false))),
  dV 148 (rmv (T 147)),
  dG 149 148 true (rmv (T 0)),
  dG 151 148 true (rload true 7 (T 13)),
  dH 152 148 true (rbuildL 7 1 [.v (.int .i64 0), .v (.int .i64 0), .v (.string ⟨#[]⟩), .v (.int .i64 0), .v (.int .i64 0), .lst .full 0 0 [], .lst .full 0 0 []] [(0, (T 151))]),
  dCG false 150 148 true (.func 29) [(T 149)],
  dH 153 148 true (rappend 7 96 7 (T 150) (T 152)),
  dCG true 154 148 true (.func 25) [(T 153)],
  dV 155 (rpick (T 148) (T 154) (.const (.bool false))),
  dV 4 (rmv (T 155))]
noncomputable abbrev c6_79 : RC := .seq c6_78 .ret
noncomputable abbrev c6_80 : RC := .seq c6_77 c6_79
noncomputable abbrev c6_81 : RC := .seq c6_61 c6_80
noncomputable abbrev c6_82 : RC := .seq c6_60 c6_81
noncomputable abbrev c6_83 : RC := .seq c6_55 c6_82
noncomputable abbrev c6_84 : RC := .seq c6_54 c6_83
noncomputable abbrev c6_85 : RC := .seq c6_53 c6_84
noncomputable abbrev c6_86 : RC := .seq c6_52 c6_85
noncomputable abbrev c6_87 : RC := .seq c6_6 c6_86
noncomputable abbrev c6_88 : RC := .seq c6_1 c6_87
noncomputable abbrev c6_89 : RC := .seq c6_0 c6_88
theorem fn6 : env.fn 6 = some ⟨156, [.tmp 4], body6⟩ := by kernel_rfl
theorem comp6 : comp env body6 = c6_89 := by kernel_rfl

/-! ### tributary/spool.New -/
noncomputable def body7 : Code := match Tryd.f7.body with | some c => c | none => .skip
noncomputable abbrev c7_0 : RC := .ops [oV 4 (rmv (.const (.pointer none))),
  oV 5 (rmv (K 0))]
noncomputable abbrev c7_1 : RC := .ops [oV 6 (rmv (T 0)),
  oV 7 (rbin env .lss 3 false true (T 6) (K 0)),
  oV 8 (rmv (T 7)),
  oG 9 8 false (rmv (T 0)),
  oG 10 8 false (rbin env .gtr 3 false true (T 9) (K 10000000)),
  oV 11 (rpick (T 8) (.const (.bool true)) (T 10)),
  oV 12 (rmv (T 11)),
  oG 13 12 false (rmv (T 1)),
  oG 14 12 false (rbin env .lss 3 false true (T 13) (K 0)),
  oV 15 (rpick (T 12) (.const (.bool true)) (T 14)),
  oV 16 (rmv (T 15)),
  oG 17 16 false (rmv (T 1)),
  oG 18 16 false (rbin env .gtr 3 false true (T 17) (K 10000)),
  oV 19 (rpick (T 16) (.const (.bool true)) (T 18))]
noncomputable abbrev c7_2 : RC := .ops [oV 4 (rmv (.const (.pointer none))),
  oV 5 (rmv (K 2))]
noncomputable abbrev c7_3 : RC := .seq c7_2 .ret
noncomputable abbrev c7_4 : RC := .cond (rX 19) c7_3 .skip
noncomputable abbrev c7_5 : RC := .seq c7_1 c7_4
noncomputable abbrev c7_6 : RC := .ops [oV 20 (rmv (T 0)),
  oV 21 (rmv (T 1)),
  oV 22 (rbuild [.v (.bool false), .v (.int .i64 0), .v (.int .i64 0), .v (.pointer none), .v (.int .i64 0), .v (.int .i64 0), .v (.int .i64 0)] [(0, 1), (1, 1), (2, 1), (3, 1), (4, 1), (5, 1), (6, 1)] [(0, (.const (.bool true))), (1, (T 20)), (2, (T 21))]),
  oU 23 (rbox (T 22)),
  oV 4 (rmv (T 23)),
  oV 5 (rmv (K 0))]
noncomputable abbrev c7_7 : RC := .seq c7_6 .ret
noncomputable abbrev c7_8 : RC := .seq c7_5 c7_7
noncomputable abbrev c7_9 : RC := .seq c7_0 c7_8
theorem fn7 : env.fn 7 = some ⟨24, [.tmp 4, .tmp 5], body7⟩ := by kernel_rfl
theorem comp7 : comp env body7 = c7_9 := by kernel_rfl

/-! ### (*tributary/spool.Spool).Put -/
noncomputable def body8 : Code := match Tryd.f8.body with | some c => c | none => .skip
noncomputable abbrev c8_0 : RC := .ops [oU 3 (rbox (T 1)),
  oV 4 (rmv (K 0))]
noncomputable abbrev c8_1 : RC := .ops [oV 9 (rmv (T 0)),
  oC 10 (.func 30) [(T 9)]]
noncomputable abbrev c8_2 : RC := .ops [oV 4 (rmv (K 1))]
noncomputable abbrev c8_3 : RC := .seq c8_2 .ret
noncomputable abbrev c8_4 : RC := .cond (rX 10) c8_3 .skip
noncomputable abbrev c8_5 : RC := .seq c8_1 c8_4
noncomputable abbrev c8_6 : RC := .ops [oV 11 (rload true 7 (T 3)),
  oC 12 (.func 21) [(T 11)],
  oV 5 (rmv (T 12))]
noncomputable abbrev c8_7 : RC := .ops [oV 13 (rmv (T 0)),
  oV 14 (rfaddr 0 (T 3)),
  oV 15 (rload true 2 (T 14)),
  oC 16 (.func 31) [(T 13), (T 15)],
  oV 6 (rmv (T 16))]
noncomputable abbrev c8_8 : RC := .ops [oV 18 (rmv (T 0)),
  oC 19 (.func 23) [(T 18)],
  oV 17 (rmv (T 19)),
  oV 20 (rext (T 17) 0),
  oV 21 (rext (T 17) 1),
  oV 7 (rmv (T 20)),
  oV 8 (rmv (T 21))]
noncomputable abbrev c8_9 : RC := .ops [oV 23 (rload true 7 (T 3)),
  oC 24 (.func 20) [(T 23)],
  oV 25 (rbin env .neq 23 false true (T 24) (K 0)),
  oV 22 (rmv (T 25))]
noncomputable abbrev c8_10 : RC := .ops [oV 4 (rmv (K 2))]
noncomputable abbrev c8_11 : RC := .seq c8_10 .ret
noncomputable abbrev c8_12 : RC := .ops [oV 27 (rmv (T 5)),
  oV 28 (rmv (T 0)),
  oV 29 (rnil (T 28)),
  oV 30 (rfaddr 1 (T 29)),
  oV 31 (rload false 1 (T 30)),
  oV 32 (rbin env .gtr 3 false false (T 27) (T 31)),
  oV 33 (rmv (T 32)),
  oG 34 33 false (rmv (T 0)),
  oG 35 33 false (rnil (T 34)),
  oG 36 33 false (rfaddr 2 (T 35)),
  oG 37 33 false (rload false 1 (T 36)),
  oG 38 33 false (rbin env .eql 3 false true (T 37) (K 0)),
  oV 39 (rpick (T 33) (.const (.bool true)) (T 38)),
  oV 26 (rmv (T 39))]
noncomputable abbrev c8_13 : RC := .ops [oV 4 (rmv (K 3))]
noncomputable abbrev c8_14 : RC := .seq c8_13 .ret
noncomputable abbrev c8_15 : RC := .ops [oV 41 (rmv (T 6)),
  oV 42 (rnil (T 41)),
  oV 43 (rload false 1 (T 42)),
  oV 44 (rbin env .neq 53 false true (T 43) (.const (.pointer none))),
  oV 40 (rmv (T 44))]
noncomputable abbrev c8_16 : RC := .ops [oV 4 (rmv (K 7))]
noncomputable abbrev c8_17 : RC := .seq c8_16 .ret
noncomputable abbrev c8_18 : RC := .ops [oV 46 (rmv (T 7)),
  oV 47 (rmv (T 5)),
  oV 48 (rbin env .add 3 false false (T 46) (T 47)),
  oV 49 (rmv (T 0)),
  oV 50 (rnil (T 49)),
  oV 51 (rfaddr 1 (T 50)),
  oV 52 (rload false 1 (T 51)),
  oV 53 (rbin env .gtr 3 false false (T 48) (T 52)),
  oV 54 (rmv (T 53)),
  oG 55 54 false (rmv (T 8)),
  oG 56 54 false (rbin env .add 3 false true (T 55) (K 1)),
  oG 57 54 false (rmv (T 0)),
  oG 58 54 false (rnil (T 57)),
  oG 59 54 false (rfaddr 2 (T 58)),
  oG 60 54 false (rload false 1 (T 59)),
  oG 61 54 false (rbin env .gtr 3 false false (T 56) (T 60)),
  oV 62 (rpick (T 54) (.const (.bool true)) (T 61)),
  oV 45 (rmv (T 62))]
noncomputable abbrev c8_19 : RC := .ops [oV 4 (rmv (K 8))]
noncomputable abbrev c8_20 : RC := .seq c8_19 .ret
noncomputable abbrev c8_21 : RC := .cond (rX 45) c8_20 .skip
noncomputable abbrev c8_22 : RC := .seq c8_18 c8_21
noncomputable abbrev c8_23 : RC := .cond (rX 40) c8_17 c8_22
noncomputable abbrev c8_24 : RC := .seq c8_15 c8_23
noncomputable abbrev c8_25 : RC := .cond (rX 26) c8_14 c8_24
noncomputable abbrev c8_26 : RC := .seq c8_12 c8_25
noncomputable abbrev c8_27 : RC := .cond (rX 22) c8_11 c8_26
noncomputable abbrev c8_28 : RC := .seq c8_9 c8_27
noncomputable abbrev c8_29 : RC := .block 0 c8_28
noncomputable abbrev c8_30 : RC := .ops [oV 63 (rmv (T 6)),
  oV 64 (rload true 7 (T 3)),
  oC 65 (.func 32) [(T 64)],
  oV 66 (rmv (T 5)),
  oV 67 (rbuild [.v (.int .i64 0), .v (.int .i64 0), .v (.string ⟨#[]⟩), .v (.int .i64 0), .v (.int .i64 0), .lst .full 0 0 [], .lst .full 0 0 [], .v (.int .i64 0), .v (.pointer none)] [(0, 7), (7, 1), (8, 1)] [(0, (T 65)), (1, (T 66))]),
  oU 68 (rbox (T 67)),
  oV 69 (rnil (T 63)),
  oS (rstore 1 (T 69) (T 68))]
noncomputable abbrev c8_31 : RC := .ops [oV 70 (rmv (T 0)),
  oV 71 (rnil (T 70)),
  oV 72 (rfaddr 5 (T 71)),
  oC 73 (.func 33) [(T 72), (K 1)]]
noncomputable abbrev c8_32 : RC := .drawn true [dV 74 (rmv (T 0)),
  dV 75 (rnil (T 74)),
  dV 76 (rfaddr 6 (T 75)),
  dV 77 (rmv (T 0)),
  dV 78 (rnil (T 77)),
  dV 79 (rfaddr 4 (T 78)),
  dV 80 (rmv (T 5)),
  dC true 81 (.func 33) [(T 79), (T 80)],
  dC true 82 (.func 34) [(T 76), (T 81)]]
noncomputable abbrev c8_33 : RC := .ops [oV 4 (rmv (K 0))]
noncomputable abbrev c8_34 : RC := .seq c8_33 .ret
noncomputable abbrev c8_35 : RC := .seq c8_32 c8_34
noncomputable abbrev c8_36 : RC := .seq c8_31 c8_35
noncomputable abbrev c8_37 : RC := .seq c8_30 c8_36
noncomputable abbrev c8_38 : RC := .seq c8_29 c8_37
noncomputable abbrev c8_39 : RC := .seq c8_8 c8_38
noncomputable abbrev c8_40 : RC := .seq c8_7 c8_39
noncomputable abbrev c8_41 : RC := .seq c8_6 c8_40
noncomputable abbrev c8_42 : RC := .seq c8_5 c8_41
noncomputable abbrev c8_43 : RC := .seq c8_0 c8_42
theorem fn8 : env.fn 8 = some ⟨83, [.tmp 4], body8⟩ := by kernel_rfl
theorem comp8 : comp env body8 = c8_43 := by kernel_rfl

/-! ### tributary/tributarylaw21.one -/
noncomputable def body9 : Code := match Tryd.f9.body with | some c => c | none => .skip
noncomputable abbrev c9_0 : RC := .ops [oU 0 (rnew [.v (.int .i64 0), .v (.int .i64 0), .v (.string ⟨#[]⟩), .v (.int .i64 0), .v (.int .i64 0), .lst .full 0 0 [], .lst .full 0 0 []])]
noncomputable abbrev c9_1 : RC := .ops [oV 1 (rbuild [.v (.int .i64 0), .v (.int .i64 0)] [(0, 1), (1, 1)] [(0, (K 1)), (1, (K 1))]),
  oV 2 (rbuild [.v (.int .i64 0), .v (.int .i64 0), .lst .full 0 0 []] [(0, 1), (1, 1), (2, 1)] [(0, (K 1))]),
  oV 3 (rbuild [.v (.int .i64 0), .v (.int .i64 0), .v (.string ⟨#[]⟩), .v (.int .i64 0), .v (.int .i64 0), .lst .full 0 0 [], .lst .full 0 0 []] [(0, 2), (2, 1), (3, 3), (6, 1)] [(0, (T 1)), (1, (.const (.string ⟨#[102]⟩))), (2, (T 2))]),
  oS (rstore 7 (T 0) (T 3))]
noncomputable abbrev c9_2 : RC := .seq c9_1 .ret
noncomputable abbrev c9_3 : RC := .seq c9_0 c9_2
theorem fn9 : env.fn 9 = some ⟨4, [.cell 0 34], body9⟩ := by kernel_rfl
theorem comp9 : comp env body9 = c9_3 := by kernel_rfl

/-! ### (*tributary/spool.Spool).Drop -/
noncomputable def body10 : Code := match Tryd.f10.body with | some c => c | none => .skip
noncomputable abbrev c10_0 : RC := .ops [oU 3 (rbox (T 1)),
  oV 4 (rmv (K 0))]
noncomputable abbrev c10_1 : RC := .ops [oV 6 (rmv (T 0)),
  oC 7 (.func 30) [(T 6)]]
noncomputable abbrev c10_2 : RC := .ops [oV 4 (rmv (K 1))]
noncomputable abbrev c10_3 : RC := .seq c10_2 .ret
noncomputable abbrev c10_4 : RC := .cond (rX 7) c10_3 .skip
noncomputable abbrev c10_5 : RC := .seq c10_1 c10_4
noncomputable abbrev c10_6 : RC := .ops [oV 8 (rmv (T 0)),
  oV 9 (rload true 2 (T 3)),
  oC 10 (.func 31) [(T 8), (T 9)],
  oV 5 (rmv (T 10))]
noncomputable abbrev c10_7 : RC := .ops [oV 11 (rmv (T 5)),
  oV 12 (rnil (T 11)),
  oV 13 (rload false 1 (T 12)),
  oV 14 (rbin env .eql 53 false true (T 13) (.const (.pointer none)))]
noncomputable abbrev c10_8 : RC := .ops [oV 4 (rmv (K 6))]
noncomputable abbrev c10_9 : RC := .seq c10_8 .ret
noncomputable abbrev c10_10 : RC := .cond (rX 14) c10_9 .skip
noncomputable abbrev c10_11 : RC := .seq c10_7 c10_10
noncomputable abbrev c10_12 : RC := .drawn true [dV 15 (rmv (T 0)),
  dV 16 (rnil (T 15)),
  dV 17 (rfaddr 4 (T 16)),
  dV 18 (rmv (T 5)),
  dV 19 (rnil (T 18)),
  dV 20 (rload false 1 (T 19)),
  dV 21 (rnil (T 20)),
  dV 22 (rfaddr 7 (T 21)),
  dV 23 (rload false 1 (T 22)),
  dV 24 (run' .neg (T 23)),
  dC true 25 (.func 33) [(T 17), (T 24)]]
noncomputable abbrev c10_13 : RC := .ops [oV 26 (rmv (T 0)),
  oV 27 (rnil (T 26)),
  oV 28 (rfaddr 5 (T 27)),
  oC 29 (.func 33) [(T 28), (K (-1))]]
noncomputable abbrev c10_14 : RC := .ops [oV 30 (rmv (T 5)),
  oV 31 (rmv (T 5)),
  oV 32 (rnil (T 31)),
  oV 33 (rload false 1 (T 32)),
  oV 34 (rnil (T 33)),
  oV 35 (rfaddr 8 (T 34)),
  oV 36 (rload false 1 (T 35)),
  oV 37 (rnil (T 30)),
  oS (rstore 1 (T 37) (T 36))]
noncomputable abbrev c10_15 : RC := .ops [oV 4 (rmv (K 0))]
noncomputable abbrev c10_16 : RC := .seq c10_15 .ret
noncomputable abbrev c10_17 : RC := .seq c10_14 c10_16
noncomputable abbrev c10_18 : RC := .seq c10_13 c10_17
noncomputable abbrev c10_19 : RC := .seq c10_12 c10_18
noncomputable abbrev c10_20 : RC := .seq c10_11 c10_19
noncomputable abbrev c10_21 : RC := .seq c10_6 c10_20
noncomputable abbrev c10_22 : RC := .seq c10_5 c10_21
noncomputable abbrev c10_23 : RC := .seq c10_0 c10_22
theorem fn10 : env.fn 10 = some ⟨38, [.tmp 4], body10⟩ := by kernel_rfl
theorem comp10 : comp env body10 = c10_23 := by kernel_rfl

/-! ### tributary/tributarylaw21.two -/
noncomputable def body11 : Code := match Tryd.f11.body with | some c => c | none => .skip
noncomputable abbrev c11_0 : RC := .ops [oU 0 (rnew [.v (.int .i64 0), .v (.int .i64 0), .v (.string ⟨#[]⟩), .v (.int .i64 0), .v (.int .i64 0), .lst .full 0 0 [], .lst .full 0 0 []])]
noncomputable abbrev c11_1 : RC := .ops [oV 1 (rbuild [.v (.int .i64 0), .v (.int .i64 0)] [(0, 1), (1, 1)] [(0, (K 2)), (1, (K 1))]),
  oV 2 (rbuild [.v (.int .i64 0), .v (.int .i64 0), .lst .full 0 0 []] [(0, 1), (1, 1), (2, 1)] [(0, (K 3))]),
  oV 3 (rbuild [.v (.int .i64 0), .v (.int .i64 0), .v (.int .i64 0)] [(0, 1), (1, 1), (2, 1)] [(0, (K 1)), (1, (K 1)), (2, (K 1))]),
  oU 4 (rbuildL 3 1 [.v (.int .i64 0), .v (.int .i64 0), .v (.int .i64 0)] [(0, (T 3))]),
  oV 5 (rbuild [.v (.int .i64 0), .v (.int .i64 0), .v (.string ⟨#[]⟩), .v (.int .i64 0), .v (.int .i64 0), .lst .full 0 0 [], .lst .full 0 0 []] [(0, 2), (2, 1), (3, 3), (6, 1)] [(0, (T 1)), (1, (.const (.string ⟨#[102]⟩))), (2, (T 2)), (3, (T 4))]),
  oS (rstore 7 (T 0) (T 5))]
noncomputable abbrev c11_2 : RC := .seq c11_1 .ret
noncomputable abbrev c11_3 : RC := .seq c11_0 c11_2
theorem fn11 : env.fn 11 = some ⟨6, [.cell 0 34], body11⟩ := by kernel_rfl
theorem comp11 : comp env body11 = c11_3 := by kernel_rfl

/-! ### tributary/tributarylaw21.used -/
noncomputable def body12 : Code := match Tryd.f12.body with | some c => c | none => .skip
noncomputable abbrev c12_0 : RC := .ops [oV 6 (rmv (.const (.bool false)))]
noncomputable abbrev c12_1 : RC := .ops [oV 10 (rmv (T 0)),
  oC 11 (.func 23) [(T 10)],
  oV 9 (rmv (T 11)),
  oV 12 (rext (T 9) 0),
  oV 13 (rext (T 9) 1),
  oV 7 (rmv (T 12)),
  oV 8 (rmv (T 13))]
noncomputable abbrev c12_2 : RC := .ops [oV 14 (rmv (T 7)),
  oV 15 (rmv (T 1)),
  oV 16 (rbin env .eql 3 false false (T 14) (T 15)),
  oV 17 (rmv (T 16)),
  oG 18 17 true (rmv (T 8)),
  oG 19 17 true (rmv (T 2)),
  oG 20 17 true (rbin env .eql 3 false false (T 18) (T 19)),
  oV 21 (rpick (T 17) (T 20) (.const (.bool false))),
  oV 6 (rmv (T 21))]
noncomputable abbrev c12_3 : RC := .seq c12_2 .ret
noncomputable abbrev c12_4 : RC := .seq c12_1 c12_3
noncomputable abbrev c12_5 : RC := .seq c12_0 c12_4
theorem fn12 : env.fn 12 = some ⟨22, [.tmp 6], body12⟩ := by kernel_rfl
theorem comp12 : comp env body12 = c12_5 := by kernel_rfl

/-! ### (*tributary/spool.Spool).Most -/
noncomputable def body13 : Code := match Tryd.f13.body with | some c => c | none => .skip
noncomputable abbrev c13_0 : RC := .ops [oV 2 (rmv (K 0))]
noncomputable abbrev c13_1 : RC := .ops [oV 3 (rmv (T 0)),
  oC 4 (.func 30) [(T 3)]]
noncomputable abbrev c13_2 : RC := .ops [oV 2 (rmv (K 0))]
noncomputable abbrev c13_3 : RC := .seq c13_2 .ret
noncomputable abbrev c13_4 : RC := .cond (rX 4) c13_3 .skip
noncomputable abbrev c13_5 : RC := .seq c13_1 c13_4
noncomputable abbrev c13_6 : RC := .ops [oV 5 (rmv (T 0)),
  oV 6 (rnil (T 5)),
  oV 7 (rfaddr 6 (T 6)),
  oC 8 (.func 35) [(T 7)],
  oV 2 (rmv (T 8))]
noncomputable abbrev c13_7 : RC := .seq c13_6 .ret
noncomputable abbrev c13_8 : RC := .seq c13_5 c13_7
noncomputable abbrev c13_9 : RC := .seq c13_0 c13_8
theorem fn13 : env.fn 13 = some ⟨9, [.tmp 2], body13⟩ := by kernel_rfl
theorem comp13 : comp env body13 = c13_9 := by kernel_rfl

/-! ### tributary/tributarylaw21.awake -/
noncomputable def body14 : Code := match Tryd.f14.body with | some c => c | none => .skip
noncomputable abbrev c14_0 : RC := .ops [oV 0 (rmv (.const (.bool false)))]
noncomputable abbrev c14_1 : RC := .ops [oC 6 (.func 7) [(K 40), (K 5)],
  oV 5 (rmv (T 6)),
  oV 7 (rext (T 5) 0),
  oV 8 (rext (T 5) 1),
  oV 1 (rmv (T 7)),
  oV 2 (rmv (T 8))]
noncomputable abbrev c14_2 : RC := .ops [oV 9 (rmv (T 2)),
  oV 10 (rbin env .neq 23 false true (T 9) (K 0)),
  oV 11 (rmv (T 10)),
  oG 12 11 false (rmv (T 1)),
  oG 13 11 false (rbin env .eql 22 false true (T 12) (.const (.pointer none))),
  oV 14 (rpick (T 11) (.const (.bool true)) (T 13)),
  oV 15 (rmv (T 14)),
  oG 16 15 false (rmv (T 1)),
  oCG 17 15 false (.func 9) [],
  oCG 18 15 false (.func 8) [(T 16), (T 17)],
  oG 19 15 false (rbin env .neq 23 false true (T 18) (K 0)),
  oV 20 (rpick (T 15) (.const (.bool true)) (T 19)),
  oV 21 (rmv (T 20)),
  oG 22 21 false (rmv (T 1)),
  oCG 23 21 false (.func 9) [],
  oCG 24 21 false (.func 8) [(T 22), (T 23)],
  oG 25 21 false (rbin env .neq 23 false true (T 24) (K 7)),
  oV 26 (rpick (T 21) (.const (.bool true)) (T 25)),
  oV 27 (rmv (T 26)),
  oG 28 27 false (rmv (T 1)),
  oCG 29 27 false (.func 11) [],
  oCG 30 27 false (.func 8) [(T 28), (T 29)],
  oG 31 27 false (rbin env .neq 23 false true (T 30) (K 8)),
  oV 32 (rpick (T 27) (.const (.bool true)) (T 31)),
  oV 33 (rmv (T 32)),
  oG 34 33 false (rmv (T 1)),
  oCG 35 33 false (.func 12) [(T 34), (K 17), (K 1)],
  oG 36 33 false (run' .not (T 35)),
  oV 37 (rpick (T 33) (.const (.bool true)) (T 36))]
noncomputable abbrev c14_3 : RC := .ops [oV 0 (rmv (.const (.bool false)))]
noncomputable abbrev c14_4 : RC := .seq c14_3 .ret
noncomputable abbrev c14_5 : RC := .cond (rX 37) c14_4 .skip
noncomputable abbrev c14_6 : RC := .seq c14_2 c14_5
noncomputable abbrev c14_7 : RC := .ops [oV 39 (rmv (T 1)),
  oC 40 (.func 18) [(T 39)],
  oV 38 (rmv (T 40)),
  oV 41 (rext (T 38) 0),
  oV 42 (rext (T 38) 1),
  oU 3 (rnew [.v (.int .i64 0), .v (.int .i64 0), .v (.string ⟨#[]⟩), .v (.int .i64 0), .v (.int .i64 0), .lst .full 0 0 [], .lst .full 0 0 []]),
  oS (rstore 7 (T 3) (T 41)),
  oV 4 (rmv (T 42))]
noncomputable abbrev c14_8 : RC := .drawn true [dV 43 (rmv (T 4)),
  dV 44 (rmv (T 43)),
  dG 45 44 true (rload true 7 (T 3)),
  dCG false 46 44 true (.func 9) [],
  dCG true 47 44 true (.func 19) [(T 45), (T 46)],
  dV 48 (rpick (T 44) (T 47) (.const (.bool false))),
  dV 0 (rmv (T 48))]
noncomputable abbrev c14_9 : RC := .seq c14_8 .ret
noncomputable abbrev c14_10 : RC := .seq c14_7 c14_9
noncomputable abbrev c14_11 : RC := .seq c14_6 c14_10
noncomputable abbrev c14_12 : RC := .seq c14_1 c14_11
noncomputable abbrev c14_13 : RC := .seq c14_0 c14_12
theorem fn14 : env.fn 14 = some ⟨49, [.tmp 0], body14⟩ := by kernel_rfl
theorem comp14 : comp env body14 = c14_13 := by kernel_rfl

/-! ### tributary/tributarykit.Pick -/
noncomputable def body15 : Code := match Tryd.f15.body with | some c => c | none => .skip
noncomputable abbrev c15_0 : RC := .ops [oV 4 (rmv (K 0))]
noncomputable abbrev c15_1 : RC := .ops [oV 5 (rmv (T 1)),
  oV 6 (rbin env .lss 3 false true (T 5) (K 1))]
noncomputable abbrev c15_2 : RC := .ops [oV 4 (rmv (K 0))]
noncomputable abbrev c15_3 : RC := .seq c15_2 .ret
noncomputable abbrev c15_4 : RC := .cond (rX 6) c15_3 .skip
noncomputable abbrev c15_5 : RC := .seq c15_1 c15_4
noncomputable abbrev c15_6 : RC := .ops [oV 7 (rmv (T 0)),
  oV 8 (rmv (T 1)),
  oV 9 (rbin env .rem 3 false false (T 7) (T 8)),
  oV 10 (rmv (T 1)),
  oV 11 (rbin env .add 3 false false (T 9) (T 10)),
  oV 12 (rmv (T 1)),
  oV 13 (rbin env .rem 3 false false (T 11) (T 12)),
  oV 4 (rmv (T 13))]
noncomputable abbrev c15_7 : RC := .seq c15_6 .ret
noncomputable abbrev c15_8 : RC := .seq c15_5 c15_7
noncomputable abbrev c15_9 : RC := .seq c15_0 c15_8
theorem fn15 : env.fn 15 = some ⟨14, [.tmp 4], body15⟩ := by kernel_rfl
theorem comp15 : comp env body15 = c15_9 := by kernel_rfl

/-! ### tributary/tributarylaw21.long -/
noncomputable def body16 : Code := match Tryd.f16.body with | some c => c | none => .skip
noncomputable abbrev c16_0 : RC := .ops [oV 2 (rmv (.const (.bool false)))]
noncomputable abbrev c16_1 : RC := .ops [oV 3 (rmv (K 0))]
noncomputable abbrev c16_2 : RC := .ops [oV 4 (rmv (T 3)),
  oV 5 (rmv (T 0)),
  oV 6 (rlen (T 5)),
  oV 7 (rbin env .lss 3 false false (T 4) (T 6))]
noncomputable abbrev c16_3 : RC := .cond (rX 7) .skip (.exit 0)
noncomputable abbrev c16_4 : RC := .seq c16_2 c16_3
noncomputable abbrev c16_5 : RC := .ops [oV 10 (rmv (T 0)),
  oV 11 (rmv (T 3)),
  oV 12 (riaddr 8 (T 10) (T 11)),
  oV 13 (rfaddr 1 (T 12)),
  oV 14 (rload true 7 (T 13)),
  oU 15 (rbuildL 7 1 [.v (.int .i64 0), .v (.int .i64 0), .v (.string ⟨#[]⟩), .v (.int .i64 0), .v (.int .i64 0), .lst .full 0 0 [], .lst .full 0 0 []] [(0, (T 14))]),
  oC 16 (.func 22) [(T 15), (K 1)]]
noncomputable abbrev c16_6 : RC := .ops [oV 2 (rmv (.const (.bool true)))]
noncomputable abbrev c16_7 : RC := .seq c16_6 .ret
noncomputable abbrev c16_8 : RC := .cond (rX 16) c16_7 .skip
noncomputable abbrev c16_9 : RC := .seq c16_5 c16_8
noncomputable abbrev c16_10 : RC := .block 1 c16_9
noncomputable abbrev c16_11 : RC := .ops [oV 8 (rmv (T 3)),
  oV 9 (rbin env .add 3 false true (T 8) (K 1)),
  oV 3 (rmv (T 9))]
noncomputable abbrev c16_12 : RC := .seq c16_10 c16_11
noncomputable abbrev c16_13 : RC := .seq c16_4 c16_12
noncomputable abbrev c16_14 : RC := .loop c16_13
noncomputable abbrev c16_15 : RC := .block 0 c16_14
noncomputable abbrev c16_16 : RC := .seq c16_1 c16_15
noncomputable abbrev c16_17 : RC := .ops [oV 17 (rmv (T 0)),
  oV 18 (rlen (T 17)),
  oV 19 (rbin env .gtr 3 false true (T 18) (K 40)),
  oV 2 (rmv (T 19))]
noncomputable abbrev c16_18 : RC := .seq c16_17 .ret
noncomputable abbrev c16_19 : RC := .seq c16_16 c16_18
noncomputable abbrev c16_20 : RC := .seq c16_0 c16_19
theorem fn16 : env.fn 16 = some ⟨20, [.tmp 2], body16⟩ := by kernel_rfl
theorem comp16 : comp env body16 = c16_20 := by kernel_rfl

/-! ### (*tributary/spool.Spool).All -/
noncomputable def body17 : Code := match Tryd.f17.body with | some c => c | none => .skip
noncomputable abbrev c17_0 : RC := .ops [oV 2 (rmv (.const (.slice none 0 0)))]
noncomputable abbrev c17_1 : RC := .ops [oV 5 (rmv (T 0)),
  oC 6 (.func 30) [(T 5)]]
noncomputable abbrev c17_2 : RC := .ops [oV 2 (rmv (.const (.slice none 0 0)))]
noncomputable abbrev c17_3 : RC := .seq c17_2 .ret
noncomputable abbrev c17_4 : RC := .cond (rX 6) c17_3 .skip
noncomputable abbrev c17_5 : RC := .seq c17_1 c17_4
noncomputable abbrev c17_6 : RC := .ops [oU 3 (rnew [.lst .full 0 0 []])]
noncomputable abbrev c17_7 : RC := .ops [oV 7 (rmv (T 0)),
  oC 8 (.func 36) [(T 7)]]
noncomputable abbrev c17_8 : RC := .ops [oV 4 (rmv (T 9))]
noncomputable abbrev c17_9 : RC := .ops [oV 10 (rmv (T 4)),
  oV 11 (rnil (T 10)),
  oV 12 (rload false 1 (T 11)),
  oV 13 (rbin env .neq 53 false true (T 12) (.const (.pointer none)))]
noncomputable abbrev c17_10 : RC := .drawn true [dV 14 (rload false 1 (T 3)),
  dV 15 (rmv (T 4)),
  dV 16 (rnil (T 15)),
  dV 17 (rload false 1 (T 16)),
  dV 18 (rnil (T 17)),
  dV 19 (rfaddr 0 (T 18)),
  dV 20 (rload true 7 (T 19)),
  dC false 21 (.func 32) [(T 20)],
  dU 22 (rbuildL 7 1 [.v (.int .i64 0), .v (.int .i64 0), .v (.string ⟨#[]⟩), .v (.int .i64 0), .v (.int .i64 0), .lst .full 0 0 [], .lst .full 0 0 []] [(0, (T 21))]),
  dU 23 (rappend 7 96 7 (T 14) (T 22)),
  dS (rstore 1 (T 3) (T 23))]
noncomputable abbrev c17_11 : RC := .cond (rX 13) c17_10 .skip
noncomputable abbrev c17_12 : RC := .seq c17_9 c17_11
noncomputable abbrev c17_13 : RC := .block 1 c17_12
noncomputable abbrev c17_14 : RC := .range (fun s => pev s.tm (T 8)) [9] (subc [1, 1, 1, 0, 1, 0, 0] body17) (subc [1, 1, 1, 0, 1, 0, 1] body17)
noncomputable abbrev c17_15 : RC := .block 0 c17_14
noncomputable abbrev c17_16 : RC := .seq c17_7 c17_15
noncomputable abbrev c17_17 : RC := .ops [oV 24 (rload false 1 (T 3)),
  oV 2 (rmv (T 24))]
noncomputable abbrev c17_18 : RC := .seq c17_17 .ret
noncomputable abbrev c17_19 : RC := .seq c17_16 c17_18
noncomputable abbrev c17_20 : RC := .seq c17_6 c17_19
noncomputable abbrev c17_21 : RC := .seq c17_5 c17_20
noncomputable abbrev c17_22 : RC := .seq c17_0 c17_21
theorem fn17 : env.fn 17 = some ⟨25, [.tmp 2], body17⟩ := by kernel_rfl
theorem comp17 : comp env body17 = c17_22 := by kernel_rfl
theorem piece17_1 : comp env (subc [1, 1, 1, 0, 1, 0, 0] body17) = c17_8 := by kernel_rfl
theorem piece17_2 : comp env (subc [1, 1, 1, 0, 1, 0, 1] body17) = c17_13 := by kernel_rfl

/-! ### (*tributary/spool.Spool).First -/
noncomputable def body18 : Code := match Tryd.f18.body with | some c => c | none => .skip
noncomputable abbrev c18_0 : RC := .ops [oU 2 (rnew [.v (.int .i64 0), .v (.int .i64 0), .v (.string ⟨#[]⟩), .v (.int .i64 0), .v (.int .i64 0), .lst .full 0 0 [], .lst .full 0 0 []]),
  oV 3 (rmv (.const (.bool false)))]
noncomputable abbrev c18_1 : RC := .ops [oV 4 (rmv (T 0)),
  oC 5 (.func 30) [(T 4)],
  oV 6 (rmv (T 5)),
  oG 7 6 false (rmv (T 0)),
  oG 8 6 false (rnil (T 7)),
  oG 9 6 false (rfaddr 3 (T 8)),
  oG 10 6 false (rload false 1 (T 9)),
  oG 11 6 false (rbin env .eql 53 false true (T 10) (.const (.pointer none))),
  oV 12 (rpick (T 6) (.const (.bool true)) (T 11))]
noncomputable abbrev c18_2 : RC := .ops [oV 13 (rbuild [.v (.int .i64 0), .v (.int .i64 0), .v (.string ⟨#[]⟩), .v (.int .i64 0), .v (.int .i64 0), .lst .full 0 0 [], .lst .full 0 0 []] [(0, 2), (2, 1), (3, 3), (6, 1)] []),
  oS (rstore 7 (T 2) (T 13)),
  oV 3 (rmv (.const (.bool false)))]
noncomputable abbrev c18_3 : RC := .seq c18_2 .ret
noncomputable abbrev c18_4 : RC := .cond (rX 12) c18_3 .skip
noncomputable abbrev c18_5 : RC := .seq c18_1 c18_4
noncomputable abbrev c18_6 : RC := .ops [oV 14 (rmv (T 0)),
  oV 15 (rnil (T 14)),
  oV 16 (rfaddr 3 (T 15)),
  oV 17 (rload false 1 (T 16)),
  oV 18 (rnil (T 17)),
  oV 19 (rfaddr 0 (T 18)),
  oV 20 (rload true 7 (T 19)),
  oC 21 (.func 32) [(T 20)],
  oS (rstore 7 (T 2) (T 21)),
  oV 3 (rmv (.const (.bool true)))]
noncomputable abbrev c18_7 : RC := .seq c18_6 .ret
noncomputable abbrev c18_8 : RC := .seq c18_5 c18_7
noncomputable abbrev c18_9 : RC := .seq c18_0 c18_8
theorem fn18 : env.fn 18 = some ⟨22, [.cell 2 34, .tmp 3], body18⟩ := by kernel_rfl
theorem comp18 : comp env body18 = c18_9 := by kernel_rfl

/-! ### tributary/tributarykit.SameEvent -/
noncomputable def body19 : Code := match Tryd.f19.body with | some c => c | none => .skip
noncomputable abbrev c19_0 : RC := .ops [oU 2 (rbox (T 0)),
  oU 3 (rbox (T 1)),
  oV 4 (rmv (.const (.bool false)))]
noncomputable abbrev c19_1 : RC := .ops [oV 5 (rfaddr 0 (T 2)),
  oV 6 (rload true 2 (T 5)),
  oV 7 (rfaddr 0 (T 3)),
  oV 8 (rload true 2 (T 7)),
  oV 9 (rbin env .eql 28 false false (T 6) (T 8)),
  oV 10 (rmv (T 9)),
  oG 11 10 true (rfaddr 2 (T 2)),
  oG 12 10 true (rload false 1 (T 11)),
  oG 13 10 true (rfaddr 2 (T 3)),
  oG 14 10 true (rload false 1 (T 13)),
  oG 15 10 true (rbin env .eql 9 false false (T 12) (T 14)),
  oV 16 (rpick (T 10) (T 15) (.const (.bool false))),
  oV 17 (rmv (T 16)),
  oG 18 17 true (rfaddr 3 (T 2)),
  oG 19 17 true (rload true 3 (T 18)),
  oG 20 17 true (rfaddr 3 (T 3)),
  oG 21 17 true (rload true 3 (T 20)),
  oCG 22 17 true (.func 37) [(T 19), (T 21)],
  oV 23 (rpick (T 17) (T 22) (.const (.bool false))),
  oV 24 (rmv (T 23)),
  oG 25 24 true (rfaddr 6 (T 2)),
  oG 26 24 true (rload false 1 (T 25)),
  oG 27 24 true (rfaddr 6 (T 3)),
  oG 28 24 true (rload false 1 (T 27)),
  oCG 29 24 true (.func 38) [(T 26), (T 28)],
  oV 30 (rpick (T 24) (T 29) (.const (.bool false))),
  oV 4 (rmv (T 30))]
noncomputable abbrev c19_2 : RC := .seq c19_1 .ret
noncomputable abbrev c19_3 : RC := .seq c19_0 c19_2
theorem fn19 : env.fn 19 = some ⟨31, [.tmp 4], body19⟩ := by kernel_rfl
theorem comp19 : comp env body19 = c19_3 := by kernel_rfl

/-! ### tributary/event.Check -/
noncomputable def body20 : Code := match Tryd.f20.body with | some c => c | none => .skip
noncomputable abbrev c20_0 : RC := .ops [oU 1 (rbox (T 0)),
  oV 2 (rmv (K 0))]
noncomputable abbrev c20_1 : RC := .ops [oV 6 (rload true 7 (T 1)),
  oV 7 (rbuild [.v (.int .i64 0), .v (.int .i64 0), .v (.string ⟨#[]⟩), .v (.int .i64 0), .v (.int .i64 0), .lst .full 0 0 [], .lst .full 0 0 []] [(0, 7)] [(0, (T 6))]),
  oU 3 (rnew [.v (.int .i64 0), .v (.int .i64 0), .v (.string ⟨#[]⟩), .v (.int .i64 0), .v (.int .i64 0), .lst .full 0 0 [], .lst .full 0 0 []]),
  oS (rstore 7 (T 3) (T 7))]
noncomputable abbrev c20_2 : RC := .ops [oV 8 (rload true 7 (T 3)),
  oV 9 (rfn 39 [(T 8)] []),
  oV 10 (rload true 7 (T 3)),
  oV 11 (rfn 40 [(T 10)] []),
  oV 12 (rload true 7 (T 3)),
  oV 13 (rfn 41 [(T 12)] []),
  oV 14 (rload true 7 (T 3)),
  oV 15 (rfn 42 [(T 14)] []),
  oV 16 (rload true 7 (T 3)),
  oV 17 (rfn 43 [(T 16)] []),
  oU 18 (rbuildL 1 5 [.v (.nilFunc), .v (.nilFunc), .v (.nilFunc), .v (.nilFunc), .v (.nilFunc)] [(0, (T 9)), (1, (T 11)), (2, (T 13)), (3, (T 15)), (4, (T 17))]),
  oV 19 (rlen (T 18)),
  oV 20 (rmv (K 0))]
noncomputable abbrev c20_3 : RC := .ops [oV 21 (rbin env .lss 3 false false (T 20) (T 19))]
noncomputable abbrev c20_4 : RC := .cond (rX 21) .skip (.exit 0)
noncomputable abbrev c20_5 : RC := .ops [oV 22 (riaddr 1 (T 18) (T 20)),
  oV 23 (rload false 1 (T 22)),
  oV 5 (rmv (T 23))]
noncomputable abbrev c20_6 : RC := .ops [oV 24 (rmv (T 5)),
  oC 25 (T 24) [],
  oV 26 (run' .not (T 25))]
noncomputable abbrev c20_7 : RC := .ops [oV 2 (rmv (K 2))]
noncomputable abbrev c20_8 : RC := .seq c20_7 .ret
noncomputable abbrev c20_9 : RC := .cond (rX 26) c20_8 .skip
noncomputable abbrev c20_10 : RC := .seq c20_6 c20_9
noncomputable abbrev c20_11 : RC := .seq c20_5 c20_10
noncomputable abbrev c20_12 : RC := .block 1 c20_11
noncomputable abbrev c20_13 : RC := .ops [oV 27 (rbin env .add 3 false true (T 20) (K 1)),
  oV 20 (rmv (T 27))]
noncomputable abbrev c20_14 : RC := .seq c20_12 c20_13
noncomputable abbrev c20_15 : RC := .seq c20_4 c20_14
noncomputable abbrev c20_16 : RC := .seq c20_3 c20_15
noncomputable abbrev c20_17 : RC := .loop c20_16
noncomputable abbrev c20_18 : RC := .block 0 c20_17
noncomputable abbrev c20_19 : RC := .seq c20_2 c20_18
noncomputable abbrev c20_20 : RC := .ops [oV 2 (rmv (K 0))]
noncomputable abbrev c20_21 : RC := .seq c20_20 .ret
noncomputable abbrev c20_22 : RC := .seq c20_19 c20_21
noncomputable abbrev c20_23 : RC := .seq c20_1 c20_22
noncomputable abbrev c20_24 : RC := .seq c20_0 c20_23
theorem fn20 : env.fn 20 = some ⟨28, [.tmp 2], body20⟩ := by kernel_rfl
theorem comp20 : comp env body20 = c20_24 := by kernel_rfl

/-! ### tributary/event.Size -/
noncomputable def body21 : Code := match Tryd.f21.body with | some c => c | none => .skip
noncomputable abbrev c21_0 : RC := .ops [oU 1 (rbox (T 0)),
  oV 2 (rmv (K 0))]
noncomputable abbrev c21_1 : RC := .ops [oV 6 (rload true 7 (T 1)),
  oC 7 (.func 44) [(T 6)],
  oV 5 (rmv (T 7)),
  oV 8 (rext (T 5) 0),
  oV 9 (rext (T 5) 1),
  oV 3 (rmv (T 8)),
  oV 4 (rmv (T 9))]
noncomputable abbrev c21_2 : RC := .ops [oV 10 (rmv (T 3)),
  oV 11 (rlen (T 10)),
  oV 2 (rmv (T 11))]
noncomputable abbrev c21_3 : RC := .seq c21_2 .ret
noncomputable abbrev c21_4 : RC := .seq c21_1 c21_3
noncomputable abbrev c21_5 : RC := .seq c21_0 c21_4
theorem fn21 : env.fn 21 = some ⟨12, [.tmp 2], body21⟩ := by kernel_rfl
theorem comp21 : comp env body21 = c21_5 := by kernel_rfl

/-! ### tributary/tributarykit.LongEvents -/
noncomputable def body22 : Code := match Tryd.f22.body with | some c => c | none => .skip
noncomputable abbrev c22_0 : RC := .ops [oV 4 (rmv (.const (.bool false)))]
noncomputable abbrev c22_1 : RC := .ops [oV 5 (rmv (K 0))]
noncomputable abbrev c22_2 : RC := .ops [oV 6 (rmv (T 5)),
  oV 7 (rmv (T 0)),
  oV 8 (rlen (T 7)),
  oV 9 (rbin env .lss 3 false false (T 6) (T 8)),
  oV 10 (rmv (T 9)),
  oG 11 10 true (rmv (T 5)),
  oG 12 10 true (rmv (T 1)),
  oG 13 10 true (rbin env .leq 3 false false (T 11) (T 12)),
  oV 14 (rpick (T 10) (T 13) (.const (.bool false)))]
noncomputable abbrev c22_3 : RC := .cond (rX 14) .skip (.exit 0)
noncomputable abbrev c22_4 : RC := .seq c22_2 c22_3
noncomputable abbrev c22_5 : RC := .ops [oV 17 (rmv (T 0)),
  oV 18 (rmv (T 5)),
  oV 19 (riaddr 7 (T 17) (T 18)),
  oV 20 (rfaddr 2 (T 19)),
  oV 21 (rload false 1 (T 20)),
  oV 22 (rlenS (T 21)),
  oV 23 (rbin env .gtr 3 false true (T 22) (K 100)),
  oV 24 (rmv (T 23)),
  oG 25 24 false (rmv (T 0)),
  oG 26 24 false (rmv (T 5)),
  oG 27 24 false (riaddr 7 (T 25) (T 26)),
  oG 28 24 false (rfaddr 3 (T 27)),
  oG 29 24 false (rload true 3 (T 28)),
  oCG 30 24 false (.func 45) [(T 29)],
  oV 31 (rpick (T 24) (.const (.bool true)) (T 30)),
  oV 32 (rmv (T 31)),
  oG 33 32 false (rmv (T 0)),
  oG 34 32 false (rmv (T 5)),
  oG 35 32 false (riaddr 7 (T 33) (T 34)),
  oG 36 32 false (rfaddr 6 (T 35)),
  oG 37 32 false (rload false 1 (T 36)),
  oG 38 32 false (rlen (T 37)),
  oG 39 32 false (rbin env .gtr 3 false true (T 38) (K 100)),
  oV 40 (rpick (T 32) (.const (.bool true)) (T 39))]
noncomputable abbrev c22_6 : RC := .ops [oV 4 (rmv (.const (.bool true)))]
noncomputable abbrev c22_7 : RC := .seq c22_6 .ret
noncomputable abbrev c22_8 : RC := .cond (rX 40) c22_7 .skip
noncomputable abbrev c22_9 : RC := .seq c22_5 c22_8
noncomputable abbrev c22_10 : RC := .block 1 c22_9
noncomputable abbrev c22_11 : RC := .ops [oV 15 (rmv (T 5)),
  oV 16 (rbin env .add 3 false true (T 15) (K 1)),
  oV 5 (rmv (T 16))]
noncomputable abbrev c22_12 : RC := .seq c22_10 c22_11
noncomputable abbrev c22_13 : RC := .seq c22_4 c22_12
noncomputable abbrev c22_14 : RC := .loop c22_13
noncomputable abbrev c22_15 : RC := .block 0 c22_14
noncomputable abbrev c22_16 : RC := .seq c22_1 c22_15
noncomputable abbrev c22_17 : RC := .ops [oV 41 (rmv (T 0)),
  oV 42 (rlen (T 41)),
  oV 43 (rmv (T 1)),
  oV 44 (rbin env .gtr 3 false false (T 42) (T 43)),
  oV 4 (rmv (T 44))]
noncomputable abbrev c22_18 : RC := .seq c22_17 .ret
noncomputable abbrev c22_19 : RC := .seq c22_16 c22_18
noncomputable abbrev c22_20 : RC := .seq c22_0 c22_19
theorem fn22 : env.fn 22 = some ⟨45, [.tmp 4], body22⟩ := by kernel_rfl
theorem comp22 : comp env body22 = c22_20 := by kernel_rfl

/-! ### (*tributary/spool.Spool).Used -/
noncomputable def body23 : Code := match Tryd.f23.body with | some c => c | none => .skip
noncomputable abbrev c23_0 : RC := .ops [oV 2 (rmv (K 0)),
  oV 3 (rmv (K 0))]
noncomputable abbrev c23_1 : RC := .ops [oV 4 (rmv (T 0)),
  oC 5 (.func 30) [(T 4)]]
noncomputable abbrev c23_2 : RC := .ops [oV 2 (rmv (K 0)),
  oV 3 (rmv (K 0))]
noncomputable abbrev c23_3 : RC := .seq c23_2 .ret
noncomputable abbrev c23_4 : RC := .cond (rX 5) c23_3 .skip
noncomputable abbrev c23_5 : RC := .seq c23_1 c23_4
noncomputable abbrev c23_6 : RC := .drawn true [dV 6 (rmv (T 0)),
  dV 7 (rnil (T 6)),
  dV 8 (rfaddr 4 (T 7)),
  dV 10 (rmv (T 0)),
  dV 11 (rnil (T 10)),
  dV 12 (rfaddr 5 (T 11)),
  dC true 9 (.func 35) [(T 8)],
  dC true 13 (.func 35) [(T 12)],
  dV 2 (rmv (T 9)),
  dV 3 (rmv (T 13))]
noncomputable abbrev c23_7 : RC := .seq c23_6 .ret
noncomputable abbrev c23_8 : RC := .seq c23_5 c23_7
noncomputable abbrev c23_9 : RC := .seq c23_0 c23_8
theorem fn23 : env.fn 23 = some ⟨14, [.tmp 2, .tmp 3], body23⟩ := by kernel_rfl
theorem comp23 : comp env body23 = c23_9 := by kernel_rfl

/-! ### tributary/tributarylaw08.awake -/
noncomputable def body24 : Code := match Tryd.f24.body with | some c => c | none => .skip
noncomputable abbrev c24_0 : RC := .ops [oV 0 (rmv (.const (.bool false)))]
noncomputable abbrev c24_1 : RC := .ops [oC 6 (.func 46) [],
  oC 7 (.func 44) [(T 6)],
  oV 5 (rmv (T 7)),
  oV 8 (rext (T 5) 0),
  oV 9 (rext (T 5) 1),
  oV 1 (rmv (T 8)),
  oV 2 (rmv (T 9))]
noncomputable abbrev c24_2 : RC := .ops [oC 11 (.func 46) [],
  oC 12 (.func 47) [],
  oU 13 (rbuildL 7 2 [.v (.int .i64 0), .v (.int .i64 0), .v (.string ⟨#[]⟩), .v (.int .i64 0), .v (.int .i64 0), .lst .full 0 0 [], .lst .full 0 0 [], .v (.int .i64 0), .v (.int .i64 0), .v (.string ⟨#[]⟩), .v (.int .i64 0), .v (.int .i64 0), .lst .full 0 0 [], .lst .full 0 0 []] [(0, (T 11)), (1, (T 12))]),
  oC 14 (.func 27) [(T 13)],
  oV 10 (rmv (T 14)),
  oV 15 (rext (T 10) 0),
  oV 16 (rext (T 10) 1),
  oV 3 (rmv (T 15)),
  oV 4 (rmv (T 16))]
noncomputable abbrev c24_3 : RC := .ops [oV 17 (rmv (T 2)),
  oV 18 (rbin env .eql 23 false true (T 17) (K 0)),
  oV 19 (rmv (T 18)),
  oG 20 19 true (rmv (T 1)),
  oH 21 19 true (rbuildL 1 17 [.v (.int .u8 0), .v (.int .u8 0), .v (.int .u8 0), .v (.int .u8 0), .v (.int .u8 0), .v (.int .u8 0), .v (.int .u8 0), .v (.int .u8 0), .v (.int .u8 0), .v (.int .u8 0), .v (.int .u8 0), .v (.int .u8 0), .v (.int .u8 0), .v (.int .u8 0), .v (.int .u8 0), .v (.int .u8 0), .v (.int .u8 0)] [(0, (.const (.int .u8 1))), (1, (.const (.int .u8 1))), (2, (.const (.int .u8 1))), (3, (.const (.int .u8 1))), (4, (.const (.int .u8 1))), (5, (.const (.int .u8 1))), (6, (.const (.int .u8 102))), (7, (.const (.int .u8 1))), (8, (.const (.int .u8 4))), (9, (.const (.int .u8 1))), (10, (.const (.int .u8 1))), (11, (.const (.int .u8 0))), (12, (.const (.int .u8 0))), (13, (.const (.int .u8 1))), (14, (.const (.int .u8 2))), (15, (.const (.int .u8 0))), (16, (.const (.int .u8 0)))]),
  oCG 22 19 true (.func 48) [(T 20), (T 21)],
  oV 23 (rpick (T 19) (T 22) (.const (.bool false))),
  oV 24 (rmv (T 23)),
  oCG 25 24 true (.func 46) [],
  oCG 26 24 true (.func 47) [],
  oCG 27 24 true (.func 26) [(T 25), (T 26)],
  oV 28 (rpick (T 24) (T 27) (.const (.bool false))),
  oV 29 (rmv (T 28)),
  oCG 30 29 true (.func 47) [],
  oCG 31 29 true (.func 46) [],
  oCG 32 29 true (.func 26) [(T 30), (T 31)],
  oG 33 29 true (run' .not (T 32)),
  oV 34 (rpick (T 29) (T 33) (.const (.bool false))),
  oV 35 (rmv (T 34)),
  oG 36 35 true (rmv (T 4)),
  oG 37 35 true (rbin env .eql 23 false true (T 36) (K 0)),
  oV 38 (rpick (T 35) (T 37) (.const (.bool false))),
  oV 39 (rmv (T 38)),
  oG 40 39 true (rmv (T 3)),
  oG 41 39 true (rbuild [.v (.int .i64 0), .v (.int .i64 0), .v (.int .i64 0)] [(0, 1), (1, 1), (2, 1)] [(0, (K 1)), (1, (K 1)), (2, (K 1))]),
  oG 42 39 true (rbuild [.v (.int .i64 0), .v (.int .i64 0), .v (.int .i64 0)] [(0, 1), (1, 1), (2, 1)] [(0, (K 2)), (1, (K 1)), (2, (K 1))]),
  oH 43 39 true (rbuildL 3 2 [.v (.int .i64 0), .v (.int .i64 0), .v (.int .i64 0), .v (.int .i64 0), .v (.int .i64 0), .v (.int .i64 0)] [(0, (T 41)), (1, (T 42))]),
  oCG 44 39 true (.func 38) [(T 40), (T 43)],
  oV 45 (rpick (T 39) (T 44) (.const (.bool false))),
  oV 0 (rmv (T 45))]
noncomputable abbrev c24_4 : RC := .seq c24_3 .ret
noncomputable abbrev c24_5 : RC := .seq c24_2 c24_4
noncomputable abbrev c24_6 : RC := .seq c24_1 c24_5
noncomputable abbrev c24_7 : RC := .seq c24_0 c24_6
theorem fn24 : env.fn 24 = some ⟨46, [.tmp 0], body24⟩ := by kernel_rfl
theorem comp24 : comp env body24 = c24_7 := by kernel_rfl

/-! ### tributary/event.Closed -/
noncomputable def body25 : Code := match Tryd.f25.body with | some c => c | none => .skip
noncomputable abbrev c25_0 : RC := .ops [oV 2 (rmv (.const (.bool false)))]
noncomputable abbrev c25_1 : RC := .ops [oV 7 (rmv (T 0)),
  oV 8 (rlen (T 7)),
  oV 9 (rmv (K 0))]
noncomputable abbrev c25_2 : RC := .ops [oV 10 (rbin env .lss 3 false false (T 9) (T 8))]
noncomputable abbrev c25_3 : RC := .cond (rX 10) .skip (.exit 0)
noncomputable abbrev c25_4 : RC := .ops [oV 11 (rmv (T 9)),
  oV 12 (riaddr 7 (T 7) (T 9)),
  oV 13 (rload true 7 (T 12)),
  oU 4 (rnew [.v (.int .i64 0), .v (.int .i64 0), .v (.string ⟨#[]⟩), .v (.int .i64 0), .v (.int .i64 0), .lst .full 0 0 [], .lst .full 0 0 []]),
  oV 3 (rmv (T 11)),
  oS (rstore 7 (T 4) (T 13))]
noncomputable abbrev c25_5 : RC := .ops [oV 14 (rload true 7 (T 4)),
  oC 15 (.func 20) [(T 14)],
  oV 16 (rbin env .neq 23 false true (T 15) (K 0))]
noncomputable abbrev c25_6 : RC := .ops [oV 2 (rmv (.const (.bool false)))]
noncomputable abbrev c25_7 : RC := .seq c25_6 .ret
noncomputable abbrev c25_8 : RC := .cond (rX 16) c25_7 .skip
noncomputable abbrev c25_9 : RC := .seq c25_5 c25_8
noncomputable abbrev c25_10 : RC := .ops [oV 17 (rmv (T 0)),
  oV 18 (rlen (T 17)),
  oV 19 (rmv (K 0))]
noncomputable abbrev c25_11 : RC := .ops [oV 20 (rbin env .lss 3 false false (T 19) (T 18))]
noncomputable abbrev c25_12 : RC := .cond (rX 20) .skip (.exit 2)
noncomputable abbrev c25_13 : RC := .ops [oV 21 (rmv (T 19)),
  oV 22 (riaddr 7 (T 17) (T 19)),
  oV 23 (rload true 7 (T 22)),
  oU 6 (rnew [.v (.int .i64 0), .v (.int .i64 0), .v (.string ⟨#[]⟩), .v (.int .i64 0), .v (.int .i64 0), .lst .full 0 0 [], .lst .full 0 0 []]),
  oV 5 (rmv (T 21)),
  oS (rstore 7 (T 6) (T 23))]
noncomputable abbrev c25_14 : RC := .ops [oV 24 (rmv (T 5)),
  oV 25 (rmv (T 3)),
  oV 26 (rbin env .neq 3 false false (T 24) (T 25)),
  oV 27 (rmv (T 26)),
  oG 28 27 true (rfaddr 0 (T 4)),
  oG 29 27 true (rload true 2 (T 28)),
  oG 30 27 true (rfaddr 0 (T 6)),
  oG 31 27 true (rload true 2 (T 30)),
  oG 32 27 true (rbin env .eql 28 false false (T 29) (T 31)),
  oG 33 27 true (rmv (T 32)),
  oG 34 33 false (rload true 7 (T 4)),
  oG 35 33 false (rload true 7 (T 6)),
  oCG 36 33 false (.func 26) [(T 34), (T 35)],
  oG 37 33 false (rmv (T 36)),
  oG 38 37 true (rfaddr 6 (T 4)),
  oG 39 37 true (rload false 1 (T 38)),
  oG 40 37 true (rfaddr 6 (T 6)),
  oG 41 37 true (rload false 1 (T 40)),
  oCG 42 37 true (.func 49) [(T 39), (T 41)],
  oG 43 37 true (run' .not (T 42)),
  oG 44 33 false (rpick (T 37) (T 43) (.const (.bool false))),
  oG 45 27 true (rpick (T 33) (.const (.bool true)) (T 44)),
  oV 46 (rpick (T 27) (T 45) (.const (.bool false)))]
noncomputable abbrev c25_15 : RC := .ops [oV 2 (rmv (.const (.bool false)))]
noncomputable abbrev c25_16 : RC := .seq c25_15 .ret
noncomputable abbrev c25_17 : RC := .cond (rX 46) c25_16 .skip
noncomputable abbrev c25_18 : RC := .seq c25_14 c25_17
noncomputable abbrev c25_19 : RC := .seq c25_13 c25_18
noncomputable abbrev c25_20 : RC := .block 3 c25_19
noncomputable abbrev c25_21 : RC := .ops [oV 47 (rbin env .add 3 false true (T 19) (K 1)),
  oV 19 (rmv (T 47))]
noncomputable abbrev c25_22 : RC := .seq c25_20 c25_21
noncomputable abbrev c25_23 : RC := .seq c25_12 c25_22
noncomputable abbrev c25_24 : RC := .seq c25_11 c25_23
noncomputable abbrev c25_25 : RC := .loop c25_24
noncomputable abbrev c25_26 : RC := .block 2 c25_25
noncomputable abbrev c25_27 : RC := .seq c25_10 c25_26
noncomputable abbrev c25_28 : RC := .seq c25_9 c25_27
noncomputable abbrev c25_29 : RC := .seq c25_4 c25_28
noncomputable abbrev c25_30 : RC := .block 1 c25_29
noncomputable abbrev c25_31 : RC := .ops [oV 48 (rbin env .add 3 false true (T 9) (K 1)),
  oV 9 (rmv (T 48))]
noncomputable abbrev c25_32 : RC := .seq c25_30 c25_31
noncomputable abbrev c25_33 : RC := .seq c25_3 c25_32
noncomputable abbrev c25_34 : RC := .seq c25_2 c25_33
noncomputable abbrev c25_35 : RC := .loop c25_34
noncomputable abbrev c25_36 : RC := .block 0 c25_35
noncomputable abbrev c25_37 : RC := .seq c25_1 c25_36
noncomputable abbrev c25_38 : RC := .ops [oV 2 (rmv (.const (.bool true)))]
noncomputable abbrev c25_39 : RC := .seq c25_38 .ret
noncomputable abbrev c25_40 : RC := .seq c25_37 c25_39
noncomputable abbrev c25_41 : RC := .seq c25_0 c25_40
theorem fn25 : env.fn 25 = some ⟨49, [.tmp 2], body25⟩ := by kernel_rfl
theorem comp25 : comp env body25 = c25_41 := by kernel_rfl

/-! ### tributary/event.Ahead -/
noncomputable def body26 : Code := match Tryd.f26.body with | some c => c | none => .skip
noncomputable abbrev c26_0 : RC := .ops [oU 2 (rbox (T 0)),
  oU 3 (rbox (T 1)),
  oV 4 (rmv (.const (.bool false)))]
noncomputable abbrev c26_1 : RC := .ops [oV 5 (rload true 7 (T 2)),
  oC 6 (.func 20) [(T 5)],
  oV 7 (rbin env .eql 23 false true (T 6) (K 0)),
  oV 8 (rmv (T 7)),
  oG 9 8 true (rload true 7 (T 3)),
  oCG 10 8 true (.func 20) [(T 9)],
  oG 11 8 true (rbin env .eql 23 false true (T 10) (K 0)),
  oV 12 (rpick (T 8) (T 11) (.const (.bool false))),
  oV 13 (rmv (T 12)),
  oG 14 13 true (rfaddr 6 (T 3)),
  oG 15 13 true (rload false 1 (T 14)),
  oG 16 13 true (rfaddr 0 (T 2)),
  oG 17 13 true (rload true 2 (T 16)),
  oCG 18 13 true (.func 50) [(T 15), (T 17)],
  oV 19 (rpick (T 13) (T 18) (.const (.bool false))),
  oV 4 (rmv (T 19))]
noncomputable abbrev c26_2 : RC := .seq c26_1 .ret
noncomputable abbrev c26_3 : RC := .seq c26_0 c26_2
theorem fn26 : env.fn 26 = some ⟨20, [.tmp 4], body26⟩ := by kernel_rfl
theorem comp26 : comp env body26 = c26_3 := by kernel_rfl

/-! ### tributary/event.Past -/
noncomputable def body27 : Code := match Tryd.f27.body with | some c => c | none => .skip
noncomputable abbrev c27_0 : RC := .ops [oV 2 (rmv (.const (.slice none 0 0))),
  oV 3 (rmv (K 0))]
noncomputable abbrev c27_1 : RC := .ops [oV 12 (rmv (T 0)),
  oV 13 (rlen (T 12)),
  oV 14 (rmv (K 0))]
noncomputable abbrev c27_2 : RC := .ops [oV 15 (rbin env .lss 3 false false (T 14) (T 13))]
noncomputable abbrev c27_3 : RC := .cond (rX 15) .skip (.exit 0)
noncomputable abbrev c27_4 : RC := .ops [oV 16 (riaddr 7 (T 12) (T 14)),
  oV 17 (rload true 7 (T 16)),
  oU 5 (rnew [.v (.int .i64 0), .v (.int .i64 0), .v (.string ⟨#[]⟩), .v (.int .i64 0), .v (.int .i64 0), .lst .full 0 0 [], .lst .full 0 0 []]),
  oS (rstore 7 (T 5) (T 17))]
noncomputable abbrev c27_5 : RC := .ops [oV 18 (rload true 7 (T 5)),
  oC 19 (.func 20) [(T 18)],
  oV 6 (rmv (T 19))]
noncomputable abbrev c27_6 : RC := .ops [oV 20 (rmv (T 6)),
  oV 21 (rbin env .neq 23 false true (T 20) (K 0))]
noncomputable abbrev c27_7 : RC := .ops [oV 22 (rmv (T 6)),
  oV 2 (rmv (.const (.slice none 0 0))),
  oV 3 (rmv (T 22))]
noncomputable abbrev c27_8 : RC := .seq c27_7 .ret
noncomputable abbrev c27_9 : RC := .cond (rX 21) c27_8 .skip
noncomputable abbrev c27_10 : RC := .seq c27_6 c27_9
noncomputable abbrev c27_11 : RC := .seq c27_5 c27_10
noncomputable abbrev c27_12 : RC := .seq c27_4 c27_11
noncomputable abbrev c27_13 : RC := .block 1 c27_12
noncomputable abbrev c27_14 : RC := .ops [oV 23 (rbin env .add 3 false true (T 14) (K 1)),
  oV 14 (rmv (T 23))]
noncomputable abbrev c27_15 : RC := .seq c27_13 c27_14
noncomputable abbrev c27_16 : RC := .seq c27_3 c27_15
noncomputable abbrev c27_17 : RC := .seq c27_2 c27_16
noncomputable abbrev c27_18 : RC := .loop c27_17
noncomputable abbrev c27_19 : RC := .block 0 c27_18
noncomputable abbrev c27_20 : RC := .seq c27_1 c27_19
noncomputable abbrev c27_21 : RC := .ops [oV 7 (rmv (.const (.slice none 0 0)))]
noncomputable abbrev c27_22 : RC := .ops [oV 24 (rmv (T 0)),
  oV 25 (rlen (T 24)),
  oV 26 (rmv (K 0))]
noncomputable abbrev c27_23 : RC := .ops [oV 27 (rbin env .lss 3 false false (T 26) (T 25))]
noncomputable abbrev c27_24 : RC := .cond (rX 27) .skip (.exit 2)
noncomputable abbrev c27_25 : RC := .ops [oV 28 (riaddr 7 (T 24) (T 26)),
  oV 29 (rload true 7 (T 28)),
  oU 9 (rnew [.v (.int .i64 0), .v (.int .i64 0), .v (.string ⟨#[]⟩), .v (.int .i64 0), .v (.int .i64 0), .lst .full 0 0 [], .lst .full 0 0 []]),
  oS (rstore 7 (T 9) (T 29))]
noncomputable abbrev c27_26 : RC := .ops [oV 31 (rmv (T 7)),
  oV 32 (rfaddr 6 (T 9)),
  oV 33 (rload false 1 (T 32)),
  oC 34 (.func 51) [(T 31), (T 33)],
  oV 30 (rmv (T 34)),
  oV 35 (rext (T 30) 0),
  oV 36 (rext (T 30) 1),
  oV 10 (rmv (T 35)),
  oV 11 (rmv (T 36))]
noncomputable abbrev c27_27 : RC := .ops [oV 37 (rmv (T 11)),
  oV 38 (rbin env .eql 23 false true (T 37) (K 0))]
noncomputable abbrev c27_28 : RC := .ops [oV 40 (rmv (T 10)),
  oV 41 (rfaddr 0 (T 9)),
  oV 42 (rload true 2 (T 41)),
  oC 43 (.func 52) [(T 40), (T 42)],
  oV 39 (rmv (T 43)),
  oV 44 (rext (T 39) 0),
  oV 45 (rext (T 39) 1),
  oV 10 (rmv (T 44)),
  oV 11 (rmv (T 45))]
noncomputable abbrev c27_29 : RC := .cond (rX 38) c27_28 .skip
noncomputable abbrev c27_30 : RC := .seq c27_27 c27_29
noncomputable abbrev c27_31 : RC := .ops [oV 46 (rmv (T 11)),
  oV 47 (rbin env .neq 23 false true (T 46) (K 0))]
noncomputable abbrev c27_32 : RC := .ops [oV 48 (rmv (T 11)),
  oV 2 (rmv (.const (.slice none 0 0))),
  oV 3 (rmv (T 48))]
noncomputable abbrev c27_33 : RC := .seq c27_32 .ret
noncomputable abbrev c27_34 : RC := .cond (rX 47) c27_33 .skip
noncomputable abbrev c27_35 : RC := .seq c27_31 c27_34
noncomputable abbrev c27_36 : RC := .ops [oV 49 (rmv (T 10)),
  oV 7 (rmv (T 49))]
noncomputable abbrev c27_37 : RC := .seq c27_35 c27_36
noncomputable abbrev c27_38 : RC := .seq c27_30 c27_37
noncomputable abbrev c27_39 : RC := .seq c27_26 c27_38
noncomputable abbrev c27_40 : RC := .seq c27_25 c27_39
noncomputable abbrev c27_41 : RC := .block 3 c27_40
noncomputable abbrev c27_42 : RC := .ops [oV 50 (rbin env .add 3 false true (T 26) (K 1)),
  oV 26 (rmv (T 50))]
noncomputable abbrev c27_43 : RC := .seq c27_41 c27_42
noncomputable abbrev c27_44 : RC := .seq c27_24 c27_43
noncomputable abbrev c27_45 : RC := .seq c27_23 c27_44
noncomputable abbrev c27_46 : RC := .loop c27_45
noncomputable abbrev c27_47 : RC := .block 2 c27_46
noncomputable abbrev c27_48 : RC := .seq c27_22 c27_47
noncomputable abbrev c27_49 : RC := .ops [oV 51 (rmv (T 7)),
  oV 2 (rmv (T 51)),
  oV 3 (rmv (K 0))]
noncomputable abbrev c27_50 : RC := .seq c27_49 .ret
noncomputable abbrev c27_51 : RC := .seq c27_48 c27_50
noncomputable abbrev c27_52 : RC := .seq c27_21 c27_51
noncomputable abbrev c27_53 : RC := .seq c27_20 c27_52
noncomputable abbrev c27_54 : RC := .seq c27_0 c27_53
theorem fn27 : env.fn 27 = some ⟨52, [.tmp 2, .tmp 3], body27⟩ := by kernel_rfl
theorem comp27 : comp env body27 = c27_54 := by kernel_rfl

/-! ### tributary/past.Last -/
noncomputable def body28 : Code := match Tryd.f28.body with | some c => c | none => .skip
noncomputable abbrev c28_0 : RC := .ops [oU 3 (rbox (T 1)),
  oV 4 (rmv (K 0))]
noncomputable abbrev c28_1 : RC := .ops [oV 5 (rmv (T 0)),
  oV 6 (rfn 54 [] [(T 3)]),
  oC 7 (.func 53) [(T 5), (T 6)],
  oV 4 (rmv (T 7))]
noncomputable abbrev c28_2 : RC := .seq c28_1 .ret
noncomputable abbrev c28_3 : RC := .seq c28_0 c28_2
theorem fn28 : env.fn 28 = some ⟨8, [.tmp 4], body28⟩ := by kernel_rfl
theorem comp28 : comp env body28 = c28_3 := by kernel_rfl

/-! ### tributary/tributarykit.CopyEvents -/
noncomputable def body29 : Code := match Tryd.f29.body with | some c => c | none => .skip
noncomputable abbrev c29_0 : RC := .ops [oV 2 (rmv (.const (.slice none 0 0)))]
noncomputable abbrev c29_1 : RC := .ops [oV 3 (rmv (.const (.slice none 0 0)))]
noncomputable abbrev c29_2 : RC := .ops [oV 4 (rmv (K 0))]
noncomputable abbrev c29_3 : RC := .ops [oV 5 (rmv (T 4)),
  oV 6 (rmv (T 0)),
  oV 7 (rlen (T 6)),
  oV 8 (rbin env .lss 3 false false (T 5) (T 7))]
noncomputable abbrev c29_4 : RC := .cond (rX 8) .skip (.exit 0)
noncomputable abbrev c29_5 : RC := .seq c29_3 c29_4
noncomputable abbrev c29_6 : RC := .ops [oV 11 (rmv (T 3)),
  oV 12 (rmv (T 0)),
  oV 13 (rmv (T 4)),
  oV 14 (riaddr 7 (T 12) (T 13)),
  oV 15 (rload true 7 (T 14)),
  oC 16 (.func 55) [(T 15)],
  oU 17 (rbuildL 7 1 [.v (.int .i64 0), .v (.int .i64 0), .v (.string ⟨#[]⟩), .v (.int .i64 0), .v (.int .i64 0), .lst .full 0 0 [], .lst .full 0 0 []] [(0, (T 16))]),
  oU 18 (rappend 7 96 7 (T 11) (T 17)),
  oV 3 (rmv (T 18))]
noncomputable abbrev c29_7 : RC := .block 1 c29_6
noncomputable abbrev c29_8 : RC := .ops [oV 9 (rmv (T 4)),
  oV 10 (rbin env .add 3 false true (T 9) (K 1)),
  oV 4 (rmv (T 10))]
noncomputable abbrev c29_9 : RC := .seq c29_7 c29_8
noncomputable abbrev c29_10 : RC := .seq c29_5 c29_9
noncomputable abbrev c29_11 : RC := .loop c29_10
noncomputable abbrev c29_12 : RC := .block 0 c29_11
noncomputable abbrev c29_13 : RC := .seq c29_2 c29_12
noncomputable abbrev c29_14 : RC := .ops [oV 19 (rmv (T 3)),
  oV 2 (rmv (T 19))]
noncomputable abbrev c29_15 : RC := .seq c29_14 .ret
noncomputable abbrev c29_16 : RC := .seq c29_13 c29_15
noncomputable abbrev c29_17 : RC := .seq c29_1 c29_16
noncomputable abbrev c29_18 : RC := .seq c29_0 c29_17
theorem fn29 : env.fn 29 = some ⟨20, [.tmp 2], body29⟩ := by kernel_rfl
theorem comp29 : comp env body29 = c29_18 := by kernel_rfl

/-! ### (*tributary/spool.Spool).none -/
noncomputable def body30 : Code := match Tryd.f30.body with | some c => c | none => .skip
noncomputable abbrev c30_0 : RC := .ops [oV 2 (rmv (.const (.bool false)))]
noncomputable abbrev c30_1 : RC := .ops [oV 3 (rmv (T 0)),
  oV 4 (rbin env .eql 22 false true (T 3) (.const (.pointer none))),
  oV 5 (rmv (T 4)),
  oG 6 5 false (rmv (T 0)),
  oG 7 5 false (rnil (T 6)),
  oG 8 5 false (rfaddr 0 (T 7)),
  oG 9 5 false (rload false 1 (T 8)),
  oG 10 5 false (run' .not (T 9)),
  oV 11 (rpick (T 5) (.const (.bool true)) (T 10)),
  oV 2 (rmv (T 11))]
noncomputable abbrev c30_2 : RC := .seq c30_1 .ret
noncomputable abbrev c30_3 : RC := .seq c30_0 c30_2
theorem fn30 : env.fn 30 = some ⟨12, [.tmp 2], body30⟩ := by kernel_rfl
theorem comp30 : comp env body30 = c30_3 := by kernel_rfl

/-! ### (*tributary/spool.Spool).find -/
noncomputable def body31 : Code := match Tryd.f31.body with | some c => c | none => .skip
noncomputable abbrev c31_0 : RC := .ops [oU 3 (rbox (T 1)),
  oV 4 (rmv (.const (.pointer none)))]
noncomputable abbrev c31_1 : RC := .ops [oU 5 (rnew [.v (.pointer none)])]
noncomputable abbrev c31_2 : RC := .ops [oV 7 (rmv (T 0)),
  oC 8 (.func 36) [(T 7)]]
noncomputable abbrev c31_3 : RC := .ops [oV 6 (rmv (T 9))]
noncomputable abbrev c31_4 : RC := .ops [oV 10 (rmv (T 6)),
  oS (rstore 1 (T 5) (T 10))]
noncomputable abbrev c31_5 : RC := .drawn true [dV 11 (rmv (T 6)),
  dV 12 (rnil (T 11)),
  dV 13 (rload false 1 (T 12)),
  dV 14 (rbin env .neq 53 false true (T 13) (.const (.pointer none))),
  dV 15 (rmv (T 14)),
  dG 16 15 true (rmv (T 6)),
  dG 17 15 true (rnil (T 16)),
  dG 18 15 true (rload false 1 (T 17)),
  dG 19 15 true (rnil (T 18)),
  dG 20 15 true (rfaddr 0 (T 19)),
  dG 21 15 true (rfaddr 0 (T 20)),
  dG 22 15 true (rload true 2 (T 21)),
  dG 23 15 true (rload true 2 (T 3)),
  dG 24 15 true (rbin env .eql 28 false false (T 22) (T 23)),
  dV 25 (rpick (T 15) (T 24) (.const (.bool false)))]
noncomputable abbrev c31_6 : RC := .cond (rX 25) (.exit 0) .skip
noncomputable abbrev c31_7 : RC := .seq c31_5 c31_6
noncomputable abbrev c31_8 : RC := .seq c31_4 c31_7
noncomputable abbrev c31_9 : RC := .block 1 c31_8
noncomputable abbrev c31_10 : RC := .range (fun s => pev s.tm (T 8)) [9] (subc [1, 1, 0, 1, 0, 0] body31) (subc [1, 1, 0, 1, 0, 1] body31)
noncomputable abbrev c31_11 : RC := .block 0 c31_10
noncomputable abbrev c31_12 : RC := .seq c31_2 c31_11
noncomputable abbrev c31_13 : RC := .ops [oV 26 (rload false 1 (T 5)),
  oV 4 (rmv (T 26))]
noncomputable abbrev c31_14 : RC := .seq c31_13 .ret
noncomputable abbrev c31_15 : RC := .seq c31_12 c31_14
noncomputable abbrev c31_16 : RC := .seq c31_1 c31_15
noncomputable abbrev c31_17 : RC := .seq c31_0 c31_16
theorem fn31 : env.fn 31 = some ⟨27, [.tmp 4], body31⟩ := by kernel_rfl
theorem comp31 : comp env body31 = c31_17 := by kernel_rfl
theorem piece31_1 : comp env (subc [1, 1, 0, 1, 0, 0] body31) = c31_3 := by kernel_rfl
theorem piece31_2 : comp env (subc [1, 1, 0, 1, 0, 1] body31) = c31_9 := by kernel_rfl

/-! ### tributary/spool.own -/
noncomputable def body32 : Code := match Tryd.f32.body with | some c => c | none => .skip
noncomputable abbrev c32_0 : RC := .ops [oU 1 (rbox (T 0)),
  oU 2 (rnew [.v (.int .i64 0), .v (.int .i64 0), .v (.string ⟨#[]⟩), .v (.int .i64 0), .v (.int .i64 0), .lst .full 0 0 [], .lst .full 0 0 []])]
noncomputable abbrev c32_1 : RC := .ops [oV 3 (rfaddr 3 (T 1)),
  oV 4 (rfaddr 2 (T 3)),
  oV 5 (rload false 1 (T 4)),
  oC 6 (.func 56) [(T 5)],
  oV 7 (rfaddr 3 (T 1)),
  oV 8 (rfaddr 2 (T 7)),
  oS (rstore 1 (T 8) (T 6))]
noncomputable abbrev c32_2 : RC := .ops [oV 9 (rfaddr 6 (T 1)),
  oV 10 (rload false 1 (T 9)),
  oC 11 (.func 57) [(T 10)],
  oV 12 (rfaddr 6 (T 1)),
  oS (rstore 1 (T 12) (T 11))]
noncomputable abbrev c32_3 : RC := .ops [oV 13 (rload true 7 (T 1)),
  oS (rstore 7 (T 2) (T 13))]
noncomputable abbrev c32_4 : RC := .seq c32_3 .ret
noncomputable abbrev c32_5 : RC := .seq c32_2 c32_4
noncomputable abbrev c32_6 : RC := .seq c32_1 c32_5
noncomputable abbrev c32_7 : RC := .seq c32_0 c32_6
theorem fn32 : env.fn 32 = some ⟨14, [.cell 2 34], body32⟩ := by kernel_rfl
theorem comp32 : comp env body32 = c32_7 := by kernel_rfl

/-! ### (*sync/atomic.Int64).Add -/
noncomputable def body33 : Code := match Tryd.f33.body with | some c => c | none => .skip
noncomputable abbrev c33_0 : RC := .ops [oV 4 (rmv (K 0))]
noncomputable abbrev c33_1 : RC := .ops [oV 5 (rmv (T 0)),
  oV 6 (rnil (T 5)),
  oV 7 (rfaddr 0 (T 6)),
  oV 8 (rmv (T 1)),
  oC 9 (.func 58) [(T 7), (T 8)],
  oV 4 (rmv (T 9))]
noncomputable abbrev c33_2 : RC := .seq c33_1 .ret
noncomputable abbrev c33_3 : RC := .seq c33_0 c33_2
theorem fn33 : env.fn 33 = some ⟨10, [.tmp 4], body33⟩ := by kernel_rfl
theorem comp33 : comp env body33 = c33_3 := by kernel_rfl

/-! ### tributary/spool.raise -/
noncomputable def body34 : Code := match Tryd.f34.body with | some c => c | none => .skip
noncomputable abbrev c34_0 : RC := .ops [oV 5 (rmv (T 0)),
  oC 6 (.func 35) [(T 5)],
  oV 4 (rmv (T 6))]
noncomputable abbrev c34_1 : RC := .ops [oV 7 (rmv (T 4)),
  oV 8 (rmv (T 1)),
  oV 9 (rbin env .geq 2 false false (T 7) (T 8)),
  oV 10 (rmv (T 9)),
  oG 11 10 false (rmv (T 0)),
  oG 12 10 false (rmv (T 4)),
  oG 13 10 false (rmv (T 1)),
  oCG 14 10 false (.func 59) [(T 11), (T 12), (T 13)],
  oV 15 (rpick (T 10) (.const (.bool true)) (T 14))]
noncomputable abbrev c34_2 : RC := .cond (rX 15) .ret .skip
noncomputable abbrev c34_3 : RC := .seq c34_1 c34_2
noncomputable abbrev c34_4 : RC := .seq c34_0 c34_3
noncomputable abbrev c34_5 : RC := .block 1 c34_4
noncomputable abbrev c34_6 : RC := .loop c34_5
noncomputable abbrev c34_7 : RC := .block 0 c34_6
theorem fn34 : env.fn 34 = some ⟨16, [], body34⟩ := by kernel_rfl
theorem comp34 : comp env body34 = c34_7 := by kernel_rfl

/-! ### (*sync/atomic.Int64).Load -/
noncomputable def body35 : Code := match Tryd.f35.body with | some c => c | none => .skip
noncomputable abbrev c35_0 : RC := .ops [oV 2 (rmv (K 0))]
noncomputable abbrev c35_1 : RC := .ops [oV 3 (rmv (T 0)),
  oV 4 (rnil (T 3)),
  oV 5 (rfaddr 0 (T 4)),
  oC 6 (.func 60) [(T 5)],
  oV 2 (rmv (T 6))]
noncomputable abbrev c35_2 : RC := .seq c35_1 .ret
noncomputable abbrev c35_3 : RC := .seq c35_0 c35_2
theorem fn35 : env.fn 35 = some ⟨7, [.tmp 2], body35⟩ := by kernel_rfl
theorem comp35 : comp env body35 = c35_3 := by kernel_rfl

/-! ### (*tributary/spool.Spool).links -/
noncomputable def body36 : Code := match Tryd.f36.body with | some c => c | none => .skip
noncomputable abbrev c36_0 : RC := .ops [oU 1 (rbox (T 0)),
  oV 2 (rmv (.const (.nilFunc)))]
noncomputable abbrev c36_1 : RC := .ops [oV 3 (rfn 61 [] [(T 1)]),
  oV 2 (rmv (T 3))]
noncomputable abbrev c36_2 : RC := .seq c36_1 .ret
noncomputable abbrev c36_3 : RC := .seq c36_0 c36_2
theorem fn36 : env.fn 36 = some ⟨4, [.tmp 2], body36⟩ := by kernel_rfl
theorem comp36 : comp env body36 = c36_3 := by kernel_rfl

/-! ### tributary/tributarykit.SameEffect -/
noncomputable def body37 : Code := match Tryd.f37.body with | some c => c | none => .skip
noncomputable abbrev c37_0 : RC := .ops [oU 2 (rbox (T 0)),
  oU 3 (rbox (T 1)),
  oV 4 (rmv (.const (.bool false)))]
noncomputable abbrev c37_1 : RC := .ops [oV 5 (rfaddr 0 (T 2)),
  oV 6 (rload false 1 (T 5)),
  oV 7 (rfaddr 0 (T 3)),
  oV 8 (rload false 1 (T 7)),
  oV 9 (rbin env .eql 3 false false (T 6) (T 8)),
  oV 10 (rmv (T 9)),
  oG 11 10 true (rfaddr 1 (T 2)),
  oG 12 10 true (rload false 1 (T 11)),
  oG 13 10 true (rfaddr 1 (T 3)),
  oG 14 10 true (rload false 1 (T 13)),
  oG 15 10 true (rbin env .eql 3 false false (T 12) (T 14)),
  oV 16 (rpick (T 10) (T 15) (.const (.bool false))),
  oV 17 (rmv (T 16)),
  oG 18 17 true (rfaddr 2 (T 2)),
  oG 19 17 true (rload false 1 (T 18)),
  oG 20 17 true (rfaddr 2 (T 3)),
  oG 21 17 true (rload false 1 (T 20)),
  oCG 22 17 true (.func 48) [(T 19), (T 21)],
  oV 23 (rpick (T 17) (T 22) (.const (.bool false))),
  oV 4 (rmv (T 23))]
noncomputable abbrev c37_2 : RC := .seq c37_1 .ret
noncomputable abbrev c37_3 : RC := .seq c37_0 c37_2
theorem fn37 : env.fn 37 = some ⟨24, [.tmp 4], body37⟩ := by kernel_rfl
theorem comp37 : comp env body37 = c37_3 := by kernel_rfl

/-! ### tributary/tributarykit.SameSpans -/
noncomputable def body38 : Code := match Tryd.f38.body with | some c => c | none => .skip
noncomputable abbrev c38_0 : RC := .ops [oV 4 (rmv (.const (.bool false)))]
noncomputable abbrev c38_1 : RC := .ops [oV 6 (rmv (T 0)),
  oV 7 (rlen (T 6)),
  oV 8 (rmv (T 1)),
  oV 9 (rlen (T 8)),
  oV 10 (rbin env .neq 3 false false (T 7) (T 9))]
noncomputable abbrev c38_2 : RC := .ops [oV 4 (rmv (.const (.bool false)))]
noncomputable abbrev c38_3 : RC := .seq c38_2 .ret
noncomputable abbrev c38_4 : RC := .cond (rX 10) c38_3 .skip
noncomputable abbrev c38_5 : RC := .seq c38_1 c38_4
noncomputable abbrev c38_6 : RC := .ops [oV 5 (rmv (K 0))]
noncomputable abbrev c38_7 : RC := .ops [oV 11 (rmv (T 5)),
  oV 12 (rmv (T 0)),
  oV 13 (rlen (T 12)),
  oV 14 (rbin env .lss 3 false false (T 11) (T 13))]
noncomputable abbrev c38_8 : RC := .cond (rX 14) .skip (.exit 0)
noncomputable abbrev c38_9 : RC := .seq c38_7 c38_8
noncomputable abbrev c38_10 : RC := .drawn true [dV 17 (rmv (T 0)),
  dV 18 (rmv (T 5)),
  dV 19 (riaddr 3 (T 17) (T 18)),
  dV 20 (rload true 3 (T 19)),
  dV 21 (rmv (T 1)),
  dV 22 (rmv (T 5)),
  dV 23 (riaddr 3 (T 21) (T 22)),
  dV 24 (rload true 3 (T 23)),
  dV 25 (rbin env .neq 79 false false (T 20) (T 24))]
noncomputable abbrev c38_11 : RC := .ops [oV 4 (rmv (.const (.bool false)))]
noncomputable abbrev c38_12 : RC := .seq c38_11 .ret
noncomputable abbrev c38_13 : RC := .cond (rX 25) c38_12 .skip
noncomputable abbrev c38_14 : RC := .seq c38_10 c38_13
noncomputable abbrev c38_15 : RC := .block 1 c38_14
noncomputable abbrev c38_16 : RC := .ops [oV 15 (rmv (T 5)),
  oV 16 (rbin env .add 3 false true (T 15) (K 1)),
  oV 5 (rmv (T 16))]
noncomputable abbrev c38_17 : RC := .seq c38_15 c38_16
noncomputable abbrev c38_18 : RC := .seq c38_9 c38_17
noncomputable abbrev c38_19 : RC := .loop c38_18
noncomputable abbrev c38_20 : RC := .block 0 c38_19
noncomputable abbrev c38_21 : RC := .seq c38_6 c38_20
noncomputable abbrev c38_22 : RC := .ops [oV 4 (rmv (.const (.bool true)))]
noncomputable abbrev c38_23 : RC := .seq c38_22 .ret
noncomputable abbrev c38_24 : RC := .seq c38_21 c38_23
noncomputable abbrev c38_25 : RC := .seq c38_5 c38_24
noncomputable abbrev c38_26 : RC := .seq c38_0 c38_25
theorem fn38 : env.fn 38 = some ⟨26, [.tmp 4], body38⟩ := by kernel_rfl
theorem comp38 : comp env body38 = c38_26 := by kernel_rfl

/-! ### (tributary/event.asked).dot -/
noncomputable def body39 : Code := match Tryd.f39.body with | some c => c | none => .skip
noncomputable abbrev c39_0 : RC := .ops [oU 1 (rbox (T 0)),
  oV 2 (rmv (.const (.bool false)))]
noncomputable abbrev c39_1 : RC := .ops [oV 3 (rfaddr 0 (T 1)),
  oV 4 (rfaddr 0 (T 3)),
  oV 5 (rload true 2 (T 4)),
  oC 6 (.func 62) [(T 5)],
  oV 7 (rbin env .eql 23 false true (T 6) (K 0)),
  oV 2 (rmv (T 7))]
noncomputable abbrev c39_2 : RC := .seq c39_1 .ret
noncomputable abbrev c39_3 : RC := .seq c39_0 c39_2
theorem fn39 : env.fn 39 = some ⟨8, [.tmp 2], body39⟩ := by kernel_rfl
theorem comp39 : comp env body39 = c39_3 := by kernel_rfl

/-! ### (tributary/event.asked).path -/
noncomputable def body40 : Code := match Tryd.f40.body with | some c => c | none => .skip
noncomputable abbrev c40_0 : RC := .ops [oU 1 (rbox (T 0)),
  oV 2 (rmv (.const (.bool false)))]
noncomputable abbrev c40_1 : RC := .ops [oV 3 (rfaddr 0 (T 1)),
  oV 4 (rfaddr 2 (T 3)),
  oV 5 (rload false 1 (T 4)),
  oC 6 (.func 63) [(T 5)],
  oV 7 (rbin env .eql 23 false true (T 6) (K 0)),
  oV 2 (rmv (T 7))]
noncomputable abbrev c40_2 : RC := .seq c40_1 .ret
noncomputable abbrev c40_3 : RC := .seq c40_0 c40_2
theorem fn40 : env.fn 40 = some ⟨8, [.tmp 2], body40⟩ := by kernel_rfl
theorem comp40 : comp env body40 = c40_3 := by kernel_rfl

/-! ### (tributary/event.asked).effect -/
noncomputable def body41 : Code := match Tryd.f41.body with | some c => c | none => .skip
noncomputable abbrev c41_0 : RC := .ops [oU 1 (rbox (T 0)),
  oV 2 (rmv (.const (.bool false)))]
noncomputable abbrev c41_1 : RC := .ops [oV 3 (rfaddr 0 (T 1)),
  oV 4 (rfaddr 3 (T 3)),
  oV 5 (rload true 3 (T 4)),
  oC 6 (.func 64) [(T 5)],
  oV 7 (rbin env .eql 23 false true (T 6) (K 0)),
  oV 2 (rmv (T 7))]
noncomputable abbrev c41_2 : RC := .seq c41_1 .ret
noncomputable abbrev c41_3 : RC := .seq c41_0 c41_2
theorem fn41 : env.fn 41 = some ⟨8, [.tmp 2], body41⟩ := by kernel_rfl
theorem comp41 : comp env body41 = c41_3 := by kernel_rfl

/-! ### (tributary/event.asked).past -/
noncomputable def body42 : Code := match Tryd.f42.body with | some c => c | none => .skip
noncomputable abbrev c42_0 : RC := .ops [oU 1 (rbox (T 0)),
  oV 2 (rmv (.const (.bool false)))]
noncomputable abbrev c42_1 : RC := .ops [oV 3 (rfaddr 0 (T 1)),
  oV 4 (rfaddr 6 (T 3)),
  oV 5 (rload false 1 (T 4)),
  oC 6 (.func 65) [(T 5)],
  oV 7 (rbin env .eql 23 false true (T 6) (K 0)),
  oV 2 (rmv (T 7))]
noncomputable abbrev c42_2 : RC := .seq c42_1 .ret
noncomputable abbrev c42_3 : RC := .seq c42_0 c42_2
theorem fn42 : env.fn 42 = some ⟨8, [.tmp 2], body42⟩ := by kernel_rfl
theorem comp42 : comp env body42 = c42_3 := by kernel_rfl

/-! ### (tributary/event.asked).first -/
noncomputable def body43 : Code := match Tryd.f43.body with | some c => c | none => .skip
noncomputable abbrev c43_0 : RC := .ops [oU 1 (rbox (T 0)),
  oV 2 (rmv (.const (.bool false)))]
noncomputable abbrev c43_1 : RC := .drawn true [dV 3 (rfaddr 0 (T 1)),
  dV 4 (rfaddr 6 (T 3)),
  dV 5 (rload false 1 (T 4)),
  dV 6 (rfaddr 0 (T 1)),
  dV 7 (rfaddr 0 (T 6)),
  dV 8 (rfaddr 0 (T 7)),
  dV 9 (rload false 1 (T 8)),
  dV 11 (rfaddr 0 (T 1)),
  dV 12 (rfaddr 0 (T 11)),
  dV 13 (rfaddr 1 (T 12)),
  dV 14 (rload false 1 (T 13)),
  dC false 10 (.func 28) [(T 5), (T 9)],
  dV 15 (rbin env .lss 3 false false (T 10) (T 14)),
  dV 2 (rmv (T 15))]
noncomputable abbrev c43_2 : RC := .seq c43_1 .ret
noncomputable abbrev c43_3 : RC := .seq c43_0 c43_2
theorem fn43 : env.fn 43 = some ⟨16, [.tmp 2], body43⟩ := by kernel_rfl
theorem comp43 : comp env body43 = c43_3 := by kernel_rfl

/-! ### tributary/event.Bytes -/
noncomputable def body44 : Code := match Tryd.f44.body with | some c => c | none => .skip
noncomputable abbrev c44_0 : RC := .ops [oU 1 (rbox (T 0)),
  oV 2 (rmv (.const (.slice none 0 0))),
  oV 3 (rmv (K 0))]
noncomputable abbrev c44_1 : RC := .ops [oV 10 (rload true 7 (T 1)),
  oC 11 (.func 20) [(T 10)],
  oV 4 (rmv (T 11))]
noncomputable abbrev c44_2 : RC := .ops [oV 12 (rmv (T 4)),
  oV 13 (rbin env .neq 23 false true (T 12) (K 0))]
noncomputable abbrev c44_3 : RC := .ops [oV 14 (rmv (T 4)),
  oV 2 (rmv (.const (.slice none 0 0))),
  oV 3 (rmv (T 14))]
noncomputable abbrev c44_4 : RC := .seq c44_3 .ret
noncomputable abbrev c44_5 : RC := .cond (rX 13) c44_4 .skip
noncomputable abbrev c44_6 : RC := .seq c44_2 c44_5
noncomputable abbrev c44_7 : RC := .seq c44_1 c44_6
noncomputable abbrev c44_8 : RC := .ops [oV 16 (rfaddr 3 (T 1)),
  oV 17 (rload true 3 (T 16)),
  oC 18 (.func 66) [(T 17)],
  oV 15 (rmv (T 18)),
  oV 19 (rext (T 15) 0),
  oV 20 (rext (T 15) 1),
  oV 5 (rmv (T 19)),
  oV 6 (rmv (T 20))]
noncomputable abbrev c44_9 : RC := .ops [oV 22 (rfaddr 6 (T 1)),
  oV 23 (rload false 1 (T 22)),
  oC 24 (.func 67) [(T 23)],
  oV 21 (rmv (T 24)),
  oV 25 (rext (T 21) 0),
  oV 26 (rext (T 21) 1),
  oV 7 (rmv (T 25)),
  oV 8 (rmv (T 26))]
noncomputable abbrev c44_10 : RC := .ops [oC 27 (.func 68) [],
  oV 9 (rmv (T 27))]
noncomputable abbrev c44_11 : RC := .ops [oV 28 (rmv (T 9)),
  oV 29 (rfaddr 0 (T 1)),
  oV 30 (rfaddr 0 (T 29)),
  oV 31 (rload false 1 (T 30)),
  oC 32 (.func 69) [(T 28), (T 31)]]
noncomputable abbrev c44_12 : RC := .ops [oV 33 (rmv (T 9)),
  oV 34 (rfaddr 0 (T 1)),
  oV 35 (rfaddr 1 (T 34)),
  oV 36 (rload false 1 (T 35)),
  oC 37 (.func 69) [(T 33), (T 36)]]
noncomputable abbrev c44_13 : RC := .ops [oV 38 (rmv (T 9)),
  oV 39 (rfaddr 2 (T 1)),
  oV 40 (rload false 1 (T 39)),
  oC 41 (.func 70) [(T 38), (T 40)]]
noncomputable abbrev c44_14 : RC := .ops [oV 42 (rmv (T 9)),
  oV 43 (rmv (T 5)),
  oC 44 (.func 71) [(T 42), (T 43)]]
noncomputable abbrev c44_15 : RC := .ops [oV 45 (rmv (T 9)),
  oV 46 (rmv (T 7)),
  oC 47 (.func 71) [(T 45), (T 46)]]
noncomputable abbrev c44_16 : RC := .ops [oV 48 (rmv (T 9)),
  oC 49 (.func 72) [(T 48)],
  oV 50 (rext (T 49) 0),
  oV 51 (rext (T 49) 1),
  oV 2 (rmv (T 50)),
  oV 3 (rmv (T 51))]
noncomputable abbrev c44_17 : RC := .seq c44_16 .ret
noncomputable abbrev c44_18 : RC := .seq c44_15 c44_17
noncomputable abbrev c44_19 : RC := .seq c44_14 c44_18
noncomputable abbrev c44_20 : RC := .seq c44_13 c44_19
noncomputable abbrev c44_21 : RC := .seq c44_12 c44_20
noncomputable abbrev c44_22 : RC := .seq c44_11 c44_21
noncomputable abbrev c44_23 : RC := .seq c44_10 c44_22
noncomputable abbrev c44_24 : RC := .seq c44_9 c44_23
noncomputable abbrev c44_25 : RC := .seq c44_8 c44_24
noncomputable abbrev c44_26 : RC := .seq c44_7 c44_25
noncomputable abbrev c44_27 : RC := .seq c44_0 c44_26
theorem fn44 : env.fn 44 = some ⟨52, [.tmp 2, .tmp 3], body44⟩ := by kernel_rfl
theorem comp44 : comp env body44 = c44_27 := by kernel_rfl

/-! ### tributary/tributarykit.LongEffect -/
noncomputable def body45 : Code := match Tryd.f45.body with | some c => c | none => .skip
noncomputable abbrev c45_0 : RC := .ops [oU 1 (rbox (T 0)),
  oV 2 (rmv (.const (.bool false)))]
noncomputable abbrev c45_1 : RC := .ops [oV 3 (rfaddr 2 (T 1)),
  oV 4 (rload false 1 (T 3)),
  oV 5 (rlen (T 4)),
  oV 6 (rbin env .gtr 3 false true (T 5) (K 1200)),
  oV 2 (rmv (T 6))]
noncomputable abbrev c45_2 : RC := .seq c45_1 .ret
noncomputable abbrev c45_3 : RC := .seq c45_0 c45_2
theorem fn45 : env.fn 45 = some ⟨7, [.tmp 2], body45⟩ := by kernel_rfl
theorem comp45 : comp env body45 = c45_3 := by kernel_rfl

/-! ### tributary/tributarylaw08.one -/
noncomputable def body46 : Code := match Tryd.f46.body with | some c => c | none => .skip
noncomputable abbrev c46_0 : RC := .ops [oU 0 (rnew [.v (.int .i64 0), .v (.int .i64 0), .v (.string ⟨#[]⟩), .v (.int .i64 0), .v (.int .i64 0), .lst .full 0 0 [], .lst .full 0 0 []])]
noncomputable abbrev c46_1 : RC := .ops [oV 1 (rbuild [.v (.int .i64 0), .v (.int .i64 0)] [(0, 1), (1, 1)] [(0, (K 1)), (1, (K 1))]),
  oV 2 (rbuild [.v (.int .i64 0), .v (.int .i64 0), .lst .full 0 0 []] [(0, 1), (1, 1), (2, 1)] [(0, (K 1))]),
  oV 3 (rbuild [.v (.int .i64 0), .v (.int .i64 0), .v (.string ⟨#[]⟩), .v (.int .i64 0), .v (.int .i64 0), .lst .full 0 0 [], .lst .full 0 0 []] [(0, 2), (2, 1), (3, 3), (6, 1)] [(0, (T 1)), (1, (.const (.string ⟨#[102]⟩))), (2, (T 2))]),
  oS (rstore 7 (T 0) (T 3))]
noncomputable abbrev c46_2 : RC := .seq c46_1 .ret
noncomputable abbrev c46_3 : RC := .seq c46_0 c46_2
theorem fn46 : env.fn 46 = some ⟨4, [.cell 0 34], body46⟩ := by kernel_rfl
theorem comp46 : comp env body46 = c46_3 := by kernel_rfl

/-! ### tributary/tributarylaw08.two -/
noncomputable def body47 : Code := match Tryd.f47.body with | some c => c | none => .skip
noncomputable abbrev c47_0 : RC := .ops [oU 0 (rnew [.v (.int .i64 0), .v (.int .i64 0), .v (.string ⟨#[]⟩), .v (.int .i64 0), .v (.int .i64 0), .lst .full 0 0 [], .lst .full 0 0 []])]
noncomputable abbrev c47_1 : RC := .ops [oV 1 (rbuild [.v (.int .i64 0), .v (.int .i64 0)] [(0, 1), (1, 1)] [(0, (K 2)), (1, (K 1))]),
  oV 2 (rbuild [.v (.int .i64 0), .v (.int .i64 0), .lst .full 0 0 []] [(0, 1), (1, 1), (2, 1)] [(0, (K 3))]),
  oV 3 (rbuild [.v (.int .i64 0), .v (.int .i64 0), .v (.int .i64 0)] [(0, 1), (1, 1), (2, 1)] [(0, (K 1)), (1, (K 1)), (2, (K 1))]),
  oU 4 (rbuildL 3 1 [.v (.int .i64 0), .v (.int .i64 0), .v (.int .i64 0)] [(0, (T 3))]),
  oV 5 (rbuild [.v (.int .i64 0), .v (.int .i64 0), .v (.string ⟨#[]⟩), .v (.int .i64 0), .v (.int .i64 0), .lst .full 0 0 [], .lst .full 0 0 []] [(0, 2), (2, 1), (3, 3), (6, 1)] [(0, (T 1)), (1, (.const (.string ⟨#[102]⟩))), (2, (T 2)), (3, (T 4))]),
  oS (rstore 7 (T 0) (T 5))]
noncomputable abbrev c47_2 : RC := .seq c47_1 .ret
noncomputable abbrev c47_3 : RC := .seq c47_0 c47_2
theorem fn47 : env.fn 47 = some ⟨6, [.cell 0 34], body47⟩ := by kernel_rfl
theorem comp47 : comp env body47 = c47_3 := by kernel_rfl

/-! ### tributary/tributarykit.SameBytes -/
noncomputable def body48 : Code := match Tryd.f48.body with | some c => c | none => .skip
noncomputable abbrev c48_0 : RC := .ops [oV 4 (rmv (.const (.bool false)))]
noncomputable abbrev c48_1 : RC := .ops [oV 5 (rmv (T 0)),
  oU 6 (rconvB (T 5)),
  oV 7 (rmv (T 1)),
  oU 8 (rconvB (T 7)),
  oV 9 (rbin env .eql 9 false false (T 6) (T 8)),
  oV 4 (rmv (T 9))]
noncomputable abbrev c48_2 : RC := .seq c48_1 .ret
noncomputable abbrev c48_3 : RC := .seq c48_0 c48_2
theorem fn48 : env.fn 48 = some ⟨10, [.tmp 4], body48⟩ := by kernel_rfl
theorem comp48 : comp env body48 = c48_3 := by kernel_rfl

/-! ### tributary/past.Within -/
noncomputable def body49 : Code := match Tryd.f49.body with | some c => c | none => .skip
noncomputable abbrev c49_0 : RC := .ops [oV 4 (rmv (.const (.bool false)))]
noncomputable abbrev c49_1 : RC := .ops [oV 8 (rmv (T 0)),
  oV 9 (rmv (T 1)),
  oC 10 (.func 73) [(T 8), (T 9)],
  oV 7 (rmv (T 10)),
  oV 11 (rext (T 7) 0),
  oV 12 (rext (T 7) 1),
  oV 5 (rmv (T 11)),
  oV 6 (rmv (T 12))]
noncomputable abbrev c49_2 : RC := .ops [oV 13 (rmv (T 6)),
  oV 14 (rbin env .eql 23 false true (T 13) (K 0)),
  oV 15 (rmv (T 14)),
  oG 16 15 true (rmv (T 5)),
  oG 17 15 true (rlen (T 16)),
  oG 18 15 true (rbin env .eql 3 false true (T 17) (K 0)),
  oV 19 (rpick (T 15) (T 18) (.const (.bool false))),
  oV 4 (rmv (T 19))]
noncomputable abbrev c49_3 : RC := .seq c49_2 .ret
noncomputable abbrev c49_4 : RC := .seq c49_1 c49_3
noncomputable abbrev c49_5 : RC := .seq c49_0 c49_4
theorem fn49 : env.fn 49 = some ⟨20, [.tmp 4], body49⟩ := by kernel_rfl
theorem comp49 : comp env body49 = c49_5 := by kernel_rfl

/-! ### tributary/past.Has -/
noncomputable def body50 : Code := match Tryd.f50.body with | some c => c | none => .skip
noncomputable abbrev c50_0 : RC := .ops [oU 3 (rbox (T 1)),
  oV 4 (rmv (.const (.bool false)))]
noncomputable abbrev c50_1 : RC := .ops [oV 5 (rmv (T 0)),
  oC 6 (.func 65) [(T 5)],
  oV 7 (rbin env .eql 23 false true (T 6) (K 0)),
  oV 8 (rmv (T 7)),
  oG 9 8 true (rmv (T 0)),
  oG 10 8 true (rfn 75 [] [(T 3)]),
  oCG 11 8 true (.func 74) [(T 9), (T 10)],
  oV 12 (rpick (T 8) (T 11) (.const (.bool false))),
  oV 4 (rmv (T 12))]
noncomputable abbrev c50_2 : RC := .seq c50_1 .ret
noncomputable abbrev c50_3 : RC := .seq c50_0 c50_2
theorem fn50 : env.fn 50 = some ⟨13, [.tmp 4], body50⟩ := by kernel_rfl
theorem comp50 : comp env body50 = c50_3 := by kernel_rfl

/-! ### tributary/past.Join -/
noncomputable def body51 : Code := match Tryd.f51.body with | some c => c | none => .skip
noncomputable abbrev c51_0 : RC := .ops [oV 4 (rmv (.const (.slice none 0 0))),
  oV 5 (rmv (K 0))]
noncomputable abbrev c51_1 : RC := .ops [oV 6 (rmv (T 0)),
  oV 7 (rmv (T 1)),
  oC 8 (.func 76) [(T 6), (T 7), (.func 77)],
  oV 9 (rext (T 8) 0),
  oV 10 (rext (T 8) 1),
  oV 4 (rmv (T 9)),
  oV 5 (rmv (T 10))]
noncomputable abbrev c51_2 : RC := .seq c51_1 .ret
noncomputable abbrev c51_3 : RC := .seq c51_0 c51_2
theorem fn51 : env.fn 51 = some ⟨11, [.tmp 4, .tmp 5], body51⟩ := by kernel_rfl
theorem comp51 : comp env body51 = c51_3 := by kernel_rfl

/-! ### tributary/past.Add -/
noncomputable def body52 : Code := match Tryd.f52.body with | some c => c | none => .skip
noncomputable abbrev c52_0 : RC := .ops [oU 3 (rbox (T 1)),
  oV 4 (rmv (.const (.slice none 0 0))),
  oV 5 (rmv (K 0))]
noncomputable abbrev c52_1 : RC := .ops [oV 6 (rmv (T 0)),
  oC 7 (.func 65) [(T 6)],
  oV 8 (rbin env .neq 23 false true (T 7) (K 0)),
  oV 9 (rmv (T 8)),
  oG 10 9 false (rload true 2 (T 3)),
  oCG 11 9 false (.func 62) [(T 10)],
  oG 12 9 false (rbin env .neq 23 false true (T 11) (K 0)),
  oV 13 (rpick (T 9) (.const (.bool true)) (T 12))]
noncomputable abbrev c52_2 : RC := .ops [oV 4 (rmv (.const (.slice none 0 0))),
  oV 5 (rmv (K 2))]
noncomputable abbrev c52_3 : RC := .seq c52_2 .ret
noncomputable abbrev c52_4 : RC := .cond (rX 13) c52_3 .skip
noncomputable abbrev c52_5 : RC := .seq c52_1 c52_4
noncomputable abbrev c52_6 : RC := .ops [oV 14 (rmv (T 0)),
  oV 15 (rfaddr 0 (T 3)),
  oV 16 (rload false 1 (T 15)),
  oV 17 (rfaddr 1 (T 3)),
  oV 18 (rload false 1 (T 17)),
  oV 19 (rfaddr 1 (T 3)),
  oV 20 (rload false 1 (T 19)),
  oV 21 (rbuild [.v (.int .i64 0), .v (.int .i64 0), .v (.int .i64 0)] [(0, 1), (1, 1), (2, 1)] [(0, (T 16)), (1, (T 18)), (2, (T 20))]),
  oU 22 (rbuildL 3 1 [.v (.int .i64 0), .v (.int .i64 0), .v (.int .i64 0)] [(0, (T 21))]),
  oC 23 (.func 51) [(T 14), (T 22)],
  oV 24 (rext (T 23) 0),
  oV 25 (rext (T 23) 1),
  oV 4 (rmv (T 24)),
  oV 5 (rmv (T 25))]
noncomputable abbrev c52_7 : RC := .seq c52_6 .ret
noncomputable abbrev c52_8 : RC := .seq c52_5 c52_7
noncomputable abbrev c52_9 : RC := .seq c52_0 c52_8
theorem fn52 : env.fn 52 = some ⟨26, [.tmp 4, .tmp 5], body52⟩ := by kernel_rfl
theorem comp52 : comp env body52 = c52_9 := by kernel_rfl

/-! ### tributary/past.fold[int] -/
noncomputable def body53 : Code := match Tryd.f53.body with | some c => c | none => .skip
noncomputable abbrev c53_0 : RC := .ops [oV 4 (rmv (K 0))]
noncomputable abbrev c53_1 : RC := .ops [oV 5 (rmv (K 0))]
noncomputable abbrev c53_2 : RC := .ops [oV 8 (rmv (T 0)),
  oC 9 (.func 65) [(T 8)],
  oV 10 (rbin env .neq 23 false true (T 9) (K 0))]
noncomputable abbrev c53_3 : RC := .ops [oV 11 (rmv (T 5)),
  oV 4 (rmv (T 11))]
noncomputable abbrev c53_4 : RC := .seq c53_3 .ret
noncomputable abbrev c53_5 : RC := .cond (rX 10) c53_4 .skip
noncomputable abbrev c53_6 : RC := .seq c53_2 c53_5
noncomputable abbrev c53_7 : RC := .ops [oV 12 (rmv (T 0)),
  oV 13 (rlen (T 12)),
  oV 14 (rmv (K 0))]
noncomputable abbrev c53_8 : RC := .ops [oV 15 (rbin env .lss 3 false false (T 14) (T 13))]
noncomputable abbrev c53_9 : RC := .cond (rX 15) .skip (.exit 0)
noncomputable abbrev c53_10 : RC := .ops [oV 16 (riaddr 3 (T 12) (T 14)),
  oV 17 (rload true 3 (T 16)),
  oU 7 (rnew [.v (.int .i64 0), .v (.int .i64 0), .v (.int .i64 0)]),
  oS (rstore 3 (T 7) (T 17))]
noncomputable abbrev c53_11 : RC := .ops [oV 18 (rmv (T 1)),
  oV 19 (rmv (T 5)),
  oV 20 (rload true 3 (T 7)),
  oC 21 (T 18) [(T 19), (T 20)],
  oV 5 (rmv (T 21))]
noncomputable abbrev c53_12 : RC := .seq c53_10 c53_11
noncomputable abbrev c53_13 : RC := .block 1 c53_12
noncomputable abbrev c53_14 : RC := .ops [oV 22 (rbin env .add 3 false true (T 14) (K 1)),
  oV 14 (rmv (T 22))]
noncomputable abbrev c53_15 : RC := .seq c53_13 c53_14
noncomputable abbrev c53_16 : RC := .seq c53_9 c53_15
noncomputable abbrev c53_17 : RC := .seq c53_8 c53_16
noncomputable abbrev c53_18 : RC := .loop c53_17
noncomputable abbrev c53_19 : RC := .block 0 c53_18
noncomputable abbrev c53_20 : RC := .seq c53_7 c53_19
noncomputable abbrev c53_21 : RC := .ops [oV 23 (rmv (T 5)),
  oV 4 (rmv (T 23))]
noncomputable abbrev c53_22 : RC := .seq c53_21 .ret
noncomputable abbrev c53_23 : RC := .seq c53_20 c53_22
noncomputable abbrev c53_24 : RC := .seq c53_6 c53_23
noncomputable abbrev c53_25 : RC := .seq c53_1 c53_24
noncomputable abbrev c53_26 : RC := .seq c53_0 c53_25
theorem fn53 : env.fn 53 = some ⟨24, [.tmp 4], body53⟩ := by kernel_rfl
theorem comp53 : comp env body53 = c53_26 := by kernel_rfl

/-! ### tributary/past.Last$1 -/
noncomputable def body54 : Code := match Tryd.f54.body with | some c => c | none => .skip
noncomputable abbrev c54_0 : RC := .ops [oU 4 (rbox (T 1)),
  oV 5 (rmv (K 0))]
noncomputable abbrev c54_1 : RC := .ops [oV 6 (rfaddr 0 (T 4)),
  oV 7 (rload false 1 (T 6)),
  oV 8 (rload false 1 (T 2)),
  oV 9 (rbin env .neq 3 false false (T 7) (T 8))]
noncomputable abbrev c54_2 : RC := .ops [oV 10 (rmv (T 0)),
  oV 5 (rmv (T 10))]
noncomputable abbrev c54_3 : RC := .seq c54_2 .ret
noncomputable abbrev c54_4 : RC := .cond (rX 9) c54_3 .skip
noncomputable abbrev c54_5 : RC := .seq c54_1 c54_4
noncomputable abbrev c54_6 : RC := .ops [oV 11 (rmv (T 0)),
  oV 12 (rfaddr 2 (T 4)),
  oV 13 (rload false 1 (T 12)),
  oV 14 (rmm maxV [(T 11), (T 13)]),
  oV 5 (rmv (T 14))]
noncomputable abbrev c54_7 : RC := .seq c54_6 .ret
noncomputable abbrev c54_8 : RC := .seq c54_5 c54_7
noncomputable abbrev c54_9 : RC := .seq c54_0 c54_8
theorem fn54 : env.fn 54 = some ⟨15, [.tmp 5], body54⟩ := by kernel_rfl
theorem comp54 : comp env body54 = c54_9 := by kernel_rfl

/-! ### tributary/tributarykit.CopyEvent -/
noncomputable def body55 : Code := match Tryd.f55.body with | some c => c | none => .skip
noncomputable abbrev c55_0 : RC := .ops [oU 1 (rbox (T 0)),
  oU 2 (rnew [.v (.int .i64 0), .v (.int .i64 0), .v (.string ⟨#[]⟩), .v (.int .i64 0), .v (.int .i64 0), .lst .full 0 0 [], .lst .full 0 0 []])]
noncomputable abbrev c55_1 : RC := .ops [oV 3 (rfaddr 3 (T 1)),
  oV 4 (rload true 3 (T 3)),
  oC 5 (.func 78) [(T 4)],
  oV 6 (rfaddr 3 (T 1)),
  oS (rstore 3 (T 6) (T 5))]
noncomputable abbrev c55_2 : RC := .ops [oV 7 (rfaddr 6 (T 1)),
  oV 8 (rload false 1 (T 7)),
  oC 9 (.func 79) [(T 8)],
  oV 10 (rfaddr 6 (T 1)),
  oS (rstore 1 (T 10) (T 9))]
noncomputable abbrev c55_3 : RC := .ops [oV 11 (rload true 7 (T 1)),
  oS (rstore 7 (T 2) (T 11))]
noncomputable abbrev c55_4 : RC := .seq c55_3 .ret
noncomputable abbrev c55_5 : RC := .seq c55_2 c55_4
noncomputable abbrev c55_6 : RC := .seq c55_1 c55_5
noncomputable abbrev c55_7 : RC := .seq c55_0 c55_6
theorem fn55 : env.fn 55 = some ⟨12, [.cell 2 34], body55⟩ := by kernel_rfl
theorem comp55 : comp env body55 = c55_7 := by kernel_rfl

/-! ### slices.Clone[[]byte,byte] -/
noncomputable def body56 : Code := match Tryd.f56.body with | some c => c | none => .skip
noncomputable abbrev c56_0 : RC := .ops [oV 2 (rmv (.const (.slice none 0 0)))]
noncomputable abbrev c56_1 : RC := .ops [oV 3 (rmv (T 0)),
  oL 4 false (T 3)]
noncomputable abbrev c56_2 : RC := .ops [oV 2 (rmv (.const (.slice none 0 0)))]
noncomputable abbrev c56_3 : RC := .seq c56_2 .ret
noncomputable abbrev c56_4 : RC := .cond (rX 4) c56_3 .skip
noncomputable abbrev c56_5 : RC := .seq c56_1 c56_4
noncomputable abbrev c56_6 : RC := .ops [oU 5 (rbuildL 1 0 [] []),
  oV 6 (rmv (T 0)),
  oU 7 (rappend 1 1 1 (T 5) (T 6)),
  oV 2 (rmv (T 7))]
noncomputable abbrev c56_7 : RC := .seq c56_6 .ret
noncomputable abbrev c56_8 : RC := .seq c56_5 c56_7
noncomputable abbrev c56_9 : RC := .seq c56_0 c56_8
theorem fn56 : env.fn 56 = some ⟨8, [.tmp 2], body56⟩ := by kernel_rfl
theorem comp56 : comp env body56 = c56_9 := by kernel_rfl

/-! ### slices.Clone[[]tributary/api.Span,tributary/api.Span] -/
noncomputable def body57 : Code := match Tryd.f57.body with | some c => c | none => .skip
noncomputable abbrev c57_0 : RC := .ops [oV 2 (rmv (.const (.slice none 0 0)))]
noncomputable abbrev c57_1 : RC := .ops [oV 3 (rmv (T 0)),
  oL 4 false (T 3)]
noncomputable abbrev c57_2 : RC := .ops [oV 2 (rmv (.const (.slice none 0 0)))]
noncomputable abbrev c57_3 : RC := .seq c57_2 .ret
noncomputable abbrev c57_4 : RC := .cond (rX 4) c57_3 .skip
noncomputable abbrev c57_5 : RC := .seq c57_1 c57_4
noncomputable abbrev c57_6 : RC := .ops [oU 5 (rbuildL 3 0 [] []),
  oV 6 (rmv (T 0)),
  oU 7 (rappend 3 24 3 (T 5) (T 6)),
  oV 2 (rmv (T 7))]
noncomputable abbrev c57_7 : RC := .seq c57_6 .ret
noncomputable abbrev c57_8 : RC := .seq c57_5 c57_7
noncomputable abbrev c57_9 : RC := .seq c57_0 c57_8
theorem fn57 : env.fn 57 = some ⟨8, [.tmp 2], body57⟩ := by kernel_rfl
theorem comp57 : comp env body57 = c57_9 := by kernel_rfl

/-! ### (*sync/atomic.Int64).CompareAndSwap -/
noncomputable def body59 : Code := match Tryd.f59.body with | some c => c | none => .skip
noncomputable abbrev c59_0 : RC := .ops [oV 6 (rmv (.const (.bool false)))]
noncomputable abbrev c59_1 : RC := .ops [oV 7 (rmv (T 0)),
  oV 8 (rnil (T 7)),
  oV 9 (rfaddr 0 (T 8)),
  oV 10 (rmv (T 1)),
  oV 11 (rmv (T 2)),
  oC 12 (.func 80) [(T 9), (T 10), (T 11)],
  oV 6 (rmv (T 12))]
noncomputable abbrev c59_2 : RC := .seq c59_1 .ret
noncomputable abbrev c59_3 : RC := .seq c59_0 c59_2
theorem fn59 : env.fn 59 = some ⟨13, [.tmp 6], body59⟩ := by kernel_rfl
theorem comp59 : comp env body59 = c59_3 := by kernel_rfl

/-! ### (*tributary/spool.Spool).links$1 -/
noncomputable def body61 : Code := match Tryd.f61.body with | some c => c | none => .skip
noncomputable abbrev c61_0 : RC := .ops [oV 4 (rload false 1 (T 1)),
  oV 5 (rnil (T 4)),
  oV 6 (rfaddr 3 (T 5)),
  oV 3 (rmv (T 6))]
noncomputable abbrev c61_1 : RC := .ops [oV 7 (rmv (T 0)),
  oV 8 (rmv (T 3)),
  oC 9 (T 7) [(T 8)],
  oV 10 (rmv (T 9)),
  oG 11 10 true (rmv (T 3)),
  oG 12 10 true (rnil (T 11)),
  oG 13 10 true (rload false 1 (T 12)),
  oG 14 10 true (rbin env .neq 53 false true (T 13) (.const (.pointer none))),
  oV 15 (rpick (T 10) (T 14) (.const (.bool false)))]
noncomputable abbrev c61_2 : RC := .cond (rX 15) .skip (.exit 0)
noncomputable abbrev c61_3 : RC := .seq c61_1 c61_2
noncomputable abbrev c61_4 : RC := .ops [oV 16 (rmv (T 3)),
  oV 17 (rnil (T 16)),
  oV 18 (rload false 1 (T 17)),
  oV 19 (rnil (T 18)),
  oV 20 (rfaddr 8 (T 19)),
  oV 3 (rmv (T 20))]
noncomputable abbrev c61_5 : RC := .block 1 c61_4
noncomputable abbrev c61_6 : RC := .seq c61_3 c61_5
noncomputable abbrev c61_7 : RC := .loop c61_6
noncomputable abbrev c61_8 : RC := .block 0 c61_7
noncomputable abbrev c61_9 : RC := .seq c61_0 c61_8
theorem fn61 : env.fn 61 = some ⟨21, [], body61⟩ := by kernel_rfl
theorem comp61 : comp env body61 = c61_9 := by kernel_rfl

/-! ### tributary/dot.Check -/
noncomputable def body62 : Code := match Tryd.f62.body with | some c => c | none => .skip
noncomputable abbrev c62_0 : RC := .ops [oU 1 (rbox (T 0)),
  oV 2 (rmv (K 0))]
noncomputable abbrev c62_1 : RC := .ops [oV 3 (rfaddr 0 (T 1)),
  oV 4 (rload false 1 (T 3)),
  oV 5 (rbin env .lss 3 false true (T 4) (K 1)),
  oV 6 (rmv (T 5)),
  oG 7 6 false (rfaddr 0 (T 1)),
  oG 8 6 false (rload false 1 (T 7)),
  oG 9 6 false (rbin env .gtr 3 false true (T 8) (K 200)),
  oV 10 (rpick (T 6) (.const (.bool true)) (T 9)),
  oV 11 (rmv (T 10)),
  oG 12 11 false (rfaddr 1 (T 1)),
  oG 13 11 false (rload false 1 (T 12)),
  oG 14 11 false (rbin env .lss 3 false true (T 13) (K 1)),
  oV 15 (rpick (T 11) (.const (.bool true)) (T 14)),
  oV 16 (rmv (T 15)),
  oG 17 16 false (rfaddr 1 (T 1)),
  oG 18 16 false (rload false 1 (T 17)),
  oG 19 16 false (rbin env .gtr 3 false true (T 18) (K 2147483647)),
  oV 20 (rpick (T 16) (.const (.bool true)) (T 19))]
noncomputable abbrev c62_2 : RC := .ops [oV 2 (rmv (K 2))]
noncomputable abbrev c62_3 : RC := .seq c62_2 .ret
noncomputable abbrev c62_4 : RC := .cond (rX 20) c62_3 .skip
noncomputable abbrev c62_5 : RC := .seq c62_1 c62_4
noncomputable abbrev c62_6 : RC := .ops [oV 2 (rmv (K 0))]
noncomputable abbrev c62_7 : RC := .seq c62_6 .ret
noncomputable abbrev c62_8 : RC := .seq c62_5 c62_7
noncomputable abbrev c62_9 : RC := .seq c62_0 c62_8
theorem fn62 : env.fn 62 = some ⟨21, [.tmp 2], body62⟩ := by kernel_rfl
theorem comp62 : comp env body62 = c62_9 := by kernel_rfl

/-! ### tributary/path.Check -/
noncomputable def body63 : Code := match Tryd.f63.body with | some c => c | none => .skip
noncomputable abbrev c63_0 : RC := .ops [oV 2 (rmv (K 0))]
noncomputable abbrev c63_1 : RC := .ops [oU 3 (rnew [.v (.int .i64 0)]),
  oU 4 (rnew [.v (.int .i64 0)]),
  oS (rstore 1 (T 3) (K 0)),
  oS (rstore 1 (T 4) (K 0))]
noncomputable abbrev c63_2 : RC := .ops [oV 6 (rmv (T 0)),
  oC 7 (.func 81) [(T 6), (.const (.string ⟨#[47]⟩))]]
noncomputable abbrev c63_3 : RC := .ops [oV 5 (rmv (T 8))]
noncomputable abbrev c63_4 : RC := .ops [oV 9 (rload false 1 (T 3)),
  oV 10 (rbin env .add 3 false true (T 9) (K 1)),
  oS (rstore 1 (T 3) (T 10))]
noncomputable abbrev c63_5 : RC := .ops [oV 12 (rload false 1 (T 3)),
  oV 13 (rbin env .gtr 3 false true (T 12) (K 6)),
  oV 11 (rmv (T 13))]
noncomputable abbrev c63_6 : RC := .ops [oV 14 (rmv (T 5)),
  oC 15 (.func 82) [(T 14)],
  oV 16 (run' .not (T 15)),
  oV 11 (rmv (T 16))]
noncomputable abbrev c63_7 : RC := .cond (rX 11) .skip c63_6
noncomputable abbrev c63_8 : RC := .seq c63_5 c63_7
noncomputable abbrev c63_9 : RC := .ops [oS (rstore 1 (T 4) (K 2))]
noncomputable abbrev c63_10 : RC := .seq c63_9 (.exit 0)
noncomputable abbrev c63_11 : RC := .cond (rX 11) c63_10 .skip
noncomputable abbrev c63_12 : RC := .seq c63_8 c63_11
noncomputable abbrev c63_13 : RC := .block 2 c63_12
noncomputable abbrev c63_14 : RC := .seq c63_4 c63_13
noncomputable abbrev c63_15 : RC := .block 1 c63_14
noncomputable abbrev c63_16 : RC := .range (fun s => pev s.tm (T 7)) [8] (subc [1, 0, 1, 1, 0, 1, 0, 0] body63) (subc [1, 0, 1, 1, 0, 1, 0, 1] body63)
noncomputable abbrev c63_17 : RC := .block 0 c63_16
noncomputable abbrev c63_18 : RC := .seq c63_2 c63_17
noncomputable abbrev c63_19 : RC := .ops [oV 17 (rload false 1 (T 4)),
  oV 2 (rmv (T 17))]
noncomputable abbrev c63_20 : RC := .seq c63_19 .ret
noncomputable abbrev c63_21 : RC := .seq c63_18 c63_20
noncomputable abbrev c63_22 : RC := .seq .skip c63_21
noncomputable abbrev c63_23 : RC := .seq c63_1 c63_22
noncomputable abbrev c63_24 : RC := .scope (subc [1, 0] body63)
noncomputable abbrev c63_25 : RC := .seq c63_0 c63_24
theorem fn63 : env.fn 63 = some ⟨18, [.tmp 2], body63⟩ := by kernel_rfl
theorem comp63 : comp env body63 = c63_25 := by kernel_rfl
theorem piece63_1 : comp env (subc [1, 0, 1, 1, 0, 1, 0, 0] body63) = c63_3 := by kernel_rfl
theorem piece63_2 : comp env (subc [1, 0, 1, 1, 0, 1, 0, 1] body63) = c63_15 := by kernel_rfl
theorem piece63_3 : comp env (subc [1, 0] body63) = c63_23 := by kernel_rfl

/-! ### tributary/effect.Check -/
noncomputable def body64 : Code := match Tryd.f64.body with | some c => c | none => .skip
noncomputable abbrev c64_0 : RC := .ops [oU 1 (rbox (T 0)),
  oV 2 (rmv (K 0))]
noncomputable abbrev c64_1 : RC := .ops [oV 4 (rfaddr 0 (T 1)),
  oV 5 (rload false 1 (T 4)),
  oV 6 (rbin env .lss 3 false true (T 5) (K 1)),
  oV 7 (rmv (T 6)),
  oG 8 7 false (rfaddr 0 (T 1)),
  oG 9 7 false (rload false 1 (T 8)),
  oG 10 7 false (rbin env .gtr 3 false true (T 9) (K 3)),
  oV 11 (rpick (T 7) (.const (.bool true)) (T 10))]
noncomputable abbrev c64_2 : RC := .ops [oV 2 (rmv (K 2))]
noncomputable abbrev c64_3 : RC := .seq c64_2 .ret
noncomputable abbrev c64_4 : RC := .cond (rX 11) c64_3 .skip
noncomputable abbrev c64_5 : RC := .seq c64_1 c64_4
noncomputable abbrev c64_6 : RC := .drawn true [dV 13 (rfaddr 0 (T 1)),
  dV 14 (rload false 1 (T 13)),
  dU 3 (rnew [.v (.int .i64 0), .v (.int .i64 0)]),
  dC false 12 (.func 83) [],
  dV 15 (ridxA 4 true 2 (T 12) (T 14)),
  dS (rstore 2 (T 3) (T 15))]
noncomputable abbrev c64_7 : RC := .ops [oV 16 (rfaddr 1 (T 1)),
  oV 17 (rload false 1 (T 16)),
  oV 18 (rbin env .lss 3 false true (T 17) (K 0)),
  oV 19 (rmv (T 18)),
  oG 20 19 false (rfaddr 1 (T 1)),
  oG 21 19 false (rload false 1 (T 20)),
  oG 22 19 false (rfaddr 0 (T 3)),
  oG 23 19 false (rload false 1 (T 22)),
  oG 24 19 false (rbin env .gtr 3 false false (T 21) (T 23)),
  oV 25 (rpick (T 19) (.const (.bool true)) (T 24)),
  oV 26 (rmv (T 25)),
  oG 27 26 false (rfaddr 2 (T 1)),
  oG 28 26 false (rload false 1 (T 27)),
  oG 29 26 false (rlen (T 28)),
  oG 30 26 false (rfaddr 1 (T 3)),
  oG 31 26 false (rload false 1 (T 30)),
  oG 32 26 false (rbin env .gtr 3 false false (T 29) (T 31)),
  oV 33 (rpick (T 26) (.const (.bool true)) (T 32))]
noncomputable abbrev c64_8 : RC := .ops [oV 2 (rmv (K 2))]
noncomputable abbrev c64_9 : RC := .seq c64_8 .ret
noncomputable abbrev c64_10 : RC := .cond (rX 33) c64_9 .skip
noncomputable abbrev c64_11 : RC := .seq c64_7 c64_10
noncomputable abbrev c64_12 : RC := .seq c64_6 c64_11
noncomputable abbrev c64_13 : RC := .ops [oV 2 (rmv (K 0))]
noncomputable abbrev c64_14 : RC := .seq c64_13 .ret
noncomputable abbrev c64_15 : RC := .seq c64_12 c64_14
noncomputable abbrev c64_16 : RC := .seq c64_5 c64_15
noncomputable abbrev c64_17 : RC := .seq c64_0 c64_16
theorem fn64 : env.fn 64 = some ⟨34, [.tmp 2], body64⟩ := by kernel_rfl
theorem comp64 : comp env body64 = c64_17 := by kernel_rfl

/-! ### tributary/past.Check -/
noncomputable def body65 : Code := match Tryd.f65.body with | some c => c | none => .skip
noncomputable abbrev c65_0 : RC := .ops [oV 2 (rmv (K 0))]
noncomputable abbrev c65_1 : RC := .ops [oV 5 (rmv (T 0)),
  oV 6 (rlen (T 5)),
  oV 7 (rbin env .gtr 3 false true (T 6) (K 4000))]
noncomputable abbrev c65_2 : RC := .ops [oV 2 (rmv (K 2))]
noncomputable abbrev c65_3 : RC := .seq c65_2 .ret
noncomputable abbrev c65_4 : RC := .cond (rX 7) c65_3 .skip
noncomputable abbrev c65_5 : RC := .seq c65_1 c65_4
noncomputable abbrev c65_6 : RC := .ops [oV 8 (rmv (T 0)),
  oV 9 (rlen (T 8)),
  oV 10 (rmv (K 0))]
noncomputable abbrev c65_7 : RC := .ops [oV 11 (rbin env .lss 3 false false (T 10) (T 9))]
noncomputable abbrev c65_8 : RC := .cond (rX 11) .skip (.exit 0)
noncomputable abbrev c65_9 : RC := .ops [oV 12 (rmv (T 10)),
  oV 13 (riaddr 3 (T 8) (T 10)),
  oV 14 (rload true 3 (T 13)),
  oU 4 (rnew [.v (.int .i64 0), .v (.int .i64 0), .v (.int .i64 0)]),
  oV 3 (rmv (T 12)),
  oS (rstore 3 (T 4) (T 14))]
noncomputable abbrev c65_10 : RC := .ops [oV 16 (rfaddr 0 (T 4)),
  oV 17 (rload false 1 (T 16)),
  oV 18 (rbin env .lss 3 false true (T 17) (K 1)),
  oV 19 (rmv (T 18)),
  oG 20 19 false (rfaddr 0 (T 4)),
  oG 21 19 false (rload false 1 (T 20)),
  oG 22 19 false (rbin env .gtr 3 false true (T 21) (K 200)),
  oV 23 (rpick (T 19) (.const (.bool true)) (T 22)),
  oV 24 (rmv (T 23)),
  oG 25 24 false (rfaddr 1 (T 4)),
  oG 26 24 false (rload false 1 (T 25)),
  oG 27 24 false (rbin env .lss 3 false true (T 26) (K 1)),
  oV 28 (rpick (T 24) (.const (.bool true)) (T 27)),
  oV 29 (rmv (T 28)),
  oG 30 29 false (rfaddr 1 (T 4)),
  oG 31 29 false (rload false 1 (T 30)),
  oG 32 29 false (rfaddr 2 (T 4)),
  oG 33 29 false (rload false 1 (T 32)),
  oG 34 29 false (rbin env .gtr 3 false false (T 31) (T 33)),
  oV 35 (rpick (T 29) (.const (.bool true)) (T 34)),
  oV 36 (rmv (T 35)),
  oG 37 36 false (rfaddr 2 (T 4)),
  oG 38 36 false (rload false 1 (T 37)),
  oG 39 36 false (rbin env .gtr 3 false true (T 38) (K 2147483647)),
  oV 40 (rpick (T 36) (.const (.bool true)) (T 39)),
  oV 15 (rmv (T 40))]
noncomputable abbrev c65_11 : RC := .ops [oV 2 (rmv (K 2))]
noncomputable abbrev c65_12 : RC := .seq c65_11 .ret
noncomputable abbrev c65_13 : RC := .drawn true [dV 42 (rmv (T 3)),
  dV 43 (rbin env .gtr 3 false true (T 42) (K 0)),
  dV 44 (rmv (T 43)),
  dG 45 44 true (rfaddr 0 (T 4)),
  dG 46 44 true (rload false 1 (T 45)),
  dG 47 44 true (rmv (T 0)),
  dG 48 44 true (rmv (T 3)),
  dG 49 44 true (rbin env .sub 3 false true (T 48) (K 1)),
  dG 50 44 true (riaddr 3 (T 47) (T 49)),
  dG 51 44 true (rfaddr 0 (T 50)),
  dG 52 44 true (rload false 1 (T 51)),
  dG 53 44 true (rbin env .lss 3 false false (T 46) (T 52)),
  dG 54 44 true (rmv (T 53)),
  dG 55 54 false (rfaddr 0 (T 4)),
  dG 56 54 false (rload false 1 (T 55)),
  dG 57 54 false (rmv (T 0)),
  dG 58 54 false (rmv (T 3)),
  dG 59 54 false (rbin env .sub 3 false true (T 58) (K 1)),
  dG 60 54 false (riaddr 3 (T 57) (T 59)),
  dG 61 54 false (rfaddr 0 (T 60)),
  dG 62 54 false (rload false 1 (T 61)),
  dG 63 54 false (rbin env .eql 3 false false (T 56) (T 62)),
  dG 64 54 false (rmv (T 63)),
  dG 65 64 true (rfaddr 1 (T 4)),
  dG 66 64 true (rload false 1 (T 65)),
  dG 67 64 true (rmv (T 0)),
  dG 68 64 true (rmv (T 3)),
  dG 69 64 true (rbin env .sub 3 false true (T 68) (K 1)),
  dG 70 64 true (riaddr 3 (T 67) (T 69)),
  dG 71 64 true (rfaddr 2 (T 70)),
  dG 72 64 true (rload false 1 (T 71)),
  dG 73 64 true (rbin env .add 3 false true (T 72) (K 1)),
  dG 74 64 true (rbin env .leq 3 false false (T 66) (T 73)),
  dG 75 54 false (rpick (T 64) (T 74) (.const (.bool false))),
  dG 76 44 true (rpick (T 54) (.const (.bool true)) (T 75)),
  dV 77 (rpick (T 44) (T 76) (.const (.bool false))),
  dV 41 (rmv (T 77))]
noncomputable abbrev c65_14 : RC := .ops [oV 2 (rmv (K 2))]
noncomputable abbrev c65_15 : RC := .seq c65_14 .ret
noncomputable abbrev c65_16 : RC := .cond (rX 41) c65_15 .skip
noncomputable abbrev c65_17 : RC := .seq c65_13 c65_16
noncomputable abbrev c65_18 : RC := .cond (rX 15) c65_12 c65_17
noncomputable abbrev c65_19 : RC := .seq c65_10 c65_18
noncomputable abbrev c65_20 : RC := .block 2 c65_19
noncomputable abbrev c65_21 : RC := .seq c65_9 c65_20
noncomputable abbrev c65_22 : RC := .block 1 c65_21
noncomputable abbrev c65_23 : RC := .ops [oV 78 (rbin env .add 3 false true (T 10) (K 1)),
  oV 10 (rmv (T 78))]
noncomputable abbrev c65_24 : RC := .seq c65_22 c65_23
noncomputable abbrev c65_25 : RC := .seq c65_8 c65_24
noncomputable abbrev c65_26 : RC := .seq c65_7 c65_25
noncomputable abbrev c65_27 : RC := .loop c65_26
noncomputable abbrev c65_28 : RC := .block 0 c65_27
noncomputable abbrev c65_29 : RC := .seq c65_6 c65_28
noncomputable abbrev c65_30 : RC := .ops [oV 2 (rmv (K 0))]
noncomputable abbrev c65_31 : RC := .seq c65_30 .ret
noncomputable abbrev c65_32 : RC := .seq c65_29 c65_31
noncomputable abbrev c65_33 : RC := .seq c65_5 c65_32
noncomputable abbrev c65_34 : RC := .seq c65_0 c65_33
theorem fn65 : env.fn 65 = some ⟨79, [.tmp 2], body65⟩ := by kernel_rfl
theorem comp65 : comp env body65 = c65_34 := by kernel_rfl

/-! ### tributary/effect.Bytes -/
noncomputable def body66 : Code := match Tryd.f66.body with | some c => c | none => .skip
noncomputable abbrev c66_0 : RC := .ops [oU 1 (rbox (T 0)),
  oV 2 (rmv (.const (.slice none 0 0))),
  oV 3 (rmv (K 0))]
noncomputable abbrev c66_1 : RC := .ops [oV 6 (rload true 3 (T 1)),
  oC 7 (.func 64) [(T 6)],
  oV 4 (rmv (T 7))]
noncomputable abbrev c66_2 : RC := .ops [oV 8 (rmv (T 4)),
  oV 9 (rbin env .neq 23 false true (T 8) (K 0))]
noncomputable abbrev c66_3 : RC := .ops [oV 10 (rmv (T 4)),
  oV 2 (rmv (.const (.slice none 0 0))),
  oV 3 (rmv (T 10))]
noncomputable abbrev c66_4 : RC := .seq c66_3 .ret
noncomputable abbrev c66_5 : RC := .cond (rX 9) c66_4 .skip
noncomputable abbrev c66_6 : RC := .seq c66_2 c66_5
noncomputable abbrev c66_7 : RC := .seq c66_1 c66_6
noncomputable abbrev c66_8 : RC := .ops [oC 11 (.func 68) [],
  oV 5 (rmv (T 11))]
noncomputable abbrev c66_9 : RC := .ops [oV 12 (rmv (T 5)),
  oV 13 (rfaddr 0 (T 1)),
  oV 14 (rload false 1 (T 13)),
  oC 15 (.func 69) [(T 12), (T 14)]]
noncomputable abbrev c66_10 : RC := .ops [oV 16 (rmv (T 5)),
  oV 17 (rfaddr 1 (T 1)),
  oV 18 (rload false 1 (T 17)),
  oC 19 (.func 69) [(T 16), (T 18)]]
noncomputable abbrev c66_11 : RC := .ops [oV 20 (rmv (T 5)),
  oV 21 (rfaddr 2 (T 1)),
  oV 22 (rload false 1 (T 21)),
  oC 23 (.func 71) [(T 20), (T 22)]]
noncomputable abbrev c66_12 : RC := .ops [oV 24 (rmv (T 5)),
  oC 25 (.func 72) [(T 24)],
  oV 26 (rext (T 25) 0),
  oV 27 (rext (T 25) 1),
  oV 2 (rmv (T 26)),
  oV 3 (rmv (T 27))]
noncomputable abbrev c66_13 : RC := .seq c66_12 .ret
noncomputable abbrev c66_14 : RC := .seq c66_11 c66_13
noncomputable abbrev c66_15 : RC := .seq c66_10 c66_14
noncomputable abbrev c66_16 : RC := .seq c66_9 c66_15
noncomputable abbrev c66_17 : RC := .seq c66_8 c66_16
noncomputable abbrev c66_18 : RC := .seq c66_7 c66_17
noncomputable abbrev c66_19 : RC := .seq c66_0 c66_18
theorem fn66 : env.fn 66 = some ⟨28, [.tmp 2, .tmp 3], body66⟩ := by kernel_rfl
theorem comp66 : comp env body66 = c66_19 := by kernel_rfl

/-! ### tributary/past.Bytes -/
noncomputable def body67 : Code := match Tryd.f67.body with | some c => c | none => .skip
noncomputable abbrev c67_0 : RC := .ops [oV 2 (rmv (.const (.slice none 0 0))),
  oV 3 (rmv (K 0))]
noncomputable abbrev c67_1 : RC := .ops [oV 8 (rmv (T 0)),
  oC 9 (.func 65) [(T 8)],
  oV 4 (rmv (T 9))]
noncomputable abbrev c67_2 : RC := .ops [oV 10 (rmv (T 4)),
  oV 11 (rbin env .neq 23 false true (T 10) (K 0))]
noncomputable abbrev c67_3 : RC := .ops [oV 12 (rmv (T 4)),
  oV 2 (rmv (.const (.slice none 0 0))),
  oV 3 (rmv (T 12))]
noncomputable abbrev c67_4 : RC := .seq c67_3 .ret
noncomputable abbrev c67_5 : RC := .cond (rX 11) c67_4 .skip
noncomputable abbrev c67_6 : RC := .seq c67_2 c67_5
noncomputable abbrev c67_7 : RC := .seq c67_1 c67_6
noncomputable abbrev c67_8 : RC := .ops [oV 13 (rmv (T 0)),
  oV 14 (rlen (T 13)),
  oC 15 (.func 84) [(T 14)],
  oV 16 (rsliceL 1 (T 15) (some (K 2)) none none),
  oV 5 (rmv (T 16))]
noncomputable abbrev c67_9 : RC := .ops [oV 17 (rmv (T 0)),
  oV 18 (rlen (T 17)),
  oV 19 (rmv (K 0))]
noncomputable abbrev c67_10 : RC := .ops [oV 20 (rbin env .lss 3 false false (T 19) (T 18))]
noncomputable abbrev c67_11 : RC := .cond (rX 20) .skip (.exit 0)
noncomputable abbrev c67_12 : RC := .ops [oV 21 (riaddr 3 (T 17) (T 19)),
  oV 22 (rload true 3 (T 21)),
  oU 7 (rnew [.v (.int .i64 0), .v (.int .i64 0), .v (.int .i64 0)]),
  oS (rstore 3 (T 7) (T 22))]
noncomputable abbrev c67_13 : RC := .drawn true [dV 23 (rmv (T 5)),
  dV 24 (rfaddr 0 (T 7)),
  dV 25 (rload false 1 (T 24)),
  dU 26 (rconvI .u8 (T 25)),
  dU 27 (rbuildL 1 1 [.v (.int .u8 0)] [(0, (T 26))]),
  dV 28 (rfaddr 1 (T 7)),
  dV 29 (rload false 1 (T 28)),
  dV 31 (rfaddr 2 (T 7)),
  dV 32 (rload false 1 (T 31)),
  dC false 30 (.func 84) [(T 29)],
  dC false 33 (.func 84) [(T 32)],
  dU 34 (rbuildL 1 4 [.lst .full 0 0 [], .lst .full 0 0 [], .lst .full 0 0 [], .lst .full 0 0 []] [(0, (T 23)), (1, (T 27)), (2, (T 30)), (3, (T 33))]),
  dC true 35 (.func 85) [(T 34)],
  dV 5 (rmv (T 35))]
noncomputable abbrev c67_14 : RC := .seq c67_12 c67_13
noncomputable abbrev c67_15 : RC := .block 1 c67_14
noncomputable abbrev c67_16 : RC := .ops [oV 36 (rbin env .add 3 false true (T 19) (K 1)),
  oV 19 (rmv (T 36))]
noncomputable abbrev c67_17 : RC := .seq c67_15 c67_16
noncomputable abbrev c67_18 : RC := .seq c67_11 c67_17
noncomputable abbrev c67_19 : RC := .seq c67_10 c67_18
noncomputable abbrev c67_20 : RC := .loop c67_19
noncomputable abbrev c67_21 : RC := .block 0 c67_20
noncomputable abbrev c67_22 : RC := .seq c67_9 c67_21
noncomputable abbrev c67_23 : RC := .ops [oV 37 (rmv (T 5)),
  oV 2 (rmv (T 37)),
  oV 3 (rmv (K 0))]
noncomputable abbrev c67_24 : RC := .seq c67_23 .ret
noncomputable abbrev c67_25 : RC := .seq c67_22 c67_24
noncomputable abbrev c67_26 : RC := .seq c67_8 c67_25
noncomputable abbrev c67_27 : RC := .seq c67_7 c67_26
noncomputable abbrev c67_28 : RC := .seq c67_0 c67_27
theorem fn67 : env.fn 67 = some ⟨38, [.tmp 2, .tmp 3], body67⟩ := by kernel_rfl
theorem comp67 : comp env body67 = c67_28 := by kernel_rfl

/-! ### tributary/wire.New -/
noncomputable def body68 : Code := match Tryd.f68.body with | some c => c | none => .skip
noncomputable abbrev c68_0 : RC := .ops [oV 0 (rmv (.const (.pointer none)))]
noncomputable abbrev c68_1 : RC := .ops [oV 1 (rbuild [.v (.bool false), .lst .full 0 0 [], .v (.int .i64 0)] [(0, 1), (1, 1), (2, 1)] [(0, (.const (.bool true)))]),
  oU 2 (rbox (T 1)),
  oV 0 (rmv (T 2))]
noncomputable abbrev c68_2 : RC := .seq c68_1 .ret
noncomputable abbrev c68_3 : RC := .seq c68_0 c68_2
theorem fn68 : env.fn 68 = some ⟨3, [.tmp 0], body68⟩ := by kernel_rfl
theorem comp68 : comp env body68 = c68_3 := by kernel_rfl

/-! ### (*tributary/wire.Writer).Num -/
noncomputable def body69 : Code := match Tryd.f69.body with | some c => c | none => .skip
noncomputable abbrev c69_0 : RC := .ops [oV 4 (rmv (T 0)),
  oV 5 (rbin env .eql 110 false true (T 4) (.const (.pointer none))),
  oV 6 (rmv (T 5)),
  oG 7 6 false (rmv (T 0)),
  oG 8 6 false (rnil (T 7)),
  oG 9 6 false (rfaddr 0 (T 8)),
  oG 10 6 false (rload false 1 (T 9)),
  oG 11 6 false (run' .not (T 10)),
  oV 12 (rpick (T 6) (.const (.bool true)) (T 11)),
  oV 13 (rmv (T 12)),
  oG 14 13 false (rmv (T 0)),
  oG 15 13 false (rnil (T 14)),
  oG 16 13 false (rfaddr 2 (T 15)),
  oG 17 13 false (rload false 1 (T 16)),
  oG 18 13 false (rbin env .neq 23 false true (T 17) (K 0)),
  oV 19 (rpick (T 13) (.const (.bool true)) (T 18))]
noncomputable abbrev c69_1 : RC := .cond (rX 19) .ret .skip
noncomputable abbrev c69_2 : RC := .seq c69_0 c69_1
noncomputable abbrev c69_3 : RC := .ops [oV 20 (rmv (T 1)),
  oV 21 (rbin env .lss 3 false true (T 20) (K 0)),
  oV 22 (rmv (T 21)),
  oG 23 22 false (rmv (T 1)),
  oG 24 22 false (rbin env .gtr 3 false true (T 23) (K 4611686018427387903)),
  oV 25 (rpick (T 22) (.const (.bool true)) (T 24))]
noncomputable abbrev c69_4 : RC := .ops [oV 26 (rmv (T 0)),
  oV 27 (rnil (T 26)),
  oV 28 (rfaddr 2 (T 27)),
  oS (rstore 1 (T 28) (K 5))]
noncomputable abbrev c69_5 : RC := .seq c69_4 .ret
noncomputable abbrev c69_6 : RC := .cond (rX 25) c69_5 .skip
noncomputable abbrev c69_7 : RC := .seq c69_3 c69_6
noncomputable abbrev c69_8 : RC := .ops [oV 29 (rmv (T 0)),
  oV 30 (rmv (T 1)),
  oC 31 (.func 87) [(T 30)],
  oU 32 (rbuildL 1 1 [.lst .full 0 0 []] [(0, (T 31))]),
  oC 33 (.func 86) [(T 29), (T 32)]]
noncomputable abbrev c69_9 : RC := .seq c69_7 c69_8
noncomputable abbrev c69_10 : RC := .seq c69_2 c69_9
theorem fn69 : env.fn 69 = some ⟨34, [], body69⟩ := by kernel_rfl
theorem comp69 : comp env body69 = c69_10 := by kernel_rfl

/-! ### (*tributary/wire.Writer).Text -/
noncomputable def body70 : Code := match Tryd.f70.body with | some c => c | none => .skip
noncomputable abbrev c70_0 : RC := .ops [oV 4 (rmv (T 0)),
  oV 5 (rmv (T 1)),
  oU 6 (rbytes (T 5)),
  oC 7 (.func 71) [(T 4), (T 6)]]
theorem fn70 : env.fn 70 = some ⟨8, [], body70⟩ := by kernel_rfl
theorem comp70 : comp env body70 = c70_0 := by kernel_rfl

/-! ### (*tributary/wire.Writer).Raw -/
noncomputable def body71 : Code := match Tryd.f71.body with | some c => c | none => .skip
noncomputable abbrev c71_0 : RC := .ops [oV 5 (rmv (T 0)),
  oV 6 (rfn 86 [(T 5)] []),
  oV 4 (rmv (T 6))]
noncomputable abbrev c71_1 : RC := .ops [oV 7 (rmv (T 4)),
  oV 8 (rmv (T 1)),
  oV 9 (rlen (T 8)),
  oC 10 (.func 87) [(T 9)],
  oV 11 (rmv (T 1)),
  oU 12 (rbuildL 1 2 [.lst .full 0 0 [], .lst .full 0 0 []] [(0, (T 10)), (1, (T 11))]),
  oC 13 (T 7) [(T 12)]]
noncomputable abbrev c71_2 : RC := .seq c71_0 c71_1
theorem fn71 : env.fn 71 = some ⟨14, [], body71⟩ := by kernel_rfl
theorem comp71 : comp env body71 = c71_2 := by kernel_rfl

/-! ### (*tributary/wire.Writer).Out -/
noncomputable def body72 : Code := match Tryd.f72.body with | some c => c | none => .skip
noncomputable abbrev c72_0 : RC := .ops [oV 2 (rmv (.const (.slice none 0 0))),
  oV 3 (rmv (K 0))]
noncomputable abbrev c72_1 : RC := .ops [oV 5 (rmv (T 0)),
  oV 6 (rbin env .eql 110 false true (T 5) (.const (.pointer none))),
  oV 7 (rmv (T 6)),
  oG 8 7 false (rmv (T 0)),
  oG 9 7 false (rnil (T 8)),
  oG 10 7 false (rfaddr 0 (T 9)),
  oG 11 7 false (rload false 1 (T 10)),
  oG 12 7 false (run' .not (T 11)),
  oV 13 (rpick (T 7) (.const (.bool true)) (T 12)),
  oV 4 (rmv (T 13))]
noncomputable abbrev c72_2 : RC := .ops [oV 2 (rmv (.const (.slice none 0 0))),
  oV 3 (rmv (K 1))]
noncomputable abbrev c72_3 : RC := .seq c72_2 .ret
noncomputable abbrev c72_4 : RC := .ops [oV 15 (rmv (T 0)),
  oV 16 (rnil (T 15)),
  oV 17 (rfaddr 2 (T 16)),
  oV 18 (rload false 1 (T 17)),
  oV 19 (rbin env .neq 23 false true (T 18) (K 0)),
  oV 14 (rmv (T 19))]
noncomputable abbrev c72_5 : RC := .drawn true [dV 20 (rmv (T 0)),
  dV 21 (rnil (T 20)),
  dV 22 (rfaddr 2 (T 21)),
  dV 23 (rload false 1 (T 22)),
  dV 2 (rmv (.const (.slice none 0 0))),
  dV 3 (rmv (T 23))]
noncomputable abbrev c72_6 : RC := .seq c72_5 .ret
noncomputable abbrev c72_7 : RC := .cond (rX 14) c72_6 .skip
noncomputable abbrev c72_8 : RC := .seq c72_4 c72_7
noncomputable abbrev c72_9 : RC := .cond (rX 4) c72_3 c72_8
noncomputable abbrev c72_10 : RC := .seq c72_1 c72_9
noncomputable abbrev c72_11 : RC := .block 0 c72_10
noncomputable abbrev c72_12 : RC := .ops [oV 24 (rmv (T 0)),
  oV 25 (rnil (T 24)),
  oV 26 (rfaddr 1 (T 25)),
  oV 27 (rload false 1 (T 26)),
  oC 28 (.func 88) [(T 27)],
  oV 2 (rmv (T 28)),
  oV 3 (rmv (K 0))]
noncomputable abbrev c72_13 : RC := .seq c72_12 .ret
noncomputable abbrev c72_14 : RC := .seq c72_11 c72_13
noncomputable abbrev c72_15 : RC := .seq c72_0 c72_14
theorem fn72 : env.fn 72 = some ⟨29, [.tmp 2, .tmp 3], body72⟩ := by kernel_rfl
theorem comp72 : comp env body72 = c72_15 := by kernel_rfl

/-! ### tributary/past.Minus -/
noncomputable def body73 : Code := match Tryd.f73.body with | some c => c | none => .skip
noncomputable abbrev c73_0 : RC := .ops [oV 4 (rmv (.const (.slice none 0 0))),
  oV 5 (rmv (K 0))]
noncomputable abbrev c73_1 : RC := .ops [oV 6 (rmv (T 0)),
  oV 7 (rmv (T 1)),
  oC 8 (.func 76) [(T 6), (T 7), (.func 89)],
  oV 9 (rext (T 8) 0),
  oV 10 (rext (T 8) 1),
  oV 4 (rmv (T 9)),
  oV 5 (rmv (T 10))]
noncomputable abbrev c73_2 : RC := .seq c73_1 .ret
noncomputable abbrev c73_3 : RC := .seq c73_0 c73_2
theorem fn73 : env.fn 73 = some ⟨11, [.tmp 4, .tmp 5], body73⟩ := by kernel_rfl
theorem comp73 : comp env body73 = c73_3 := by kernel_rfl

/-! ### slices.ContainsFunc[[]tributary/api.Span,tributary/api.Span] -/
noncomputable def body74 : Code := match Tryd.f74.body with | some c => c | none => .skip
noncomputable abbrev c74_0 : RC := .ops [oV 4 (rmv (.const (.bool false)))]
noncomputable abbrev c74_1 : RC := .ops [oV 5 (rmv (T 0)),
  oV 6 (rmv (T 1)),
  oC 7 (.func 90) [(T 5), (T 6)],
  oV 8 (rbin env .geq 3 false true (T 7) (K 0)),
  oV 4 (rmv (T 8))]
noncomputable abbrev c74_2 : RC := .seq c74_1 .ret
noncomputable abbrev c74_3 : RC := .seq c74_0 c74_2
theorem fn74 : env.fn 74 = some ⟨9, [.tmp 4], body74⟩ := by kernel_rfl
theorem comp74 : comp env body74 = c74_3 := by kernel_rfl

/-! ### tributary/past.Has$1 -/
noncomputable def body75 : Code := match Tryd.f75.body with | some c => c | none => .skip
noncomputable abbrev c75_0 : RC := .ops [oU 2 (rbox (T 0)),
  oV 3 (rmv (.const (.bool false)))]
noncomputable abbrev c75_1 : RC := .ops [oV 4 (rfaddr 0 (T 2)),
  oV 5 (rload false 1 (T 4)),
  oV 6 (rfaddr 0 (T 1)),
  oV 7 (rload false 1 (T 6)),
  oV 8 (rbin env .eql 3 false false (T 5) (T 7)),
  oV 9 (rmv (T 8)),
  oG 10 9 true (rfaddr 1 (T 2)),
  oG 11 9 true (rload false 1 (T 10)),
  oG 12 9 true (rfaddr 1 (T 1)),
  oG 13 9 true (rload false 1 (T 12)),
  oG 14 9 true (rbin env .leq 3 false false (T 11) (T 13)),
  oV 15 (rpick (T 9) (T 14) (.const (.bool false))),
  oV 16 (rmv (T 15)),
  oG 17 16 true (rfaddr 1 (T 1)),
  oG 18 16 true (rload false 1 (T 17)),
  oG 19 16 true (rfaddr 2 (T 2)),
  oG 20 16 true (rload false 1 (T 19)),
  oG 21 16 true (rbin env .leq 3 false false (T 18) (T 20)),
  oV 22 (rpick (T 16) (T 21) (.const (.bool false))),
  oV 3 (rmv (T 22))]
noncomputable abbrev c75_2 : RC := .seq c75_1 .ret
noncomputable abbrev c75_3 : RC := .seq c75_0 c75_2
theorem fn75 : env.fn 75 = some ⟨23, [.tmp 3], body75⟩ := by kernel_rfl
theorem comp75 : comp env body75 = c75_3 := by kernel_rfl

/-! ### tributary/past.swept -/
noncomputable def body76 : Code := match Tryd.f76.body with | some c => c | none => .skip
noncomputable abbrev c76_0 : RC := .ops [oV 6 (rmv (.const (.slice none 0 0))),
  oV 7 (rmv (K 0))]
noncomputable abbrev c76_1 : RC := .ops [oV 9 (rmv (T 0)),
  oC 10 (.func 65) [(T 9)],
  oV 11 (rbin env .neq 23 false true (T 10) (K 0)),
  oV 12 (rmv (T 11)),
  oG 13 12 false (rmv (T 1)),
  oCG 14 12 false (.func 65) [(T 13)],
  oG 15 12 false (rbin env .neq 23 false true (T 14) (K 0)),
  oV 16 (rpick (T 12) (.const (.bool true)) (T 15))]
noncomputable abbrev c76_2 : RC := .ops [oV 6 (rmv (.const (.slice none 0 0))),
  oV 7 (rmv (K 2))]
noncomputable abbrev c76_3 : RC := .seq c76_2 .ret
noncomputable abbrev c76_4 : RC := .cond (rX 16) c76_3 .skip
noncomputable abbrev c76_5 : RC := .seq c76_1 c76_4
noncomputable abbrev c76_6 : RC := .ops [oV 17 (rmv (T 0)),
  oC 18 (.func 57) [(T 17)],
  oV 19 (rmv (T 1)),
  oC 20 (.func 57) [(T 19)],
  oV 21 (rmv (T 2)),
  oV 22 (rbuild [.lst .full 0 0 [], .lst .full 0 0 [], .v (.nilFunc), .lst .full 0 0 []] [(0, 1), (1, 1), (2, 1), (3, 1)] [(0, (T 18)), (1, (T 20)), (2, (T 21))]),
  oU 23 (rbox (T 22)),
  oV 8 (rmv (T 23))]
noncomputable abbrev c76_7 : RC := .drawn true [dV 24 (rmv (T 8)),
  dV 25 (rnil (T 24)),
  dV 26 (rfaddr 0 (T 25)),
  dV 27 (rload false 1 (T 26)),
  dV 28 (rlen (T 27)),
  dV 29 (rmv (T 8)),
  dV 30 (rnil (T 29)),
  dV 31 (rfaddr 1 (T 30)),
  dV 32 (rload false 1 (T 31)),
  dV 33 (rlen (T 32)),
  dV 34 (rbin env .add 3 false false (T 28) (T 33)),
  dV 35 (rbin env .gtr 3 false true (T 34) (K 0))]
noncomputable abbrev c76_8 : RC := .cond (rX 35) .skip (.exit 0)
noncomputable abbrev c76_9 : RC := .seq c76_7 c76_8
noncomputable abbrev c76_10 : RC := .ops [oV 36 (rmv (T 8)),
  oC 37 (.func 91) [(T 36)]]
noncomputable abbrev c76_11 : RC := .block 1 c76_10
noncomputable abbrev c76_12 : RC := .seq c76_9 c76_11
noncomputable abbrev c76_13 : RC := .loop c76_12
noncomputable abbrev c76_14 : RC := .block 0 c76_13
noncomputable abbrev c76_15 : RC := .ops [oV 38 (rmv (T 8)),
  oV 39 (rnil (T 38)),
  oV 40 (rfaddr 3 (T 39)),
  oV 41 (rload false 1 (T 40)),
  oV 42 (rlen (T 41)),
  oV 43 (rbin env .gtr 3 false true (T 42) (K 4000))]
noncomputable abbrev c76_16 : RC := .ops [oV 6 (rmv (.const (.slice none 0 0))),
  oV 7 (rmv (K 8))]
noncomputable abbrev c76_17 : RC := .seq c76_16 .ret
noncomputable abbrev c76_18 : RC := .cond (rX 43) c76_17 .skip
noncomputable abbrev c76_19 : RC := .seq c76_15 c76_18
noncomputable abbrev c76_20 : RC := .ops [oV 44 (rmv (T 8)),
  oV 45 (rnil (T 44)),
  oV 46 (rfaddr 3 (T 45)),
  oV 47 (rload false 1 (T 46)),
  oV 6 (rmv (T 47)),
  oV 7 (rmv (K 0))]
noncomputable abbrev c76_21 : RC := .seq c76_20 .ret
noncomputable abbrev c76_22 : RC := .seq c76_19 c76_21
noncomputable abbrev c76_23 : RC := .seq c76_14 c76_22
noncomputable abbrev c76_24 : RC := .seq c76_6 c76_23
noncomputable abbrev c76_25 : RC := .seq c76_5 c76_24
noncomputable abbrev c76_26 : RC := .seq c76_0 c76_25
theorem fn76 : env.fn 76 = some ⟨48, [.tmp 6, .tmp 7], body76⟩ := by kernel_rfl
theorem comp76 : comp env body76 = c76_26 := by kernel_rfl

/-! ### tributary/past.Join$1 -/
noncomputable def body77 : Code := match Tryd.f77.body with | some c => c | none => .skip
noncomputable abbrev c77_0 : RC := .ops [oV 4 (rmv (.const (.bool false)))]
noncomputable abbrev c77_1 : RC := .ops [oV 5 (rmv (T 0)),
  oV 6 (rmv (T 5)),
  oG 7 6 false (rmv (T 1)),
  oV 8 (rpick (T 6) (.const (.bool true)) (T 7)),
  oV 4 (rmv (T 8))]
noncomputable abbrev c77_2 : RC := .seq c77_1 .ret
noncomputable abbrev c77_3 : RC := .seq c77_0 c77_2
theorem fn77 : env.fn 77 = some ⟨9, [.tmp 4], body77⟩ := by kernel_rfl
theorem comp77 : comp env body77 = c77_3 := by kernel_rfl

/-! ### tributary/tributarykit.CopyEffect -/
noncomputable def body78 : Code := match Tryd.f78.body with | some c => c | none => .skip
noncomputable abbrev c78_0 : RC := .ops [oU 1 (rbox (T 0)),
  oU 2 (rnew [.v (.int .i64 0), .v (.int .i64 0), .lst .full 0 0 []])]
noncomputable abbrev c78_1 : RC := .ops [oV 3 (rfaddr 2 (T 1)),
  oV 4 (rload false 1 (T 3)),
  oC 5 (.func 92) [(T 4)],
  oV 6 (rfaddr 2 (T 1)),
  oS (rstore 1 (T 6) (T 5))]
noncomputable abbrev c78_2 : RC := .ops [oV 7 (rload true 3 (T 1)),
  oS (rstore 3 (T 2) (T 7))]
noncomputable abbrev c78_3 : RC := .seq c78_2 .ret
noncomputable abbrev c78_4 : RC := .seq c78_1 c78_3
noncomputable abbrev c78_5 : RC := .seq c78_0 c78_4
theorem fn78 : env.fn 78 = some ⟨8, [.cell 2 31], body78⟩ := by kernel_rfl
theorem comp78 : comp env body78 = c78_5 := by kernel_rfl

/-! ### tributary/tributarykit.CopySpans -/
noncomputable def body79 : Code := match Tryd.f79.body with | some c => c | none => .skip
noncomputable abbrev c79_0 : RC := .ops [oV 2 (rmv (.const (.slice none 0 0)))]
noncomputable abbrev c79_1 : RC := .ops [oU 3 (rbuildL 3 0 [] []),
  oV 4 (rmv (T 0)),
  oU 5 (rappend 3 24 3 (T 3) (T 4)),
  oV 2 (rmv (T 5))]
noncomputable abbrev c79_2 : RC := .seq c79_1 .ret
noncomputable abbrev c79_3 : RC := .seq c79_0 c79_2
theorem fn79 : env.fn 79 = some ⟨6, [.tmp 2], body79⟩ := by kernel_rfl
theorem comp79 : comp env body79 = c79_3 := by kernel_rfl

/-! ### strings.SplitSeq -/
noncomputable def body81 : Code := match Tryd.f81.body with | some c => c | none => .skip
noncomputable abbrev c81_0 : RC := .ops [oV 4 (rmv (.const (.nilFunc)))]
noncomputable abbrev c81_1 : RC := .ops [oV 5 (rmv (T 0)),
  oV 6 (rmv (T 1)),
  oC 7 (.func 93) [(T 5), (T 6), (K 0)],
  oV 4 (rmv (T 7))]
noncomputable abbrev c81_2 : RC := .seq c81_1 .ret
noncomputable abbrev c81_3 : RC := .seq c81_0 c81_2
theorem fn81 : env.fn 81 = some ⟨8, [.tmp 4], body81⟩ := by kernel_rfl
theorem comp81 : comp env body81 = c81_3 := by kernel_rfl

/-! ### tributary/path.part -/
noncomputable def body82 : Code := match Tryd.f82.body with | some c => c | none => .skip
noncomputable abbrev c82_0 : RC := .ops [oV 2 (rmv (.const (.bool false)))]
noncomputable abbrev c82_1 : RC := .ops [oV 3 (rmv (T 0)),
  oV 4 (rbin env .neq 9 false true (T 3) (.const (.string ⟨#[]⟩))),
  oV 5 (rmv (T 4)),
  oG 6 5 true (rmv (T 0)),
  oG 7 5 true (rlenS (T 6)),
  oG 8 5 true (rbin env .leq 3 false true (T 7) (K 12)),
  oV 9 (rpick (T 5) (T 8) (.const (.bool false))),
  oV 10 (rmv (T 9)),
  oG 11 10 true (rmv (T 0)),
  oG 12 10 true (rbin env .neq 9 false true (T 11) (.const (.string ⟨#[46]⟩))),
  oV 13 (rpick (T 10) (T 12) (.const (.bool false))),
  oV 14 (rmv (T 13)),
  oG 15 14 true (rmv (T 0)),
  oG 16 14 true (rbin env .neq 9 false true (T 15) (.const (.string ⟨#[46, 46]⟩))),
  oV 17 (rpick (T 14) (T 16) (.const (.bool false))),
  oV 18 (rmv (T 17)),
  oG 19 18 true (rmv (T 0)),
  oCG 20 18 true (.func 94) [(T 19), (.const (.string ⟨#[97, 98, 99, 100, 101, 102, 103, 104, 105, 106, 107, 108, 109, 110, 111, 112, 113, 114, 115, 116, 117, 118, 119, 120, 121, 122, 48, 49, 50, 51, 52, 53, 54, 55, 56, 57, 46, 95, 45]⟩))],
  oG 21 18 true (rbin env .eql 9 false true (T 20) (.const (.string ⟨#[]⟩))),
  oV 22 (rpick (T 18) (T 21) (.const (.bool false))),
  oV 23 (rmv (T 22)),
  oG 24 23 true (rmv (T 0)),
  oCG 25 23 true (.func 95) [(T 24), (.func 96)],
  oG 26 23 true (run' .not (T 25)),
  oV 27 (rpick (T 23) (T 26) (.const (.bool false))),
  oV 2 (rmv (T 27))]
noncomputable abbrev c82_2 : RC := .seq c82_1 .ret
noncomputable abbrev c82_3 : RC := .seq c82_0 c82_2
theorem fn82 : env.fn 82 = some ⟨28, [.tmp 2], body82⟩ := by kernel_rfl
theorem comp82 : comp env body82 = c82_3 := by kernel_rfl

/-! ### tributary/effect.rules -/
noncomputable def body83 : Code := match Tryd.f83.body with | some c => c | none => .skip
noncomputable abbrev c83_0 : RC := .ops [oU 0 (rnew [.v (.int .i64 0), .v (.int .i64 0), .v (.int .i64 0), .v (.int .i64 0), .v (.int .i64 0), .v (.int .i64 0), .v (.int .i64 0), .v (.int .i64 0)])]
noncomputable abbrev c83_1 : RC := .ops [oV 1 (rbuild [.v (.int .i64 0), .v (.int .i64 0)] [(0, 1), (1, 1)] [(0, (K 511)), (1, (K 1000))]),
  oV 2 (rbuild [.v (.int .i64 0), .v (.int .i64 0)] [(0, 1), (1, 1)] [(0, (K 511))]),
  oV 3 (rbuild [.v (.int .i64 0), .v (.int .i64 0)] [(0, 1), (1, 1)] []),
  oV 4 (rbuildA 2 [.v (.int .i64 0), .v (.int .i64 0), .v (.int .i64 0), .v (.int .i64 0), .v (.int .i64 0), .v (.int .i64 0), .v (.int .i64 0), .v (.int .i64 0)] [(1, (T 1)), (2, (T 2)), (3, (T 3))]),
  oS (rstore 8 (T 0) (T 4))]
noncomputable abbrev c83_2 : RC := .seq c83_1 .ret
noncomputable abbrev c83_3 : RC := .seq c83_0 c83_2
theorem fn83 : env.fn 83 = some ⟨5, [.cell 0 128], body83⟩ := by kernel_rfl
theorem comp83 : comp env body83 = c83_3 := by kernel_rfl

/-! ### tributary/past.four -/
noncomputable def body84 : Code := match Tryd.f84.body with | some c => c | none => .skip
noncomputable abbrev c84_0 : RC := .ops [oV 2 (rmv (.const (.slice none 0 0)))]
noncomputable abbrev c84_1 : RC := .ops [oV 3 (rmv (T 0)),
  oV 4 (rbin env .shr 3 false true (T 3) (.const (.int .u64 24))),
  oU 5 (rconvI .u8 (T 4)),
  oV 6 (rmv (T 0)),
  oV 7 (rbin env .shr 3 false true (T 6) (.const (.int .u64 16))),
  oU 8 (rconvI .u8 (T 7)),
  oV 9 (rmv (T 0)),
  oV 10 (rbin env .shr 3 false true (T 9) (.const (.int .u64 8))),
  oU 11 (rconvI .u8 (T 10)),
  oV 12 (rmv (T 0)),
  oU 13 (rconvI .u8 (T 12)),
  oU 14 (rbuildL 1 4 [.v (.int .u8 0), .v (.int .u8 0), .v (.int .u8 0), .v (.int .u8 0)] [(0, (T 5)), (1, (T 8)), (2, (T 11)), (3, (T 13))]),
  oV 2 (rmv (T 14))]
noncomputable abbrev c84_2 : RC := .seq c84_1 .ret
noncomputable abbrev c84_3 : RC := .seq c84_0 c84_2
theorem fn84 : env.fn 84 = some ⟨15, [.tmp 2], body84⟩ := by kernel_rfl
theorem comp84 : comp env body84 = c84_3 := by kernel_rfl

/-! ### slices.Concat[[]byte,byte] -/
noncomputable def body85 : Code := match Tryd.f85.body with | some c => c | none => .skip
noncomputable abbrev c85_0 : RC := .ops [oV 2 (rmv (.const (.slice none 0 0)))]
noncomputable abbrev c85_1 : RC := .ops [oV 3 (rmv (K 0))]
noncomputable abbrev c85_2 : RC := .ops [oV 9 (rmv (T 0)),
  oV 10 (rlen (T 9)),
  oV 11 (rmv (K 0))]
noncomputable abbrev c85_3 : RC := .ops [oV 12 (rbin env .lss 3 false false (T 11) (T 10))]
noncomputable abbrev c85_4 : RC := .cond (rX 12) .skip (.exit 0)
noncomputable abbrev c85_5 : RC := .ops [oV 13 (riaddr 1 (T 9) (T 11)),
  oV 14 (rload false 1 (T 13)),
  oV 5 (rmv (T 14))]
noncomputable abbrev c85_6 : RC := .ops [oV 15 (rmv (T 3)),
  oV 16 (rmv (T 5)),
  oV 17 (rlen (T 16)),
  oV 18 (rbin env .add 3 false false (T 15) (T 17)),
  oV 3 (rmv (T 18))]
noncomputable abbrev c85_7 : RC := .ops [oV 19 (rmv (T 3)),
  oV 20 (rbin env .lss 3 false true (T 19) (K 0))]
noncomputable abbrev c85_8 : RC := comp env (subc [1, 1, 0, 1, 0, 0, 1, 1, 0, 0, 1, 1, 1, 0] body85)
noncomputable abbrev c85_9 : RC := .cond (rX 20) c85_8 .skip
noncomputable abbrev c85_10 : RC := .seq c85_7 c85_9
noncomputable abbrev c85_11 : RC := .seq c85_6 c85_10
noncomputable abbrev c85_12 : RC := .seq c85_5 c85_11
noncomputable abbrev c85_13 : RC := .block 1 c85_12
noncomputable abbrev c85_14 : RC := .ops [oV 22 (rbin env .add 3 false true (T 11) (K 1)),
  oV 11 (rmv (T 22))]
noncomputable abbrev c85_15 : RC := .seq c85_13 c85_14
noncomputable abbrev c85_16 : RC := .seq c85_4 c85_15
noncomputable abbrev c85_17 : RC := .seq c85_3 c85_16
noncomputable abbrev c85_18 : RC := .loop c85_17
noncomputable abbrev c85_19 : RC := .block 0 c85_18
noncomputable abbrev c85_20 : RC := .seq c85_2 c85_19
noncomputable abbrev c85_21 : RC := .ops [oV 23 (rmv (T 3)),
  oC 24 (.func 98) [(.const (.slice none 0 0)), (T 23)],
  oV 6 (rmv (T 24))]
noncomputable abbrev c85_22 : RC := .ops [oV 25 (rmv (T 0)),
  oV 26 (rlen (T 25)),
  oV 27 (rmv (K 0))]
noncomputable abbrev c85_23 : RC := .ops [oV 28 (rbin env .lss 3 false false (T 27) (T 26))]
noncomputable abbrev c85_24 : RC := .cond (rX 28) .skip (.exit 2)
noncomputable abbrev c85_25 : RC := .ops [oV 29 (riaddr 1 (T 25) (T 27)),
  oV 30 (rload false 1 (T 29)),
  oV 8 (rmv (T 30))]
noncomputable abbrev c85_26 : RC := .ops [oV 31 (rmv (T 6)),
  oV 32 (rmv (T 8)),
  oU 33 (rappend 1 1 1 (T 31) (T 32)),
  oV 6 (rmv (T 33))]
noncomputable abbrev c85_27 : RC := .seq c85_25 c85_26
noncomputable abbrev c85_28 : RC := .block 3 c85_27
noncomputable abbrev c85_29 : RC := .ops [oV 34 (rbin env .add 3 false true (T 27) (K 1)),
  oV 27 (rmv (T 34))]
noncomputable abbrev c85_30 : RC := .seq c85_28 c85_29
noncomputable abbrev c85_31 : RC := .seq c85_24 c85_30
noncomputable abbrev c85_32 : RC := .seq c85_23 c85_31
noncomputable abbrev c85_33 : RC := .loop c85_32
noncomputable abbrev c85_34 : RC := .block 2 c85_33
noncomputable abbrev c85_35 : RC := .seq c85_22 c85_34
noncomputable abbrev c85_36 : RC := .ops [oV 35 (rmv (T 6)),
  oV 2 (rmv (T 35))]
noncomputable abbrev c85_37 : RC := .seq c85_36 .ret
noncomputable abbrev c85_38 : RC := .seq c85_35 c85_37
noncomputable abbrev c85_39 : RC := .seq c85_21 c85_38
noncomputable abbrev c85_40 : RC := .seq c85_20 c85_39
noncomputable abbrev c85_41 : RC := .seq c85_1 c85_40
noncomputable abbrev c85_42 : RC := .seq c85_0 c85_41
theorem fn85 : env.fn 85 = some ⟨36, [.tmp 2], body85⟩ := by kernel_rfl
theorem comp85 : comp env body85 = c85_42 := by kernel_rfl

/-! ### (*tributary/wire.Writer).put -/
noncomputable def body86 : Code := match Tryd.f86.body with | some c => c | none => .skip
noncomputable abbrev c86_0 : RC := .ops [oV 9 (rmv (T 0)),
  oV 10 (rbin env .eql 110 false true (T 9) (.const (.pointer none))),
  oV 11 (rmv (T 10)),
  oG 12 11 false (rmv (T 0)),
  oG 13 11 false (rnil (T 12)),
  oG 14 11 false (rfaddr 0 (T 13)),
  oG 15 11 false (rload false 1 (T 14)),
  oG 16 11 false (run' .not (T 15)),
  oV 17 (rpick (T 11) (.const (.bool true)) (T 16)),
  oV 18 (rmv (T 17)),
  oG 19 18 false (rmv (T 0)),
  oG 20 18 false (rnil (T 19)),
  oG 21 18 false (rfaddr 2 (T 20)),
  oG 22 18 false (rload false 1 (T 21)),
  oG 23 18 false (rbin env .neq 23 false true (T 22) (K 0)),
  oV 24 (rpick (T 18) (.const (.bool true)) (T 23))]
noncomputable abbrev c86_1 : RC := .cond (rX 24) .ret .skip
noncomputable abbrev c86_2 : RC := .seq c86_0 c86_1
noncomputable abbrev c86_3 : RC := .ops [oV 25 (rmv (T 0)),
  oV 26 (rnil (T 25)),
  oV 27 (rfaddr 1 (T 26)),
  oV 28 (rload false 1 (T 27)),
  oV 29 (rlen (T 28)),
  oV 4 (rmv (T 29))]
noncomputable abbrev c86_4 : RC := .ops [oV 30 (rmv (T 1)),
  oV 31 (rlen (T 30)),
  oV 32 (rmv (K 0))]
noncomputable abbrev c86_5 : RC := .ops [oV 33 (rbin env .lss 3 false false (T 32) (T 31))]
noncomputable abbrev c86_6 : RC := .cond (rX 33) .skip (.exit 0)
noncomputable abbrev c86_7 : RC := .ops [oV 34 (riaddr 1 (T 30) (T 32)),
  oV 35 (rload false 1 (T 34)),
  oV 6 (rmv (T 35))]
noncomputable abbrev c86_8 : RC := .ops [oV 36 (rmv (T 4)),
  oV 37 (rmv (T 6)),
  oV 38 (rlen (T 37)),
  oV 39 (rbin env .add 3 false false (T 36) (T 38)),
  oV 4 (rmv (T 39))]
noncomputable abbrev c86_9 : RC := .seq c86_7 c86_8
noncomputable abbrev c86_10 : RC := .block 1 c86_9
noncomputable abbrev c86_11 : RC := .ops [oV 40 (rbin env .add 3 false true (T 32) (K 1)),
  oV 32 (rmv (T 40))]
noncomputable abbrev c86_12 : RC := .seq c86_10 c86_11
noncomputable abbrev c86_13 : RC := .seq c86_6 c86_12
noncomputable abbrev c86_14 : RC := .seq c86_5 c86_13
noncomputable abbrev c86_15 : RC := .loop c86_14
noncomputable abbrev c86_16 : RC := .block 0 c86_15
noncomputable abbrev c86_17 : RC := .seq c86_4 c86_16
noncomputable abbrev c86_18 : RC := .ops [oV 41 (rmv (T 4)),
  oV 42 (rbin env .gtr 3 false true (T 41) (K 1048576))]
noncomputable abbrev c86_19 : RC := .ops [oV 43 (rmv (T 0)),
  oV 44 (rnil (T 43)),
  oV 45 (rfaddr 2 (T 44)),
  oS (rstore 1 (T 45) (K 3))]
noncomputable abbrev c86_20 : RC := .seq c86_19 .ret
noncomputable abbrev c86_21 : RC := .cond (rX 42) c86_20 .skip
noncomputable abbrev c86_22 : RC := .seq c86_18 c86_21
noncomputable abbrev c86_23 : RC := .ops [oV 46 (rmv (T 1)),
  oV 47 (rlen (T 46)),
  oV 48 (rmv (K 0))]
noncomputable abbrev c86_24 : RC := .ops [oV 49 (rbin env .lss 3 false false (T 48) (T 47))]
noncomputable abbrev c86_25 : RC := .cond (rX 49) .skip (.exit 2)
noncomputable abbrev c86_26 : RC := .ops [oV 50 (riaddr 1 (T 46) (T 48)),
  oV 51 (rload false 1 (T 50)),
  oV 8 (rmv (T 51))]
noncomputable abbrev c86_27 : RC := .ops [oV 52 (rmv (T 0)),
  oV 53 (rmv (T 0)),
  oV 54 (rnil (T 53)),
  oV 55 (rfaddr 1 (T 54)),
  oV 56 (rload false 1 (T 55)),
  oV 57 (rmv (T 8)),
  oU 58 (rappend 1 1 1 (T 56) (T 57)),
  oV 59 (rnil (T 52)),
  oV 60 (rfaddr 1 (T 59)),
  oS (rstore 1 (T 60) (T 58))]
noncomputable abbrev c86_28 : RC := .seq c86_26 c86_27
noncomputable abbrev c86_29 : RC := .block 3 c86_28
noncomputable abbrev c86_30 : RC := .ops [oV 61 (rbin env .add 3 false true (T 48) (K 1)),
  oV 48 (rmv (T 61))]
noncomputable abbrev c86_31 : RC := .seq c86_29 c86_30
noncomputable abbrev c86_32 : RC := .seq c86_25 c86_31
noncomputable abbrev c86_33 : RC := .seq c86_24 c86_32
noncomputable abbrev c86_34 : RC := .loop c86_33
noncomputable abbrev c86_35 : RC := .block 2 c86_34
noncomputable abbrev c86_36 : RC := .seq c86_23 c86_35
noncomputable abbrev c86_37 : RC := .seq c86_22 c86_36
noncomputable abbrev c86_38 : RC := .seq c86_17 c86_37
noncomputable abbrev c86_39 : RC := .seq c86_3 c86_38
noncomputable abbrev c86_40 : RC := .seq c86_2 c86_39
theorem fn86 : env.fn 86 = some ⟨62, [], body86⟩ := by kernel_rfl
theorem comp86 : comp env body86 = c86_40 := by kernel_rfl

/-! ### tributary/wire.form -/
noncomputable def body87 : Code := match Tryd.f87.body with | some c => c | none => .skip
noncomputable abbrev c87_0 : RC := .ops [oV 2 (rmv (.const (.slice none 0 0)))]
noncomputable abbrev c87_1 : RC := .ops [oV 6 (rmv (T 0)),
  oU 7 (rconvI .u64 (T 6)),
  oC 8 (.func 99) [(T 7)],
  oV 9 (rbin env .add 3 false true (T 8) (K 7)),
  oV 10 (rbin env .quo 3 false true (T 9) (K 8)),
  oV 3 (rmv (T 10))]
noncomputable abbrev c87_2 : RC := .ops [oV 11 (rmv (T 3)),
  oU 12 (rconvI .u8 (T 11)),
  oU 13 (rbuildL 1 1 [.v (.int .u8 0)] [(0, (T 12))]),
  oV 4 (rmv (T 13))]
noncomputable abbrev c87_3 : RC := .ops [oV 14 (rmv (T 3)),
  oV 5 (rmv (T 14))]
noncomputable abbrev c87_4 : RC := .ops [oV 15 (rmv (T 5)),
  oV 16 (rbin env .gtr 3 false true (T 15) (K 0))]
noncomputable abbrev c87_5 : RC := .cond (rX 16) .skip (.exit 0)
noncomputable abbrev c87_6 : RC := .seq c87_4 c87_5
noncomputable abbrev c87_7 : RC := .ops [oV 19 (rmv (T 4)),
  oV 20 (rmv (T 0)),
  oV 21 (rmv (T 5)),
  oV 22 (rbin env .sub 3 false true (T 21) (K 1)),
  oV 23 (rbin env .mul 3 true false (K 8) (T 22)),
  oV 24 (rbin env .shr 3 false false (T 20) (T 23)),
  oU 25 (rconvI .u8 (T 24)),
  oU 26 (rbuildL 1 1 [.v (.int .u8 0)] [(0, (T 25))]),
  oU 27 (rappend 1 1 1 (T 19) (T 26)),
  oV 4 (rmv (T 27))]
noncomputable abbrev c87_8 : RC := .block 1 c87_7
noncomputable abbrev c87_9 : RC := .ops [oV 17 (rmv (T 5)),
  oV 18 (rbin env .sub 3 false true (T 17) (K 1)),
  oV 5 (rmv (T 18))]
noncomputable abbrev c87_10 : RC := .seq c87_8 c87_9
noncomputable abbrev c87_11 : RC := .seq c87_6 c87_10
noncomputable abbrev c87_12 : RC := .loop c87_11
noncomputable abbrev c87_13 : RC := .block 0 c87_12
noncomputable abbrev c87_14 : RC := .seq c87_3 c87_13
noncomputable abbrev c87_15 : RC := .ops [oV 28 (rmv (T 4)),
  oV 2 (rmv (T 28))]
noncomputable abbrev c87_16 : RC := .seq c87_15 .ret
noncomputable abbrev c87_17 : RC := .seq c87_14 c87_16
noncomputable abbrev c87_18 : RC := .seq c87_2 c87_17
noncomputable abbrev c87_19 : RC := .seq c87_1 c87_18
noncomputable abbrev c87_20 : RC := .seq c87_0 c87_19
theorem fn87 : env.fn 87 = some ⟨29, [.tmp 2], body87⟩ := by kernel_rfl
theorem comp87 : comp env body87 = c87_20 := by kernel_rfl

/-! ### bytes.Clone -/
noncomputable def body88 : Code := match Tryd.f88.body with | some c => c | none => .skip
noncomputable abbrev c88_0 : RC := .ops [oV 2 (rmv (.const (.slice none 0 0)))]
noncomputable abbrev c88_1 : RC := .ops [oV 3 (rmv (T 0)),
  oL 4 false (T 3)]
noncomputable abbrev c88_2 : RC := .ops [oV 2 (rmv (.const (.slice none 0 0)))]
noncomputable abbrev c88_3 : RC := .seq c88_2 .ret
noncomputable abbrev c88_4 : RC := .cond (rX 4) c88_3 .skip
noncomputable abbrev c88_5 : RC := .seq c88_1 c88_4
noncomputable abbrev c88_6 : RC := .ops [oU 5 (rbuildL 1 0 [] []),
  oV 6 (rmv (T 0)),
  oU 7 (rappend 1 1 1 (T 5) (T 6)),
  oV 2 (rmv (T 7))]
noncomputable abbrev c88_7 : RC := .seq c88_6 .ret
noncomputable abbrev c88_8 : RC := .seq c88_5 c88_7
noncomputable abbrev c88_9 : RC := .seq c88_0 c88_8
theorem fn88 : env.fn 88 = some ⟨8, [.tmp 2], body88⟩ := by kernel_rfl
theorem comp88 : comp env body88 = c88_9 := by kernel_rfl

/-! ### tributary/past.Minus$1 -/
noncomputable def body89 : Code := match Tryd.f89.body with | some c => c | none => .skip
noncomputable abbrev c89_0 : RC := .ops [oV 4 (rmv (.const (.bool false)))]
noncomputable abbrev c89_1 : RC := .ops [oV 5 (rmv (T 0)),
  oV 6 (rmv (T 5)),
  oG 7 6 true (rmv (T 1)),
  oG 8 6 true (run' .not (T 7)),
  oV 9 (rpick (T 6) (T 8) (.const (.bool false))),
  oV 4 (rmv (T 9))]
noncomputable abbrev c89_2 : RC := .seq c89_1 .ret
noncomputable abbrev c89_3 : RC := .seq c89_0 c89_2
theorem fn89 : env.fn 89 = some ⟨10, [.tmp 4], body89⟩ := by kernel_rfl
theorem comp89 : comp env body89 = c89_3 := by kernel_rfl

/-! ### slices.IndexFunc[[]tributary/api.Span,tributary/api.Span] -/
noncomputable def body90 : Code := match Tryd.f90.body with | some c => c | none => .skip
noncomputable abbrev c90_0 : RC := .ops [oV 4 (rmv (K 0))]
noncomputable abbrev c90_1 : RC := .ops [oV 6 (rmv (T 0)),
  oV 7 (rlen (T 6)),
  oV 8 (rmv (K 0))]
noncomputable abbrev c90_2 : RC := .ops [oV 9 (rbin env .lss 3 false false (T 8) (T 7))]
noncomputable abbrev c90_3 : RC := .cond (rX 9) .skip (.exit 0)
noncomputable abbrev c90_4 : RC := .ops [oV 10 (rmv (T 8)),
  oV 5 (rmv (T 10))]
noncomputable abbrev c90_5 : RC := .ops [oV 11 (rmv (T 1)),
  oV 12 (rmv (T 0)),
  oV 13 (rmv (T 5)),
  oV 14 (riaddr 3 (T 12) (T 13)),
  oV 15 (rload true 3 (T 14)),
  oC 16 (T 11) [(T 15)]]
noncomputable abbrev c90_6 : RC := .ops [oV 17 (rmv (T 5)),
  oV 4 (rmv (T 17))]
noncomputable abbrev c90_7 : RC := .seq c90_6 .ret
noncomputable abbrev c90_8 : RC := .cond (rX 16) c90_7 .skip
noncomputable abbrev c90_9 : RC := .seq c90_5 c90_8
noncomputable abbrev c90_10 : RC := .seq c90_4 c90_9
noncomputable abbrev c90_11 : RC := .block 1 c90_10
noncomputable abbrev c90_12 : RC := .ops [oV 18 (rbin env .add 3 false true (T 8) (K 1)),
  oV 8 (rmv (T 18))]
noncomputable abbrev c90_13 : RC := .seq c90_11 c90_12
noncomputable abbrev c90_14 : RC := .seq c90_3 c90_13
noncomputable abbrev c90_15 : RC := .seq c90_2 c90_14
noncomputable abbrev c90_16 : RC := .loop c90_15
noncomputable abbrev c90_17 : RC := .block 0 c90_16
noncomputable abbrev c90_18 : RC := .seq c90_1 c90_17
noncomputable abbrev c90_19 : RC := .ops [oV 4 (rmv (K (-1)))]
noncomputable abbrev c90_20 : RC := .seq c90_19 .ret
noncomputable abbrev c90_21 : RC := .seq c90_18 c90_20
noncomputable abbrev c90_22 : RC := .seq c90_0 c90_21
theorem fn90 : env.fn 90 = some ⟨19, [.tmp 4], body90⟩ := by kernel_rfl
theorem comp90 : comp env body90 = c90_22 := by kernel_rfl

/-! ### (*tributary/past.sweep).step -/
noncomputable def body91 : Code := match Tryd.f91.body with | some c => c | none => .skip
noncomputable abbrev c91_0 : RC := .ops [oV 2 (rmv (K 0))]
noncomputable abbrev c91_1 : RC := .ops [oV 28 (rmv (T 0)),
  oV 29 (rnil (T 28)),
  oV 30 (rfaddr 0 (T 29)),
  oV 31 (rload false 1 (T 30)),
  oV 32 (rlen (T 31)),
  oV 33 (rbin env .eql 3 false true (T 32) (K 0)),
  oV 27 (rmv (T 33))]
noncomputable abbrev c91_2 : RC := .ops [oV 34 (rmv (T 0)),
  oV 35 (rnil (T 34)),
  oV 36 (rfaddr 1 (T 35)),
  oV 37 (rload false 1 (T 36)),
  oV 38 (riaddr 3 (T 37) (K 0)),
  oV 39 (rfaddr 0 (T 38)),
  oV 40 (rload false 1 (T 39)),
  oV 2 (rmv (T 40))]
noncomputable abbrev c91_3 : RC := .ops [oV 42 (rmv (T 0)),
  oV 43 (rnil (T 42)),
  oV 44 (rfaddr 1 (T 43)),
  oV 45 (rload false 1 (T 44)),
  oV 46 (rlen (T 45)),
  oV 47 (rbin env .eql 3 false true (T 46) (K 0)),
  oV 41 (rmv (T 47))]
noncomputable abbrev c91_4 : RC := .ops [oV 48 (rmv (T 0)),
  oV 49 (rnil (T 48)),
  oV 50 (rfaddr 0 (T 49)),
  oV 51 (rload false 1 (T 50)),
  oV 52 (riaddr 3 (T 51) (K 0)),
  oV 53 (rfaddr 0 (T 52)),
  oV 54 (rload false 1 (T 53)),
  oV 2 (rmv (T 54))]
noncomputable abbrev c91_5 : RC := .drawn true [dV 12 (rmv (T 0)),
  dV 13 (rnil (T 12)),
  dV 14 (rfaddr 0 (T 13)),
  dV 15 (rload false 1 (T 14)),
  dV 16 (riaddr 3 (T 15) (K 0)),
  dV 17 (rfaddr 0 (T 16)),
  dV 18 (rload false 1 (T 17)),
  dV 19 (rmv (T 0)),
  dV 20 (rnil (T 19)),
  dV 21 (rfaddr 1 (T 20)),
  dV 22 (rload false 1 (T 21)),
  dV 23 (riaddr 3 (T 22) (K 0)),
  dV 24 (rfaddr 0 (T 23)),
  dV 25 (rload false 1 (T 24)),
  dV 26 (rmm minV [(T 18), (T 25)]),
  dV 2 (rmv (T 26))]
noncomputable abbrev c91_6 : RC := .cond (rX 41) c91_4 c91_5
noncomputable abbrev c91_7 : RC := .seq c91_3 c91_6
noncomputable abbrev c91_8 : RC := .cond (rX 27) c91_2 c91_7
noncomputable abbrev c91_9 : RC := .seq c91_1 c91_8
noncomputable abbrev c91_10 : RC := .block 0 c91_9
noncomputable abbrev c91_11 : RC := .ops [oV 56 (rmv (T 0)),
  oV 57 (rnil (T 56)),
  oV 58 (rfaddr 0 (T 57)),
  oV 59 (rload false 1 (T 58)),
  oV 60 (rmv (T 2)),
  oC 61 (.func 100) [(T 59), (T 60)],
  oV 55 (rmv (T 61)),
  oV 62 (rext (T 55) 0),
  oV 63 (rext (T 55) 1),
  oU 3 (rnew [.v (.int .i64 0), .v (.int .i64 0), .v (.int .i64 0)]),
  oS (rstore 3 (T 3) (T 62)),
  oV 4 (rmv (T 63))]
noncomputable abbrev c91_12 : RC := .ops [oV 65 (rmv (T 0)),
  oV 66 (rnil (T 65)),
  oV 67 (rfaddr 1 (T 66)),
  oV 68 (rload false 1 (T 67)),
  oV 69 (rmv (T 2)),
  oC 70 (.func 100) [(T 68), (T 69)],
  oV 64 (rmv (T 70)),
  oV 71 (rext (T 64) 0),
  oV 72 (rext (T 64) 1),
  oU 5 (rnew [.v (.int .i64 0), .v (.int .i64 0), .v (.int .i64 0)]),
  oS (rstore 3 (T 5) (T 71)),
  oV 6 (rmv (T 72))]
noncomputable abbrev c91_13 : RC := .ops [oV 73 (rmv (T 2)),
  oV 74 (rfaddr 1 (T 3)),
  oV 75 (rload false 1 (T 74)),
  oV 76 (rfaddr 1 (T 5)),
  oV 77 (rload false 1 (T 76)),
  oV 78 (rmm minV [(T 75), (T 77)]),
  oV 79 (rbuild [.v (.int .i64 0), .v (.int .i64 0), .v (.int .i64 0)] [(0, 1), (1, 1), (2, 1)] [(0, (T 73)), (1, (T 78))]),
  oU 7 (rnew [.v (.int .i64 0), .v (.int .i64 0), .v (.int .i64 0)]),
  oS (rstore 3 (T 7) (T 79))]
noncomputable abbrev c91_14 : RC := .ops [oV 80 (rmv (T 4)),
  oV 81 (run' .not (T 80)),
  oV 82 (rmv (T 81)),
  oG 83 82 false (rmv (T 6)),
  oG 84 82 false (run' .not (T 83)),
  oV 85 (rpick (T 82) (.const (.bool true)) (T 84))]
noncomputable abbrev c91_15 : RC := .ops [oV 86 (rfaddr 1 (T 3)),
  oV 87 (rload false 1 (T 86)),
  oV 88 (rfaddr 1 (T 5)),
  oV 89 (rload false 1 (T 88)),
  oV 90 (rmm maxV [(T 87), (T 89)]),
  oV 91 (rfaddr 1 (T 7)),
  oS (rstore 1 (T 91) (T 90))]
noncomputable abbrev c91_16 : RC := .cond (rX 85) c91_15 .skip
noncomputable abbrev c91_17 : RC := .seq c91_14 c91_16
noncomputable abbrev c91_18 : RC := .drawn true [dV 92 (rmv (T 4)),
  dV 93 (rmv (T 92)),
  dG 94 93 true (rfaddr 1 (T 3)),
  dG 95 93 true (rload false 1 (T 94)),
  dG 96 93 true (rfaddr 1 (T 7)),
  dG 97 93 true (rload false 1 (T 96)),
  dG 98 93 true (rbin env .eql 3 false false (T 95) (T 97)),
  dV 99 (rpick (T 93) (T 98) (.const (.bool false))),
  dV 100 (rmv (T 6)),
  dV 101 (rmv (T 100)),
  dG 102 101 true (rfaddr 1 (T 5)),
  dG 103 101 true (rload false 1 (T 102)),
  dG 104 101 true (rfaddr 1 (T 7)),
  dG 105 101 true (rload false 1 (T 104)),
  dG 106 101 true (rbin env .eql 3 false false (T 103) (T 105)),
  dV 107 (rpick (T 101) (T 106) (.const (.bool false))),
  dV 8 (rmv (T 99)),
  dV 9 (rmv (T 107))]
noncomputable abbrev c91_19 : RC := .ops [oV 108 (rfaddr 2 (T 7)),
  oS (rstore 1 (T 108) (K 2147483647))]
noncomputable abbrev c91_20 : RC := .ops [oV 109 (rload true 3 (T 3)),
  oV 110 (rmv (T 4)),
  oV 111 (rmv (T 8)),
  oV 112 (rbuild [.v (.int .i64 0), .v (.int .i64 0), .v (.int .i64 0), .v (.bool false), .v (.bool false)] [(0, 3), (3, 1), (4, 1)] [(0, (T 109)), (1, (T 110)), (2, (T 111))]),
  oV 113 (rload true 3 (T 5)),
  oV 114 (rmv (T 6)),
  oV 115 (rmv (T 9)),
  oV 116 (rbuild [.v (.int .i64 0), .v (.int .i64 0), .v (.int .i64 0), .v (.bool false), .v (.bool false)] [(0, 3), (3, 1), (4, 1)] [(0, (T 113)), (1, (T 114)), (2, (T 115))]),
  oU 117 (rbuildL 5 2 [.v (.int .i64 0), .v (.int .i64 0), .v (.int .i64 0), .v (.bool false), .v (.bool false), .v (.int .i64 0), .v (.int .i64 0), .v (.int .i64 0), .v (.bool false), .v (.bool false)] [(0, (T 112)), (1, (T 116))]),
  oV 118 (rlen (T 117)),
  oV 119 (rmv (K 0))]
noncomputable abbrev c91_21 : RC := .ops [oV 120 (rbin env .lss 3 false false (T 119) (T 118))]
noncomputable abbrev c91_22 : RC := .cond (rX 120) .skip (.exit 1)
noncomputable abbrev c91_23 : RC := .ops [oV 121 (riaddr 5 (T 117) (T 119)),
  oV 122 (rload true 5 (T 121)),
  oU 11 (rnew [.v (.int .i64 0), .v (.int .i64 0), .v (.int .i64 0), .v (.bool false), .v (.bool false)]),
  oS (rstore 5 (T 11) (T 122))]
noncomputable abbrev c91_24 : RC := .ops [oV 124 (rfaddr 4 (T 11)),
  oV 125 (rload false 1 (T 124)),
  oV 123 (rmv (T 125))]
noncomputable abbrev c91_25 : RC := .ops [oV 126 (rfaddr 2 (T 7)),
  oV 127 (rload false 1 (T 126)),
  oV 128 (rfaddr 0 (T 11)),
  oV 129 (rfaddr 2 (T 128)),
  oV 130 (rload false 1 (T 129)),
  oV 131 (rmm minV [(T 127), (T 130)]),
  oV 132 (rfaddr 2 (T 7)),
  oS (rstore 1 (T 132) (T 131))]
noncomputable abbrev c91_26 : RC := .ops [oV 134 (rfaddr 3 (T 11)),
  oV 135 (rload false 1 (T 134)),
  oV 133 (rmv (T 135))]
noncomputable abbrev c91_27 : RC := .ops [oV 136 (rfaddr 2 (T 7)),
  oV 137 (rload false 1 (T 136)),
  oV 138 (rfaddr 0 (T 11)),
  oV 139 (rfaddr 1 (T 138)),
  oV 140 (rload false 1 (T 139)),
  oV 141 (rbin env .sub 3 false true (T 140) (K 1)),
  oV 142 (rmm minV [(T 137), (T 141)]),
  oV 143 (rfaddr 2 (T 7)),
  oS (rstore 1 (T 143) (T 142))]
noncomputable abbrev c91_28 : RC := .cond (rX 133) c91_27 .skip
noncomputable abbrev c91_29 : RC := .seq c91_26 c91_28
noncomputable abbrev c91_30 : RC := .cond (rX 123) c91_25 c91_29
noncomputable abbrev c91_31 : RC := .seq c91_24 c91_30
noncomputable abbrev c91_32 : RC := .block 3 c91_31
noncomputable abbrev c91_33 : RC := .seq c91_23 c91_32
noncomputable abbrev c91_34 : RC := .block 2 c91_33
noncomputable abbrev c91_35 : RC := .ops [oV 144 (rbin env .add 3 false true (T 119) (K 1)),
  oV 119 (rmv (T 144))]
noncomputable abbrev c91_36 : RC := .seq c91_34 c91_35
noncomputable abbrev c91_37 : RC := .seq c91_22 c91_36
noncomputable abbrev c91_38 : RC := .seq c91_21 c91_37
noncomputable abbrev c91_39 : RC := .loop c91_38
noncomputable abbrev c91_40 : RC := .block 1 c91_39
noncomputable abbrev c91_41 : RC := .seq c91_20 c91_40
noncomputable abbrev c91_42 : RC := .ops [oV 145 (rmv (T 0)),
  oV 146 (rnil (T 145)),
  oV 147 (rfaddr 2 (T 146)),
  oV 148 (rload false 1 (T 147)),
  oV 149 (rmv (T 8)),
  oV 150 (rmv (T 9)),
  oC 151 (T 148) [(T 149), (T 150)]]
noncomputable abbrev c91_43 : RC := .ops [oV 152 (rmv (T 0)),
  oV 153 (rload true 3 (T 7)),
  oC 154 (.func 101) [(T 152), (T 153)]]
noncomputable abbrev c91_44 : RC := .cond (rX 151) c91_43 .skip
noncomputable abbrev c91_45 : RC := .seq c91_42 c91_44
noncomputable abbrev c91_46 : RC := .ops [oV 155 (rmv (T 8))]
noncomputable abbrev c91_47 : RC := .drawn true [dV 156 (rmv (T 0)),
  dV 157 (rmv (T 0)),
  dV 158 (rnil (T 157)),
  dV 159 (rfaddr 0 (T 158)),
  dV 160 (rload false 1 (T 159)),
  dV 161 (rfaddr 2 (T 7)),
  dV 162 (rload false 1 (T 161)),
  dC true 163 (.func 102) [(T 160), (T 162)],
  dV 164 (rnil (T 156)),
  dV 165 (rfaddr 0 (T 164)),
  dS (rstore 1 (T 165) (T 163))]
noncomputable abbrev c91_48 : RC := .cond (rX 155) c91_47 .skip
noncomputable abbrev c91_49 : RC := .seq c91_46 c91_48
noncomputable abbrev c91_50 : RC := .ops [oV 166 (rmv (T 9))]
noncomputable abbrev c91_51 : RC := .drawn true [dV 167 (rmv (T 0)),
  dV 168 (rmv (T 0)),
  dV 169 (rnil (T 168)),
  dV 170 (rfaddr 1 (T 169)),
  dV 171 (rload false 1 (T 170)),
  dV 172 (rfaddr 2 (T 7)),
  dV 173 (rload false 1 (T 172)),
  dC true 174 (.func 102) [(T 171), (T 173)],
  dV 175 (rnil (T 167)),
  dV 176 (rfaddr 1 (T 175)),
  dS (rstore 1 (T 176) (T 174))]
noncomputable abbrev c91_52 : RC := .cond (rX 166) c91_51 .skip
noncomputable abbrev c91_53 : RC := .seq c91_50 c91_52
noncomputable abbrev c91_54 : RC := .seq c91_49 c91_53
noncomputable abbrev c91_55 : RC := .seq c91_45 c91_54
noncomputable abbrev c91_56 : RC := .seq c91_41 c91_55
noncomputable abbrev c91_57 : RC := .seq c91_19 c91_56
noncomputable abbrev c91_58 : RC := .seq c91_18 c91_57
noncomputable abbrev c91_59 : RC := .seq c91_17 c91_58
noncomputable abbrev c91_60 : RC := .seq c91_13 c91_59
noncomputable abbrev c91_61 : RC := .seq c91_12 c91_60
noncomputable abbrev c91_62 : RC := .seq c91_11 c91_61
noncomputable abbrev c91_63 : RC := .seq c91_10 c91_62
noncomputable abbrev c91_64 : RC := .seq c91_0 c91_63
theorem fn91 : env.fn 91 = some ⟨177, [], body91⟩ := by kernel_rfl
theorem comp91 : comp env body91 = c91_64 := by kernel_rfl

/-! ### tributary/tributarykit.CopyBytes -/
noncomputable def body92 : Code := match Tryd.f92.body with | some c => c | none => .skip
noncomputable abbrev c92_0 : RC := .ops [oV 2 (rmv (.const (.slice none 0 0)))]
noncomputable abbrev c92_1 : RC := .ops [oU 3 (rbuildL 1 0 [] []),
  oV 4 (rmv (T 0)),
  oU 5 (rappend 1 1 1 (T 3) (T 4)),
  oV 2 (rmv (T 5))]
noncomputable abbrev c92_2 : RC := .seq c92_1 .ret
noncomputable abbrev c92_3 : RC := .seq c92_0 c92_2
theorem fn92 : env.fn 92 = some ⟨6, [.tmp 2], body92⟩ := by kernel_rfl
theorem comp92 : comp env body92 = c92_3 := by kernel_rfl

/-! ### strings.splitSeq -/
noncomputable def body93 : Code := match Tryd.f93.body with | some c => c | none => .skip
noncomputable abbrev c93_0 : RC := .ops [oU 3 (rbox (T 0)),
  oU 4 (rbox (T 1)),
  oU 5 (rbox (T 2)),
  oV 6 (rmv (.const (.nilFunc)))]
noncomputable abbrev c93_1 : RC := .ops [oV 7 (rfn 103 [] [(T 4), (T 3), (T 5)]),
  oV 6 (rmv (T 7))]
noncomputable abbrev c93_2 : RC := .seq c93_1 .ret
noncomputable abbrev c93_3 : RC := .seq c93_0 c93_2
theorem fn93 : env.fn 93 = some ⟨8, [.tmp 6], body93⟩ := by kernel_rfl
theorem comp93 : comp env body93 = c93_3 := by kernel_rfl

/-! ### strings.Trim -/
noncomputable def body94 : Code := match Tryd.f94.body with | some c => c | none => .skip
noncomputable abbrev c94_0 : RC := .ops [oV 4 (rmv (.const (.string ⟨#[]⟩)))]
noncomputable abbrev c94_1 : RC := .ops [oV 7 (rmv (T 0)),
  oV 8 (rbin env .eql 9 false true (T 7) (.const (.string ⟨#[]⟩))),
  oV 9 (rmv (T 8)),
  oG 10 9 false (rmv (T 1)),
  oG 11 9 false (rbin env .eql 9 false true (T 10) (.const (.string ⟨#[]⟩))),
  oV 12 (rpick (T 9) (.const (.bool true)) (T 11))]
noncomputable abbrev c94_2 : RC := .ops [oV 13 (rmv (T 0)),
  oV 4 (rmv (T 13))]
noncomputable abbrev c94_3 : RC := .seq c94_2 .ret
noncomputable abbrev c94_4 : RC := .cond (rX 12) c94_3 .skip
noncomputable abbrev c94_5 : RC := .seq c94_1 c94_4
noncomputable abbrev c94_6 : RC := .ops [oV 14 (rmv (T 1)),
  oV 15 (rlenS (T 14)),
  oV 16 (rbin env .eql 3 false true (T 15) (K 1)),
  oV 17 (rmv (T 16)),
  oG 18 17 true (rmv (T 1)),
  oG 19 17 true (ridxS (T 18) (K 0)),
  oG 20 17 true (rbin env .lss 5 false true (T 19) (.const (.int .u8 128))),
  oV 21 (rpick (T 17) (T 20) (.const (.bool false)))]
noncomputable abbrev c94_7 : RC := .drawn true [dV 22 (rmv (T 0)),
  dV 23 (rmv (T 1)),
  dV 24 (ridxS (T 23) (K 0)),
  dV 26 (rmv (T 1)),
  dV 27 (ridxS (T 26) (K 0)),
  dC true 25 (.func 107) [(T 22), (T 24)],
  dC true 28 (.func 106) [(T 25), (T 27)],
  dV 4 (rmv (T 28))]
noncomputable abbrev c94_8 : RC := .seq c94_7 .ret
noncomputable abbrev c94_9 : RC := .cond (rX 21) c94_8 .skip
noncomputable abbrev c94_10 : RC := .seq c94_6 c94_9
noncomputable abbrev c94_11 : RC := .ops [oV 30 (rmv (T 1)),
  oC 31 (.func 108) [(T 30)],
  oV 29 (rmv (T 31)),
  oV 32 (rext (T 29) 0),
  oV 33 (rext (T 29) 1),
  oU 5 (rnew [.v (.bool false), .v (.bool false), .v (.bool false), .v (.bool false), .v (.bool false), .v (.bool false), .v (.bool false), .v (.bool false), .v (.bool false), .v (.bool false), .v (.bool false), .v (.bool false), .v (.bool false), .v (.bool false), .v (.bool false), .v (.bool false), .v (.bool false), .v (.bool false), .v (.bool false), .v (.bool false), .v (.bool false), .v (.bool false), .v (.bool false), .v (.bool false), .v (.bool false), .v (.bool false), .v (.bool false), .v (.bool false), .v (.bool false), .v (.bool false), .v (.bool false), .v (.bool false), .v (.bool false), .v (.bool false), .v (.bool false), .v (.bool false), .v (.bool false), .v (.bool false), .v (.bool false), .v (.bool false), .v (.bool false), .v (.bool false), .v (.bool false), .v (.bool false), .v (.bool false), .v (.bool false), .v (.bool false), .v (.bool false), .v (.bool false), .v (.bool false), .v (.bool false), .v (.bool false), .v (.bool false), .v (.bool false), .v (.bool false), .v (.bool false), .v (.bool false), .v (.bool false), .v (.bool false), .v (.bool false), .v (.bool false), .v (.bool false), .v (.bool false), .v (.bool false), .v (.bool false), .v (.bool false), .v (.bool false), .v (.bool false), .v (.bool false), .v (.bool false), .v (.bool false), .v (.bool false), .v (.bool false), .v (.bool false), .v (.bool false), .v (.bool false), .v (.bool false), .v (.bool false), .v (.bool false), .v (.bool false), .v (.bool false), .v (.bool false), .v (.bool false), .v (.bool false), .v (.bool false), .v (.bool false), .v (.bool false), .v (.bool false), .v (.bool false), .v (.bool false), .v (.bool false), .v (.bool false), .v (.bool false), .v (.bool false), .v (.bool false), .v (.bool false), .v (.bool false), .v (.bool false), .v (.bool false), .v (.bool false), .v (.bool false), .v (.bool false), .v (.bool false), .v (.bool false), .v (.bool false), .v (.bool false), .v (.bool false), .v (.bool false), .v (.bool false), .v (.bool false), .v (.bool false), .v (.bool false), .v (.bool false), .v (.bool false), .v (.bool false), .v (.bool false), .v (.bool false), .v (.bool false), .v (.bool false), .v (.bool false), .v (.bool false), .v (.bool false), .v (.bool false), .v (.bool false), .v (.bool false), .v (.bool false), .v (.bool false), .v (.bool false), .v (.bool false), .v (.bool false), .v (.bool false), .v (.bool false), .v (.bool false), .v (.bool false), .v (.bool false), .v (.bool false), .v (.bool false), .v (.bool false), .v (.bool false), .v (.bool false), .v (.bool false), .v (.bool false), .v (.bool false), .v (.bool false), .v (.bool false), .v (.bool false), .v (.bool false), .v (.bool false), .v (.bool false), .v (.bool false), .v (.bool false), .v (.bool false), .v (.bool false), .v (.bool false), .v (.bool false), .v (.bool false), .v (.bool false), .v (.bool false), .v (.bool false), .v (.bool false), .v (.bool false), .v (.bool false), .v (.bool false), .v (.bool false), .v (.bool false), .v (.bool false), .v (.bool false), .v (.bool false), .v (.bool false), .v (.bool false), .v (.bool false), .v (.bool false), .v (.bool false), .v (.bool false), .v (.bool false), .v (.bool false), .v (.bool false), .v (.bool false), .v (.bool false), .v (.bool false), .v (.bool false), .v (.bool false), .v (.bool false), .v (.bool false), .v (.bool false), .v (.bool false), .v (.bool false), .v (.bool false), .v (.bool false), .v (.bool false), .v (.bool false), .v (.bool false), .v (.bool false), .v (.bool false), .v (.bool false), .v (.bool false), .v (.bool false), .v (.bool false), .v (.bool false), .v (.bool false), .v (.bool false), .v (.bool false), .v (.bool false), .v (.bool false), .v (.bool false), .v (.bool false), .v (.bool false), .v (.bool false), .v (.bool false), .v (.bool false), .v (.bool false), .v (.bool false), .v (.bool false), .v (.bool false), .v (.bool false), .v (.bool false), .v (.bool false), .v (.bool false), .v (.bool false), .v (.bool false), .v (.bool false), .v (.bool false), .v (.bool false), .v (.bool false), .v (.bool false), .v (.bool false), .v (.bool false), .v (.bool false), .v (.bool false), .v (.bool false), .v (.bool false), .v (.bool false), .v (.bool false), .v (.bool false), .v (.bool false), .v (.bool false), .v (.bool false), .v (.bool false), .v (.bool false), .v (.bool false), .v (.bool false), .v (.bool false), .v (.bool false), .v (.bool false), .v (.bool false), .v (.bool false), .v (.bool false), .v (.bool false), .v (.bool false), .v (.bool false), .v (.bool false), .v (.bool false), .v (.bool false), .v (.bool false), .v (.bool false), .v (.bool false)]),
  oS (rstore 256 (T 5) (T 32)),
  oV 6 (rmv (T 33))]
noncomputable abbrev c94_12 : RC := .ops [oV 34 (rmv (T 6))]
noncomputable abbrev c94_13 : RC := .ops [oV 35 (rmv (T 0)),
  oC 36 (.func 110) [(T 35), (T 5)],
  oC 37 (.func 109) [(T 36), (T 5)],
  oV 4 (rmv (T 37))]
noncomputable abbrev c94_14 : RC := .seq c94_13 .ret
noncomputable abbrev c94_15 : RC := .cond (rX 34) c94_14 .skip
noncomputable abbrev c94_16 : RC := .seq c94_12 c94_15
noncomputable abbrev c94_17 : RC := .seq c94_11 c94_16
noncomputable abbrev c94_18 : RC := .ops [oV 38 (rmv (T 0)),
  oV 39 (rmv (T 1)),
  oC 40 (.func 112) [(T 38), (T 39)],
  oV 41 (rmv (T 1)),
  oC 42 (.func 111) [(T 40), (T 41)],
  oV 4 (rmv (T 42))]
noncomputable abbrev c94_19 : RC := .seq c94_18 .ret
noncomputable abbrev c94_20 : RC := .seq c94_17 c94_19
noncomputable abbrev c94_21 : RC := .seq c94_10 c94_20
noncomputable abbrev c94_22 : RC := .seq c94_5 c94_21
noncomputable abbrev c94_23 : RC := .seq c94_0 c94_22
theorem fn94 : env.fn 94 = some ⟨43, [.tmp 4], body94⟩ := by kernel_rfl
theorem comp94 : comp env body94 = c94_23 := by kernel_rfl

/-! ### strings.ContainsFunc -/
noncomputable def body95 : Code := match Tryd.f95.body with | some c => c | none => .skip
noncomputable abbrev c95_0 : RC := .ops [oV 4 (rmv (.const (.bool false)))]
noncomputable abbrev c95_1 : RC := .ops [oV 5 (rmv (T 0)),
  oV 6 (rmv (T 1)),
  oC 7 (.func 113) [(T 5), (T 6)],
  oV 8 (rbin env .geq 3 false true (T 7) (K 0)),
  oV 4 (rmv (T 8))]
noncomputable abbrev c95_2 : RC := .seq c95_1 .ret
noncomputable abbrev c95_3 : RC := .seq c95_0 c95_2
theorem fn95 : env.fn 95 = some ⟨9, [.tmp 4], body95⟩ := by kernel_rfl
theorem comp95 : comp env body95 = c95_3 := by kernel_rfl

/-! ### tributary/path.part$1 -/
noncomputable def body96 : Code := match Tryd.f96.body with | some c => c | none => .skip
noncomputable abbrev c96_0 : RC := .ops [oV 2 (rmv (.const (.bool false)))]
noncomputable abbrev c96_1 : RC := .ops [oV 3 (rmv (T 0)),
  oC 4 (.func 97) [(.const (.string ⟨#[97, 98, 99, 100, 101, 102, 103, 104, 105, 106, 107, 108, 109, 110, 111, 112, 113, 114, 115, 116, 117, 118, 119, 120, 121, 122, 48, 49, 50, 51, 52, 53, 54, 55, 56, 57, 46, 95, 45]⟩)), (T 3)],
  oV 5 (run' .not (T 4)),
  oV 2 (rmv (T 5))]
noncomputable abbrev c96_2 : RC := .seq c96_1 .ret
noncomputable abbrev c96_3 : RC := .seq c96_0 c96_2
theorem fn96 : env.fn 96 = some ⟨6, [.tmp 2], body96⟩ := by kernel_rfl
theorem comp96 : comp env body96 = c96_3 := by kernel_rfl

/-! ### strings.ContainsRune -/
noncomputable def body97 : Code := match Tryd.f97.body with | some c => c | none => .skip
noncomputable abbrev c97_0 : RC := .ops [oV 4 (rmv (.const (.bool false)))]
noncomputable abbrev c97_1 : RC := .ops [oV 5 (rmv (T 0)),
  oV 6 (rmv (T 1)),
  oC 7 (.func 114) [(T 5), (T 6)],
  oV 8 (rbin env .geq 3 false true (T 7) (K 0)),
  oV 4 (rmv (T 8))]
noncomputable abbrev c97_2 : RC := .seq c97_1 .ret
noncomputable abbrev c97_3 : RC := .seq c97_0 c97_2
theorem fn97 : env.fn 97 = some ⟨9, [.tmp 4], body97⟩ := by kernel_rfl
theorem comp97 : comp env body97 = c97_3 := by kernel_rfl

/-! ### slices.Grow[[]byte,byte] -/
noncomputable def body98 : Code := match Tryd.f98.body with | some c => c | none => .skip
noncomputable abbrev c98_0 : RC := .ops [oV 4 (rmv (.const (.slice none 0 0)))]
noncomputable abbrev c98_1 : RC := .ops [oV 5 (rmv (T 1)),
  oV 6 (rbin env .lss 3 false true (T 5) (K 0))]
noncomputable abbrev c98_2 : RC := comp env (subc [1, 0, 1, 0] body98)
noncomputable abbrev c98_3 : RC := .cond (rX 6) c98_2 .skip
noncomputable abbrev c98_4 : RC := .seq c98_1 c98_3
noncomputable abbrev c98_5 : RC := comp env (subc [1, 1, 0, 0] body98)
noncomputable abbrev c98_6 : RC := .ops [oV 15 (rmv (T 1)),
  oV 16 (rbin env .gtr 3 false true (T 15) (K 0))]
noncomputable abbrev c98_7 : RC := comp env (subc [1, 1, 0, 1, 1, 0] body98)
noncomputable abbrev c98_8 : RC := .cond (rX 16) c98_7 .skip
noncomputable abbrev c98_9 : RC := .seq c98_6 c98_8
noncomputable abbrev c98_10 : RC := .seq c98_5 c98_9
noncomputable abbrev c98_11 : RC := .ops [oV 26 (rmv (T 0)),
  oV 4 (rmv (T 26))]
noncomputable abbrev c98_12 : RC := .seq c98_11 .ret
noncomputable abbrev c98_13 : RC := .seq c98_10 c98_12
noncomputable abbrev c98_14 : RC := .seq c98_4 c98_13
noncomputable abbrev c98_15 : RC := .seq c98_0 c98_14
theorem fn98 : env.fn 98 = some ⟨27, [.tmp 4], body98⟩ := by kernel_rfl
theorem comp98 : comp env body98 = c98_15 := by kernel_rfl

/-! ### math/bits.Len64 -/
noncomputable def body99 : Code := match Tryd.f99.body with | some c => c | none => .skip
noncomputable abbrev c99_0 : RC := .ops [oV 2 (rmv (K 0))]
noncomputable abbrev c99_1 : RC := .ops [oV 3 (rmv (T 0)),
  oV 4 (rbin env .geq 148 false true (T 3) (.const (.int .u64 4294967296)))]
noncomputable abbrev c99_2 : RC := .ops [oV 5 (rmv (T 0)),
  oV 6 (rbin env .shr 148 false true (T 5) (.const (.int .u64 32))),
  oV 0 (rmv (T 6))]
noncomputable abbrev c99_3 : RC := .ops [oV 2 (rmv (K 32))]
noncomputable abbrev c99_4 : RC := .seq c99_2 c99_3
noncomputable abbrev c99_5 : RC := .cond (rX 4) c99_4 .skip
noncomputable abbrev c99_6 : RC := .seq c99_1 c99_5
noncomputable abbrev c99_7 : RC := .ops [oV 7 (rmv (T 0)),
  oV 8 (rbin env .geq 148 false true (T 7) (.const (.int .u64 65536)))]
noncomputable abbrev c99_8 : RC := .ops [oV 9 (rmv (T 0)),
  oV 10 (rbin env .shr 148 false true (T 9) (.const (.int .u64 16))),
  oV 0 (rmv (T 10))]
noncomputable abbrev c99_9 : RC := .ops [oV 11 (rmv (T 2)),
  oV 12 (rbin env .add 3 false true (T 11) (K 16)),
  oV 2 (rmv (T 12))]
noncomputable abbrev c99_10 : RC := .seq c99_8 c99_9
noncomputable abbrev c99_11 : RC := .cond (rX 8) c99_10 .skip
noncomputable abbrev c99_12 : RC := .seq c99_7 c99_11
noncomputable abbrev c99_13 : RC := .ops [oV 13 (rmv (T 0)),
  oV 14 (rbin env .geq 148 false true (T 13) (.const (.int .u64 256)))]
noncomputable abbrev c99_14 : RC := .ops [oV 15 (rmv (T 0)),
  oV 16 (rbin env .shr 148 false true (T 15) (.const (.int .u64 8))),
  oV 0 (rmv (T 16))]
noncomputable abbrev c99_15 : RC := .ops [oV 17 (rmv (T 2)),
  oV 18 (rbin env .add 3 false true (T 17) (K 8)),
  oV 2 (rmv (T 18))]
noncomputable abbrev c99_16 : RC := .seq c99_14 c99_15
noncomputable abbrev c99_17 : RC := .cond (rX 14) c99_16 .skip
noncomputable abbrev c99_18 : RC := .seq c99_13 c99_17
noncomputable abbrev c99_19 : RC := .ops [oV 19 (rmv (T 2)),
  oV 20 (rmv (T 0)),
  oU 21 (rconvI .u8 (T 20)),
  oV 22 (ridxS (.const (.string ⟨#[0, 1, 2, 2, 3, 3, 3, 3, 4, 4, 4, 4, 4, 4, 4, 4, 5, 5, 5, 5, 5, 5, 5, 5, 5, 5, 5, 5, 5, 5, 5, 5, 6, 6, 6, 6, 6, 6, 6, 6, 6, 6, 6, 6, 6, 6, 6, 6, 6, 6, 6, 6, 6, 6, 6, 6, 6, 6, 6, 6, 6, 6, 6, 6, 7, 7, 7, 7, 7, 7, 7, 7, 7, 7, 7, 7, 7, 7, 7, 7, 7, 7, 7, 7, 7, 7, 7, 7, 7, 7, 7, 7, 7, 7, 7, 7, 7, 7, 7, 7, 7, 7, 7, 7, 7, 7, 7, 7, 7, 7, 7, 7, 7, 7, 7, 7, 7, 7, 7, 7, 7, 7, 7, 7, 7, 7, 7, 7, 8, 8, 8, 8, 8, 8, 8, 8, 8, 8, 8, 8, 8, 8, 8, 8, 8, 8, 8, 8, 8, 8, 8, 8, 8, 8, 8, 8, 8, 8, 8, 8, 8, 8, 8, 8, 8, 8, 8, 8, 8, 8, 8, 8, 8, 8, 8, 8, 8, 8, 8, 8, 8, 8, 8, 8, 8, 8, 8, 8, 8, 8, 8, 8, 8, 8, 8, 8, 8, 8, 8, 8, 8, 8, 8, 8, 8, 8, 8, 8, 8, 8, 8, 8, 8, 8, 8, 8, 8, 8, 8, 8, 8, 8, 8, 8, 8, 8, 8, 8, 8, 8, 8, 8, 8, 8, 8, 8, 8, 8, 8, 8, 8, 8, 8, 8, 8, 8, 8, 8, 8, 8, 8, 8, 8, 8, 8, 8]⟩)) (T 21)),
  oU 23 (rconvI .i64 (T 22)),
  oV 24 (rbin env .add 3 false false (T 19) (T 23)),
  oV 2 (rmv (T 24))]
noncomputable abbrev c99_20 : RC := .seq c99_19 .ret
noncomputable abbrev c99_21 : RC := .seq c99_18 c99_20
noncomputable abbrev c99_22 : RC := .seq c99_12 c99_21
noncomputable abbrev c99_23 : RC := .seq c99_6 c99_22
noncomputable abbrev c99_24 : RC := .seq c99_0 c99_23
theorem fn99 : env.fn 99 = some ⟨25, [.tmp 2], body99⟩ := by kernel_rfl
theorem comp99 : comp env body99 = c99_24 := by kernel_rfl

/-! ### tributary/past.head -/
noncomputable def body100 : Code := match Tryd.f100.body with | some c => c | none => .skip
noncomputable abbrev c100_0 : RC := .ops [oU 4 (rnew [.v (.int .i64 0), .v (.int .i64 0), .v (.int .i64 0)]),
  oV 5 (rmv (.const (.bool false)))]
noncomputable abbrev c100_1 : RC := .ops [oV 6 (rmv (T 0)),
  oV 7 (rlen (T 6)),
  oV 8 (rbin env .eql 3 false true (T 7) (K 0)),
  oV 9 (rmv (T 8)),
  oG 10 9 false (rmv (T 0)),
  oG 11 9 false (riaddr 3 (T 10) (K 0)),
  oG 12 9 false (rfaddr 0 (T 11)),
  oG 13 9 false (rload false 1 (T 12)),
  oG 14 9 false (rmv (T 1)),
  oG 15 9 false (rbin env .neq 3 false false (T 13) (T 14)),
  oV 16 (rpick (T 9) (.const (.bool true)) (T 15))]
noncomputable abbrev c100_2 : RC := .ops [oV 17 (rbuild [.v (.int .i64 0), .v (.int .i64 0), .v (.int .i64 0)] [(0, 1), (1, 1), (2, 1)] []),
  oS (rstore 3 (T 4) (T 17)),
  oV 5 (rmv (.const (.bool false)))]
noncomputable abbrev c100_3 : RC := .seq c100_2 .ret
noncomputable abbrev c100_4 : RC := .cond (rX 16) c100_3 .skip
noncomputable abbrev c100_5 : RC := .seq c100_1 c100_4
noncomputable abbrev c100_6 : RC := .ops [oV 18 (rmv (T 0)),
  oV 19 (riaddr 3 (T 18) (K 0)),
  oV 20 (rload true 3 (T 19)),
  oS (rstore 3 (T 4) (T 20)),
  oV 5 (rmv (.const (.bool true)))]
noncomputable abbrev c100_7 : RC := .seq c100_6 .ret
noncomputable abbrev c100_8 : RC := .seq c100_5 c100_7
noncomputable abbrev c100_9 : RC := .seq c100_0 c100_8
theorem fn100 : env.fn 100 = some ⟨21, [.cell 4 79, .tmp 5], body100⟩ := by kernel_rfl
theorem comp100 : comp env body100 = c100_9 := by kernel_rfl

/-! ### (*tributary/past.sweep).add -/
noncomputable def body101 : Code := match Tryd.f101.body with | some c => c | none => .skip
noncomputable abbrev c101_0 : RC := .ops [oU 3 (rbox (T 1))]
noncomputable abbrev c101_1 : RC := .ops [oV 6 (rmv (T 0)),
  oV 7 (rnil (T 6)),
  oV 8 (rfaddr 3 (T 7)),
  oV 9 (rload false 1 (T 8)),
  oV 10 (rlen (T 9)),
  oV 4 (rmv (T 10))]
noncomputable abbrev c101_2 : RC := .ops [oV 11 (rmv (T 4)),
  oV 12 (rbin env .gtr 3 false true (T 11) (K 0))]
noncomputable abbrev c101_3 : RC := .ops [oV 13 (rmv (T 0)),
  oV 14 (rnil (T 13)),
  oV 15 (rfaddr 3 (T 14)),
  oV 16 (rload false 1 (T 15)),
  oV 17 (rmv (T 4)),
  oV 18 (rbin env .sub 3 false true (T 17) (K 1)),
  oV 19 (riaddr 3 (T 16) (T 18)),
  oV 5 (rmv (T 19))]
noncomputable abbrev c101_4 : RC := .drawn true [dV 20 (rmv (T 5)),
  dV 21 (rnil (T 20)),
  dV 22 (rfaddr 0 (T 21)),
  dV 23 (rload false 1 (T 22)),
  dV 24 (rfaddr 0 (T 3)),
  dV 25 (rload false 1 (T 24)),
  dV 26 (rbin env .eql 3 false false (T 23) (T 25)),
  dV 27 (rmv (T 26)),
  dG 28 27 true (rmv (T 5)),
  dG 29 27 true (rnil (T 28)),
  dG 30 27 true (rfaddr 2 (T 29)),
  dG 31 27 true (rload false 1 (T 30)),
  dG 32 27 true (rbin env .add 3 false true (T 31) (K 1)),
  dG 33 27 true (rfaddr 1 (T 3)),
  dG 34 27 true (rload false 1 (T 33)),
  dG 35 27 true (rbin env .eql 3 false false (T 32) (T 34)),
  dV 36 (rpick (T 27) (T 35) (.const (.bool false)))]
noncomputable abbrev c101_5 : RC := .ops [oV 37 (rmv (T 5)),
  oV 38 (rfaddr 2 (T 3)),
  oV 39 (rload false 1 (T 38)),
  oV 40 (rnil (T 37)),
  oV 41 (rfaddr 2 (T 40)),
  oS (rstore 1 (T 41) (T 39))]
noncomputable abbrev c101_6 : RC := .seq c101_5 .ret
noncomputable abbrev c101_7 : RC := .cond (rX 36) c101_6 .skip
noncomputable abbrev c101_8 : RC := .seq c101_4 c101_7
noncomputable abbrev c101_9 : RC := .seq c101_3 c101_8
noncomputable abbrev c101_10 : RC := .cond (rX 12) c101_9 .skip
noncomputable abbrev c101_11 : RC := .seq c101_2 c101_10
noncomputable abbrev c101_12 : RC := .seq c101_1 c101_11
noncomputable abbrev c101_13 : RC := .drawn true [dV 42 (rmv (T 0)),
  dV 43 (rmv (T 0)),
  dV 44 (rnil (T 43)),
  dV 45 (rfaddr 3 (T 44)),
  dV 46 (rload false 1 (T 45)),
  dV 47 (rload true 3 (T 3)),
  dU 48 (rbuildL 3 1 [.v (.int .i64 0), .v (.int .i64 0), .v (.int .i64 0)] [(0, (T 47))]),
  dU 49 (rappend 3 24 3 (T 46) (T 48)),
  dV 50 (rnil (T 42)),
  dV 51 (rfaddr 3 (T 50)),
  dS (rstore 1 (T 51) (T 49))]
noncomputable abbrev c101_14 : RC := .seq c101_12 c101_13
noncomputable abbrev c101_15 : RC := .seq c101_0 c101_14
theorem fn101 : env.fn 101 = some ⟨52, [], body101⟩ := by kernel_rfl
theorem comp101 : comp env body101 = c101_15 := by kernel_rfl

/-! ### tributary/past.behind -/
noncomputable def body102 : Code := match Tryd.f102.body with | some c => c | none => .skip
noncomputable abbrev c102_0 : RC := .ops [oV 4 (rmv (.const (.slice none 0 0)))]
noncomputable abbrev c102_1 : RC := .ops [oV 5 (rmv (T 0)),
  oV 6 (riaddr 3 (T 5) (K 0)),
  oV 7 (rfaddr 2 (T 6)),
  oV 8 (rload false 1 (T 7)),
  oV 9 (rmv (T 1)),
  oV 10 (rbin env .eql 3 false false (T 8) (T 9))]
noncomputable abbrev c102_2 : RC := .ops [oV 11 (rmv (T 0)),
  oV 12 (rsliceL 3 (T 11) (some (K 1)) none none),
  oV 4 (rmv (T 12))]
noncomputable abbrev c102_3 : RC := .seq c102_2 .ret
noncomputable abbrev c102_4 : RC := .cond (rX 10) c102_3 .skip
noncomputable abbrev c102_5 : RC := .seq c102_1 c102_4
noncomputable abbrev c102_6 : RC := .ops [oV 13 (rmv (T 0)),
  oV 14 (rmv (T 1)),
  oV 15 (rbin env .add 3 false true (T 14) (K 1)),
  oV 16 (riaddr 3 (T 13) (K 0)),
  oV 17 (rfaddr 1 (T 16)),
  oS (rstore 1 (T 17) (T 15))]
noncomputable abbrev c102_7 : RC := .ops [oV 18 (rmv (T 0)),
  oV 4 (rmv (T 18))]
noncomputable abbrev c102_8 : RC := .seq c102_7 .ret
noncomputable abbrev c102_9 : RC := .seq c102_6 c102_8
noncomputable abbrev c102_10 : RC := .seq c102_5 c102_9
noncomputable abbrev c102_11 : RC := .seq c102_0 c102_10
theorem fn102 : env.fn 102 = some ⟨19, [.tmp 4], body102⟩ := by kernel_rfl
theorem comp102 : comp env body102 = c102_11 := by kernel_rfl

/-! ### strings.splitSeq$1 -/
noncomputable def body103 : Code := match Tryd.f103.body with | some c => c | none => .skip
noncomputable abbrev c103_0 : RC := .ops [oV 9 (rload false 1 (T 1)),
  oV 10 (rlenS (T 9)),
  oV 11 (rbin env .eql 3 false true (T 10) (K 0))]
noncomputable abbrev c103_1 : RC := .ops [oV 12 (rload false 1 (T 2)),
  oV 13 (rlenS (T 12)),
  oV 14 (rbin env .gtr 3 false true (T 13) (K 0))]
noncomputable abbrev c103_2 : RC := .cond (rX 14) .skip (.exit 0)
noncomputable abbrev c103_3 : RC := .seq c103_1 c103_2
noncomputable abbrev c103_4 : RC := .ops [oV 16 (rload false 1 (T 2)),
  oC 17 (.func 104) [(T 16)],
  oV 15 (rmv (T 17)),
  oV 18 (rext (T 15) 0),
  oV 19 (rext (T 15) 1),
  oV 5 (rmv (T 18)),
  oV 6 (rmv (T 19))]
noncomputable abbrev c103_5 : RC := .ops [oV 20 (rmv (T 0)),
  oV 21 (rload false 1 (T 2)),
  oV 22 (rmv (T 6)),
  oV 23 (rsliceS (T 21) none (some (T 22))),
  oC 24 (T 20) [(T 23)],
  oV 25 (run' .not (T 24))]
noncomputable abbrev c103_6 : RC := .cond (rX 25) .ret .skip
noncomputable abbrev c103_7 : RC := .seq c103_5 c103_6
noncomputable abbrev c103_8 : RC := .ops [oV 26 (rload false 1 (T 2)),
  oV 27 (rmv (T 6)),
  oV 28 (rsliceS (T 26) (some (T 27)) none),
  oS (rstore 1 (T 2) (T 28))]
noncomputable abbrev c103_9 : RC := .seq c103_7 c103_8
noncomputable abbrev c103_10 : RC := .seq c103_4 c103_9
noncomputable abbrev c103_11 : RC := .block 1 c103_10
noncomputable abbrev c103_12 : RC := .seq c103_3 c103_11
noncomputable abbrev c103_13 : RC := .loop c103_12
noncomputable abbrev c103_14 : RC := .block 0 c103_13
noncomputable abbrev c103_15 : RC := .seq c103_14 .ret
noncomputable abbrev c103_16 : RC := .cond (rX 11) c103_15 .skip
noncomputable abbrev c103_17 : RC := .seq c103_0 c103_16
noncomputable abbrev c103_18 : RC := .ops [oV 29 (rload false 1 (T 2)),
  oV 30 (rload false 1 (T 1)),
  oC 31 (.func 105) [(T 29), (T 30)],
  oV 7 (rmv (T 31))]
noncomputable abbrev c103_19 : RC := .ops [oV 32 (rmv (T 7)),
  oV 33 (rbin env .lss 3 false true (T 32) (K 0))]
noncomputable abbrev c103_20 : RC := .cond (rX 33) (.exit 2) .skip
noncomputable abbrev c103_21 : RC := .seq c103_19 c103_20
noncomputable abbrev c103_22 : RC := .ops [oV 34 (rload false 1 (T 2)),
  oV 35 (rmv (T 7)),
  oV 36 (rload false 1 (T 3)),
  oV 37 (rbin env .add 3 false false (T 35) (T 36)),
  oV 38 (rsliceS (T 34) none (some (T 37))),
  oV 8 (rmv (T 38))]
noncomputable abbrev c103_23 : RC := .ops [oV 39 (rmv (T 0)),
  oV 40 (rmv (T 8)),
  oC 41 (T 39) [(T 40)],
  oV 42 (run' .not (T 41))]
noncomputable abbrev c103_24 : RC := .cond (rX 42) .ret .skip
noncomputable abbrev c103_25 : RC := .seq c103_23 c103_24
noncomputable abbrev c103_26 : RC := .ops [oV 43 (rload false 1 (T 2)),
  oV 44 (rmv (T 7)),
  oV 45 (rload false 1 (T 1)),
  oV 46 (rlenS (T 45)),
  oV 47 (rbin env .add 3 false false (T 44) (T 46)),
  oV 48 (rsliceS (T 43) (some (T 47)) none),
  oS (rstore 1 (T 2) (T 48))]
noncomputable abbrev c103_27 : RC := .seq c103_25 c103_26
noncomputable abbrev c103_28 : RC := .seq c103_22 c103_27
noncomputable abbrev c103_29 : RC := .seq c103_21 c103_28
noncomputable abbrev c103_30 : RC := .seq c103_18 c103_29
noncomputable abbrev c103_31 : RC := .block 3 c103_30
noncomputable abbrev c103_32 : RC := .loop c103_31
noncomputable abbrev c103_33 : RC := .block 2 c103_32
noncomputable abbrev c103_34 : RC := .ops [oV 49 (rmv (T 0)),
  oV 50 (rload false 1 (T 2)),
  oC 51 (T 49) [(T 50)]]
noncomputable abbrev c103_35 : RC := .seq c103_33 c103_34
noncomputable abbrev c103_36 : RC := .seq c103_17 c103_35
theorem fn103 : env.fn 103 = some ⟨52, [], body103⟩ := by kernel_rfl
theorem comp103 : comp env body103 = c103_36 := by kernel_rfl

/-! ### unicode/utf8.DecodeRuneInString -/
noncomputable def body104 : Code := match Tryd.f104.body with | some c => c | none => .skip
noncomputable abbrev c104_0 : RC := .ops [oV 2 (rmv (.const (.int .i32 0))),
  oV 3 (rmv (K 0))]
noncomputable abbrev c104_1 : RC := .ops [oV 4 (rmv (T 0)),
  oV 5 (rbin env .neq 9 false true (T 4) (.const (.string ⟨#[]⟩))),
  oV 6 (rmv (T 5)),
  oG 7 6 true (rmv (T 0)),
  oG 8 6 true (ridxS (T 7) (K 0)),
  oG 9 6 true (rbin env .lss 5 false true (T 8) (.const (.int .u8 128))),
  oV 10 (rpick (T 6) (T 9) (.const (.bool false)))]
noncomputable abbrev c104_2 : RC := .ops [oV 11 (rmv (T 0)),
  oV 12 (ridxS (T 11) (K 0)),
  oU 13 (rconvI .i32 (T 12)),
  oV 2 (rmv (T 13)),
  oV 3 (rmv (K 1))]
noncomputable abbrev c104_3 : RC := .seq c104_2 .ret
noncomputable abbrev c104_4 : RC := .ops [oV 15 (rmv (T 0)),
  oC 16 (.func 115) [(T 15)],
  oV 14 (rmv (T 16)),
  oV 17 (rext (T 14) 0),
  oV 18 (rext (T 14) 1),
  oV 2 (rmv (T 17)),
  oV 3 (rmv (T 18))]
noncomputable abbrev c104_5 : RC := .cond (rX 10) c104_3 c104_4
noncomputable abbrev c104_6 : RC := .seq c104_1 c104_5
noncomputable abbrev c104_7 : RC := .seq c104_6 .ret
noncomputable abbrev c104_8 : RC := .seq c104_0 c104_7
theorem fn104 : env.fn 104 = some ⟨19, [.tmp 2, .tmp 3], body104⟩ := by kernel_rfl
theorem comp104 : comp env body104 = c104_8 := by kernel_rfl

/-! ### strings.Index -/
noncomputable def body105 : Code := match Tryd.f105.body with | some c => c | none => .skip
noncomputable abbrev c105_0 : RC := .ops [oV 4 (rmv (K 0))]
noncomputable abbrev c105_1 : RC := .ops [oV 5 (rmv (T 0)),
  oV 6 (rmv (T 1)),
  oC 7 (.func 116) [(T 5), (T 6)],
  oV 4 (rmv (T 7))]
noncomputable abbrev c105_2 : RC := .seq c105_1 .ret
noncomputable abbrev c105_3 : RC := .seq c105_0 c105_2
theorem fn105 : env.fn 105 = some ⟨8, [.tmp 4], body105⟩ := by kernel_rfl
theorem comp105 : comp env body105 = c105_3 := by kernel_rfl

/-! ### strings.trimLeftByte -/
noncomputable def body106 : Code := match Tryd.f106.body with | some c => c | none => .skip
noncomputable abbrev c106_0 : RC := .ops [oV 4 (rmv (.const (.string ⟨#[]⟩)))]
noncomputable abbrev c106_1 : RC := .ops [oV 5 (rmv (T 0)),
  oV 6 (rlenS (T 5)),
  oV 7 (rbin env .gtr 3 false true (T 6) (K 0)),
  oV 8 (rmv (T 7)),
  oG 9 8 true (rmv (T 0)),
  oG 10 8 true (ridxS (T 9) (K 0)),
  oG 11 8 true (rmv (T 1)),
  oG 12 8 true (rbin env .eql 5 false false (T 10) (T 11)),
  oV 13 (rpick (T 8) (T 12) (.const (.bool false)))]
noncomputable abbrev c106_2 : RC := .cond (rX 13) .skip (.exit 0)
noncomputable abbrev c106_3 : RC := .seq c106_1 c106_2
noncomputable abbrev c106_4 : RC := .ops [oV 14 (rmv (T 0)),
  oV 15 (rsliceS (T 14) (some (K 1)) none),
  oV 0 (rmv (T 15))]
noncomputable abbrev c106_5 : RC := .block 1 c106_4
noncomputable abbrev c106_6 : RC := .seq c106_3 c106_5
noncomputable abbrev c106_7 : RC := .loop c106_6
noncomputable abbrev c106_8 : RC := .block 0 c106_7
noncomputable abbrev c106_9 : RC := .ops [oV 16 (rmv (T 0)),
  oV 4 (rmv (T 16))]
noncomputable abbrev c106_10 : RC := .seq c106_9 .ret
noncomputable abbrev c106_11 : RC := .seq c106_8 c106_10
noncomputable abbrev c106_12 : RC := .seq c106_0 c106_11
theorem fn106 : env.fn 106 = some ⟨17, [.tmp 4], body106⟩ := by kernel_rfl
theorem comp106 : comp env body106 = c106_12 := by kernel_rfl

/-! ### strings.trimRightByte -/
noncomputable def body107 : Code := match Tryd.f107.body with | some c => c | none => .skip
noncomputable abbrev c107_0 : RC := .ops [oV 4 (rmv (.const (.string ⟨#[]⟩)))]
noncomputable abbrev c107_1 : RC := .ops [oV 5 (rmv (T 0)),
  oV 6 (rlenS (T 5)),
  oV 7 (rbin env .gtr 3 false true (T 6) (K 0)),
  oV 8 (rmv (T 7)),
  oG 9 8 true (rmv (T 0)),
  oG 10 8 true (rmv (T 0)),
  oG 11 8 true (rlenS (T 10)),
  oG 12 8 true (rbin env .sub 3 false true (T 11) (K 1)),
  oG 13 8 true (ridxS (T 9) (T 12)),
  oG 14 8 true (rmv (T 1)),
  oG 15 8 true (rbin env .eql 5 false false (T 13) (T 14)),
  oV 16 (rpick (T 8) (T 15) (.const (.bool false)))]
noncomputable abbrev c107_2 : RC := .cond (rX 16) .skip (.exit 0)
noncomputable abbrev c107_3 : RC := .seq c107_1 c107_2
noncomputable abbrev c107_4 : RC := .ops [oV 17 (rmv (T 0)),
  oV 18 (rmv (T 0)),
  oV 19 (rlenS (T 18)),
  oV 20 (rbin env .sub 3 false true (T 19) (K 1)),
  oV 21 (rsliceS (T 17) none (some (T 20))),
  oV 0 (rmv (T 21))]
noncomputable abbrev c107_5 : RC := .block 1 c107_4
noncomputable abbrev c107_6 : RC := .seq c107_3 c107_5
noncomputable abbrev c107_7 : RC := .loop c107_6
noncomputable abbrev c107_8 : RC := .block 0 c107_7
noncomputable abbrev c107_9 : RC := .ops [oV 22 (rmv (T 0)),
  oV 4 (rmv (T 22))]
noncomputable abbrev c107_10 : RC := .seq c107_9 .ret
noncomputable abbrev c107_11 : RC := .seq c107_8 c107_10
noncomputable abbrev c107_12 : RC := .seq c107_0 c107_11
theorem fn107 : env.fn 107 = some ⟨23, [.tmp 4], body107⟩ := by kernel_rfl
theorem comp107 : comp env body107 = c107_12 := by kernel_rfl

/-! ### strings.makeASCIISet -/
noncomputable def body108 : Code := match Tryd.f108.body with | some c => c | none => .skip
noncomputable abbrev c108_0 : RC := .ops [oU 2 (rnew [.v (.bool false), .v (.bool false), .v (.bool false), .v (.bool false), .v (.bool false), .v (.bool false), .v (.bool false), .v (.bool false), .v (.bool false), .v (.bool false), .v (.bool false), .v (.bool false), .v (.bool false), .v (.bool false), .v (.bool false), .v (.bool false), .v (.bool false), .v (.bool false), .v (.bool false), .v (.bool false), .v (.bool false), .v (.bool false), .v (.bool false), .v (.bool false), .v (.bool false), .v (.bool false), .v (.bool false), .v (.bool false), .v (.bool false), .v (.bool false), .v (.bool false), .v (.bool false), .v (.bool false), .v (.bool false), .v (.bool false), .v (.bool false), .v (.bool false), .v (.bool false), .v (.bool false), .v (.bool false), .v (.bool false), .v (.bool false), .v (.bool false), .v (.bool false), .v (.bool false), .v (.bool false), .v (.bool false), .v (.bool false), .v (.bool false), .v (.bool false), .v (.bool false), .v (.bool false), .v (.bool false), .v (.bool false), .v (.bool false), .v (.bool false), .v (.bool false), .v (.bool false), .v (.bool false), .v (.bool false), .v (.bool false), .v (.bool false), .v (.bool false), .v (.bool false), .v (.bool false), .v (.bool false), .v (.bool false), .v (.bool false), .v (.bool false), .v (.bool false), .v (.bool false), .v (.bool false), .v (.bool false), .v (.bool false), .v (.bool false), .v (.bool false), .v (.bool false), .v (.bool false), .v (.bool false), .v (.bool false), .v (.bool false), .v (.bool false), .v (.bool false), .v (.bool false), .v (.bool false), .v (.bool false), .v (.bool false), .v (.bool false), .v (.bool false), .v (.bool false), .v (.bool false), .v (.bool false), .v (.bool false), .v (.bool false), .v (.bool false), .v (.bool false), .v (.bool false), .v (.bool false), .v (.bool false), .v (.bool false), .v (.bool false), .v (.bool false), .v (.bool false), .v (.bool false), .v (.bool false), .v (.bool false), .v (.bool false), .v (.bool false), .v (.bool false), .v (.bool false), .v (.bool false), .v (.bool false), .v (.bool false), .v (.bool false), .v (.bool false), .v (.bool false), .v (.bool false), .v (.bool false), .v (.bool false), .v (.bool false), .v (.bool false), .v (.bool false), .v (.bool false), .v (.bool false), .v (.bool false), .v (.bool false), .v (.bool false), .v (.bool false), .v (.bool false), .v (.bool false), .v (.bool false), .v (.bool false), .v (.bool false), .v (.bool false), .v (.bool false), .v (.bool false), .v (.bool false), .v (.bool false), .v (.bool false), .v (.bool false), .v (.bool false), .v (.bool false), .v (.bool false), .v (.bool false), .v (.bool false), .v (.bool false), .v (.bool false), .v (.bool false), .v (.bool false), .v (.bool false), .v (.bool false), .v (.bool false), .v (.bool false), .v (.bool false), .v (.bool false), .v (.bool false), .v (.bool false), .v (.bool false), .v (.bool false), .v (.bool false), .v (.bool false), .v (.bool false), .v (.bool false), .v (.bool false), .v (.bool false), .v (.bool false), .v (.bool false), .v (.bool false), .v (.bool false), .v (.bool false), .v (.bool false), .v (.bool false), .v (.bool false), .v (.bool false), .v (.bool false), .v (.bool false), .v (.bool false), .v (.bool false), .v (.bool false), .v (.bool false), .v (.bool false), .v (.bool false), .v (.bool false), .v (.bool false), .v (.bool false), .v (.bool false), .v (.bool false), .v (.bool false), .v (.bool false), .v (.bool false), .v (.bool false), .v (.bool false), .v (.bool false), .v (.bool false), .v (.bool false), .v (.bool false), .v (.bool false), .v (.bool false), .v (.bool false), .v (.bool false), .v (.bool false), .v (.bool false), .v (.bool false), .v (.bool false), .v (.bool false), .v (.bool false), .v (.bool false), .v (.bool false), .v (.bool false), .v (.bool false), .v (.bool false), .v (.bool false), .v (.bool false), .v (.bool false), .v (.bool false), .v (.bool false), .v (.bool false), .v (.bool false), .v (.bool false), .v (.bool false), .v (.bool false), .v (.bool false), .v (.bool false), .v (.bool false), .v (.bool false), .v (.bool false), .v (.bool false), .v (.bool false), .v (.bool false), .v (.bool false), .v (.bool false), .v (.bool false), .v (.bool false), .v (.bool false), .v (.bool false), .v (.bool false), .v (.bool false), .v (.bool false), .v (.bool false), .v (.bool false), .v (.bool false), .v (.bool false), .v (.bool false), .v (.bool false), .v (.bool false), .v (.bool false), .v (.bool false), .v (.bool false), .v (.bool false), .v (.bool false), .v (.bool false), .v (.bool false), .v (.bool false), .v (.bool false), .v (.bool false), .v (.bool false)]),
  oV 3 (rmv (.const (.bool false)))]
noncomputable abbrev c108_1 : RC := .ops [oV 4 (rmv (K 0))]
noncomputable abbrev c108_2 : RC := .ops [oV 6 (rmv (T 4)),
  oV 7 (rmv (T 0)),
  oV 8 (rlenS (T 7)),
  oV 9 (rbin env .lss 3 false false (T 6) (T 8))]
noncomputable abbrev c108_3 : RC := .cond (rX 9) .skip (.exit 0)
noncomputable abbrev c108_4 : RC := .seq c108_2 c108_3
noncomputable abbrev c108_5 : RC := .ops [oV 12 (rmv (T 0)),
  oV 13 (rmv (T 4)),
  oV 14 (ridxS (T 12) (T 13)),
  oV 5 (rmv (T 14))]
noncomputable abbrev c108_6 : RC := .ops [oV 15 (rmv (T 5)),
  oV 16 (rbin env .geq 5 false true (T 15) (.const (.int .u8 128)))]
noncomputable abbrev c108_7 : RC := .ops [oV 17 (rload true 256 (T 2)),
  oS (rstore 256 (T 2) (T 17)),
  oV 3 (rmv (.const (.bool false)))]
noncomputable abbrev c108_8 : RC := .seq c108_7 .ret
noncomputable abbrev c108_9 : RC := .cond (rX 16) c108_8 .skip
noncomputable abbrev c108_10 : RC := .seq c108_6 c108_9
noncomputable abbrev c108_11 : RC := .ops [oV 18 (rmv (T 5)),
  oV 19 (riaddrA 256 1 (T 2) (T 18)),
  oS (rstore 1 (T 19) (.const (.bool true)))]
noncomputable abbrev c108_12 : RC := .seq c108_10 c108_11
noncomputable abbrev c108_13 : RC := .seq c108_5 c108_12
noncomputable abbrev c108_14 : RC := .block 1 c108_13
noncomputable abbrev c108_15 : RC := .ops [oV 10 (rmv (T 4)),
  oV 11 (rbin env .add 3 false true (T 10) (K 1)),
  oV 4 (rmv (T 11))]
noncomputable abbrev c108_16 : RC := .seq c108_14 c108_15
noncomputable abbrev c108_17 : RC := .seq c108_4 c108_16
noncomputable abbrev c108_18 : RC := .loop c108_17
noncomputable abbrev c108_19 : RC := .block 0 c108_18
noncomputable abbrev c108_20 : RC := .seq c108_1 c108_19
noncomputable abbrev c108_21 : RC := .ops [oV 20 (rload true 256 (T 2)),
  oS (rstore 256 (T 2) (T 20)),
  oV 3 (rmv (.const (.bool true)))]
noncomputable abbrev c108_22 : RC := .seq c108_21 .ret
noncomputable abbrev c108_23 : RC := .seq c108_20 c108_22
noncomputable abbrev c108_24 : RC := .seq c108_0 c108_23
theorem fn108 : env.fn 108 = some ⟨21, [.cell 2 160, .tmp 3], body108⟩ := by kernel_rfl
theorem comp108 : comp env body108 = c108_24 := by kernel_rfl

/-! ### strings.trimLeftASCII -/
noncomputable def body109 : Code := match Tryd.f109.body with | some c => c | none => .skip
noncomputable abbrev c109_0 : RC := .ops [oV 4 (rmv (.const (.string ⟨#[]⟩)))]
noncomputable abbrev c109_1 : RC := .ops [oV 5 (rmv (T 0)),
  oV 6 (rlenS (T 5)),
  oV 7 (rbin env .gtr 3 false true (T 6) (K 0))]
noncomputable abbrev c109_2 : RC := .cond (rX 7) .skip (.exit 0)
noncomputable abbrev c109_3 : RC := .seq c109_1 c109_2
noncomputable abbrev c109_4 : RC := .ops [oV 8 (rmv (T 1)),
  oV 9 (rmv (T 0)),
  oV 10 (ridxS (T 9) (K 0)),
  oC 11 (.func 117) [(T 8), (T 10)],
  oV 12 (run' .not (T 11))]
noncomputable abbrev c109_5 : RC := .cond (rX 12) (.exit 0) .skip
noncomputable abbrev c109_6 : RC := .seq c109_4 c109_5
noncomputable abbrev c109_7 : RC := .ops [oV 13 (rmv (T 0)),
  oV 14 (rsliceS (T 13) (some (K 1)) none),
  oV 0 (rmv (T 14))]
noncomputable abbrev c109_8 : RC := .seq c109_6 c109_7
noncomputable abbrev c109_9 : RC := .block 1 c109_8
noncomputable abbrev c109_10 : RC := .seq c109_3 c109_9
noncomputable abbrev c109_11 : RC := .loop c109_10
noncomputable abbrev c109_12 : RC := .block 0 c109_11
noncomputable abbrev c109_13 : RC := .ops [oV 15 (rmv (T 0)),
  oV 4 (rmv (T 15))]
noncomputable abbrev c109_14 : RC := .seq c109_13 .ret
noncomputable abbrev c109_15 : RC := .seq c109_12 c109_14
noncomputable abbrev c109_16 : RC := .seq c109_0 c109_15
theorem fn109 : env.fn 109 = some ⟨16, [.tmp 4], body109⟩ := by kernel_rfl
theorem comp109 : comp env body109 = c109_16 := by kernel_rfl

/-! ### strings.trimRightASCII -/
noncomputable def body110 : Code := match Tryd.f110.body with | some c => c | none => .skip
noncomputable abbrev c110_0 : RC := .ops [oV 4 (rmv (.const (.string ⟨#[]⟩)))]
noncomputable abbrev c110_1 : RC := .ops [oV 5 (rmv (T 0)),
  oV 6 (rlenS (T 5)),
  oV 7 (rbin env .gtr 3 false true (T 6) (K 0))]
noncomputable abbrev c110_2 : RC := .cond (rX 7) .skip (.exit 0)
noncomputable abbrev c110_3 : RC := .seq c110_1 c110_2
noncomputable abbrev c110_4 : RC := .ops [oV 8 (rmv (T 1)),
  oV 9 (rmv (T 0)),
  oV 10 (rmv (T 0)),
  oV 11 (rlenS (T 10)),
  oV 12 (rbin env .sub 3 false true (T 11) (K 1)),
  oV 13 (ridxS (T 9) (T 12)),
  oC 14 (.func 117) [(T 8), (T 13)],
  oV 15 (run' .not (T 14))]
noncomputable abbrev c110_5 : RC := .cond (rX 15) (.exit 0) .skip
noncomputable abbrev c110_6 : RC := .seq c110_4 c110_5
noncomputable abbrev c110_7 : RC := .ops [oV 16 (rmv (T 0)),
  oV 17 (rmv (T 0)),
  oV 18 (rlenS (T 17)),
  oV 19 (rbin env .sub 3 false true (T 18) (K 1)),
  oV 20 (rsliceS (T 16) none (some (T 19))),
  oV 0 (rmv (T 20))]
noncomputable abbrev c110_8 : RC := .seq c110_6 c110_7
noncomputable abbrev c110_9 : RC := .block 1 c110_8
noncomputable abbrev c110_10 : RC := .seq c110_3 c110_9
noncomputable abbrev c110_11 : RC := .loop c110_10
noncomputable abbrev c110_12 : RC := .block 0 c110_11
noncomputable abbrev c110_13 : RC := .ops [oV 21 (rmv (T 0)),
  oV 4 (rmv (T 21))]
noncomputable abbrev c110_14 : RC := .seq c110_13 .ret
noncomputable abbrev c110_15 : RC := .seq c110_12 c110_14
noncomputable abbrev c110_16 : RC := .seq c110_0 c110_15
theorem fn110 : env.fn 110 = some ⟨22, [.tmp 4], body110⟩ := by kernel_rfl
theorem comp110 : comp env body110 = c110_16 := by kernel_rfl

/-! ### strings.trimLeftUnicode -/
noncomputable def body111 : Code := match Tryd.f111.body with | some c => c | none => .skip
noncomputable abbrev c111_0 : RC := .ops [oV 4 (rmv (.const (.string ⟨#[]⟩)))]
noncomputable abbrev c111_1 : RC := .ops [oV 7 (rmv (T 0)),
  oV 8 (rlenS (T 7)),
  oV 9 (rbin env .gtr 3 false true (T 8) (K 0))]
noncomputable abbrev c111_2 : RC := .cond (rX 9) .skip (.exit 0)
noncomputable abbrev c111_3 : RC := .seq c111_1 c111_2
noncomputable abbrev c111_4 : RC := .ops [oV 11 (rmv (T 0)),
  oC 12 (.func 104) [(T 11)],
  oV 10 (rmv (T 12)),
  oV 13 (rext (T 10) 0),
  oV 14 (rext (T 10) 1),
  oV 5 (rmv (T 13)),
  oV 6 (rmv (T 14))]
noncomputable abbrev c111_5 : RC := .ops [oV 15 (rmv (T 1)),
  oV 16 (rmv (T 5)),
  oC 17 (.func 97) [(T 15), (T 16)],
  oV 18 (run' .not (T 17))]
noncomputable abbrev c111_6 : RC := .cond (rX 18) (.exit 0) .skip
noncomputable abbrev c111_7 : RC := .seq c111_5 c111_6
noncomputable abbrev c111_8 : RC := .ops [oV 19 (rmv (T 0)),
  oV 20 (rmv (T 6)),
  oV 21 (rsliceS (T 19) (some (T 20)) none),
  oV 0 (rmv (T 21))]
noncomputable abbrev c111_9 : RC := .seq c111_7 c111_8
noncomputable abbrev c111_10 : RC := .seq c111_4 c111_9
noncomputable abbrev c111_11 : RC := .block 1 c111_10
noncomputable abbrev c111_12 : RC := .seq c111_3 c111_11
noncomputable abbrev c111_13 : RC := .loop c111_12
noncomputable abbrev c111_14 : RC := .block 0 c111_13
noncomputable abbrev c111_15 : RC := .ops [oV 22 (rmv (T 0)),
  oV 4 (rmv (T 22))]
noncomputable abbrev c111_16 : RC := .seq c111_15 .ret
noncomputable abbrev c111_17 : RC := .seq c111_14 c111_16
noncomputable abbrev c111_18 : RC := .seq c111_0 c111_17
theorem fn111 : env.fn 111 = some ⟨23, [.tmp 4], body111⟩ := by kernel_rfl
theorem comp111 : comp env body111 = c111_18 := by kernel_rfl

/-! ### strings.trimRightUnicode -/
noncomputable def body112 : Code := match Tryd.f112.body with | some c => c | none => .skip
noncomputable abbrev c112_0 : RC := .ops [oV 4 (rmv (.const (.string ⟨#[]⟩)))]
noncomputable abbrev c112_1 : RC := .ops [oV 7 (rmv (T 0)),
  oV 8 (rlenS (T 7)),
  oV 9 (rbin env .gtr 3 false true (T 8) (K 0))]
noncomputable abbrev c112_2 : RC := .cond (rX 9) .skip (.exit 0)
noncomputable abbrev c112_3 : RC := .seq c112_1 c112_2
noncomputable abbrev c112_4 : RC := .ops [oV 10 (rmv (T 0)),
  oV 11 (rmv (T 0)),
  oV 12 (rlenS (T 11)),
  oV 13 (rbin env .sub 3 false true (T 12) (K 1)),
  oV 14 (ridxS (T 10) (T 13)),
  oU 15 (rconvI .i32 (T 14)),
  oV 5 (rmv (T 15)),
  oV 6 (rmv (K 1))]
noncomputable abbrev c112_5 : RC := .ops [oV 16 (rmv (T 5)),
  oV 17 (rbin env .geq 21 false true (T 16) (.const (.int .i32 128)))]
noncomputable abbrev c112_6 : RC := .ops [oV 19 (rmv (T 0)),
  oC 20 (.func 118) [(T 19)],
  oV 18 (rmv (T 20)),
  oV 21 (rext (T 18) 0),
  oV 22 (rext (T 18) 1),
  oV 5 (rmv (T 21)),
  oV 6 (rmv (T 22))]
noncomputable abbrev c112_7 : RC := .cond (rX 17) c112_6 .skip
noncomputable abbrev c112_8 : RC := .seq c112_5 c112_7
noncomputable abbrev c112_9 : RC := .ops [oV 23 (rmv (T 1)),
  oV 24 (rmv (T 5)),
  oC 25 (.func 97) [(T 23), (T 24)],
  oV 26 (run' .not (T 25))]
noncomputable abbrev c112_10 : RC := .cond (rX 26) (.exit 0) .skip
noncomputable abbrev c112_11 : RC := .seq c112_9 c112_10
noncomputable abbrev c112_12 : RC := .ops [oV 27 (rmv (T 0)),
  oV 28 (rmv (T 0)),
  oV 29 (rlenS (T 28)),
  oV 30 (rmv (T 6)),
  oV 31 (rbin env .sub 3 false false (T 29) (T 30)),
  oV 32 (rsliceS (T 27) none (some (T 31))),
  oV 0 (rmv (T 32))]
noncomputable abbrev c112_13 : RC := .seq c112_11 c112_12
noncomputable abbrev c112_14 : RC := .seq c112_8 c112_13
noncomputable abbrev c112_15 : RC := .seq c112_4 c112_14
noncomputable abbrev c112_16 : RC := .block 1 c112_15
noncomputable abbrev c112_17 : RC := .seq c112_3 c112_16
noncomputable abbrev c112_18 : RC := .loop c112_17
noncomputable abbrev c112_19 : RC := .block 0 c112_18
noncomputable abbrev c112_20 : RC := .ops [oV 33 (rmv (T 0)),
  oV 4 (rmv (T 33))]
noncomputable abbrev c112_21 : RC := .seq c112_20 .ret
noncomputable abbrev c112_22 : RC := .seq c112_19 c112_21
noncomputable abbrev c112_23 : RC := .seq c112_0 c112_22
theorem fn112 : env.fn 112 = some ⟨34, [.tmp 4], body112⟩ := by kernel_rfl
theorem comp112 : comp env body112 = c112_23 := by kernel_rfl

/-! ### strings.IndexFunc -/
noncomputable def body113 : Code := match Tryd.f113.body with | some c => c | none => .skip
noncomputable abbrev c113_0 : RC := .ops [oV 4 (rmv (K 0))]
noncomputable abbrev c113_1 : RC := .ops [oV 5 (rmv (T 0)),
  oV 6 (rmv (T 1)),
  oC 7 (.func 119) [(T 5), (T 6), (.const (.bool true))],
  oV 4 (rmv (T 7))]
noncomputable abbrev c113_2 : RC := .seq c113_1 .ret
noncomputable abbrev c113_3 : RC := .seq c113_0 c113_2
theorem fn113 : env.fn 113 = some ⟨8, [.tmp 4], body113⟩ := by kernel_rfl
theorem comp113 : comp env body113 = c113_3 := by kernel_rfl

/-! ### strings.IndexRune -/
noncomputable def body114 : Code := match Tryd.f114.body with | some c => c | none => .skip
noncomputable abbrev c114_0 : RC := .ops [oV 4 (rmv (K 0))]
noncomputable abbrev c114_1 : RC := .ops [oV 161 (rmv (T 1)),
  oV 162 (rbin env .leq 21 true false (.const (.int .i32 0)) (T 161)),
  oV 163 (rmv (T 162)),
  oG 164 163 true (rmv (T 1)),
  oG 165 163 true (rbin env .lss 21 false true (T 164) (.const (.int .i32 128))),
  oV 166 (rpick (T 163) (T 165) (.const (.bool false))),
  oV 160 (rmv (T 166))]
noncomputable abbrev c114_2 : RC := .ops [oV 167 (rmv (T 0)),
  oV 168 (rmv (T 1)),
  oU 169 (rconvI .u8 (T 168)),
  oC 170 (.func 120) [(T 167), (T 169)],
  oV 4 (rmv (T 170))]
noncomputable abbrev c114_3 : RC := .seq c114_2 .ret
noncomputable abbrev c114_4 : RC := .ops [oV 172 (rmv (T 1)),
  oV 173 (rbin env .eql 21 false true (T 172) (.const (.int .i32 65533))),
  oV 171 (rmv (T 173))]
noncomputable abbrev c114_5 : RC := .ops [oV 174 (rmv (T 0)),
  oU 175 (rrange (T 174))]
noncomputable abbrev c114_6 : RC := .ops [oU 176 (rnext (T 175)),
  oV 177 (rext (T 176) 0)]
noncomputable abbrev c114_7 : RC := .cond (rX 177) .skip (.exit 9)
noncomputable abbrev c114_8 : RC := .ops [oV 178 (rext (T 176) 1),
  oV 179 (rext (T 176) 2),
  oV 5 (rmv (T 178)),
  oV 6 (rmv (T 179))]
noncomputable abbrev c114_9 : RC := .ops [oV 180 (rmv (T 6)),
  oV 181 (rbin env .eql 21 false true (T 180) (.const (.int .i32 65533)))]
noncomputable abbrev c114_10 : RC := .ops [oV 182 (rmv (T 5)),
  oV 4 (rmv (T 182))]
noncomputable abbrev c114_11 : RC := .seq c114_10 .ret
noncomputable abbrev c114_12 : RC := .cond (rX 181) c114_11 .skip
noncomputable abbrev c114_13 : RC := .seq c114_9 c114_12
noncomputable abbrev c114_14 : RC := .seq c114_8 c114_13
noncomputable abbrev c114_15 : RC := .block 10 c114_14
noncomputable abbrev c114_16 : RC := .seq c114_7 c114_15
noncomputable abbrev c114_17 : RC := .seq c114_6 c114_16
noncomputable abbrev c114_18 : RC := .loop c114_17
noncomputable abbrev c114_19 : RC := .block 9 c114_18
noncomputable abbrev c114_20 : RC := .seq c114_5 c114_19
noncomputable abbrev c114_21 : RC := .ops [oV 4 (rmv (K (-1)))]
noncomputable abbrev c114_22 : RC := .seq c114_21 .ret
noncomputable abbrev c114_23 : RC := .seq c114_20 c114_22
noncomputable abbrev c114_24 : RC := .ops [oV 184 (rmv (T 1)),
  oC 185 (.func 121) [(T 184)],
  oV 186 (run' .not (T 185)),
  oV 183 (rmv (T 186))]
noncomputable abbrev c114_25 : RC := .ops [oV 4 (rmv (K (-1)))]
noncomputable abbrev c114_26 : RC := .seq c114_25 .ret
noncomputable abbrev c114_27 : RC := comp env (subc [1, 0, 1, 1, 1, 1, 1, 1, 0, 0] body114)
noncomputable abbrev c114_28 : RC := .ops [oV 19 (rmv (T 7)),
  oV 20 (rlenS (T 19)),
  oV 21 (rbin env .sub 3 false true (T 20) (K 1)),
  oV 8 (rmv (T 21))]
noncomputable abbrev c114_29 : RC := .ops [oV 22 (rmv (T 8)),
  oV 9 (rmv (T 22))]
noncomputable abbrev c114_30 : RC := .ops [oV 10 (rmv (K 0))]
noncomputable abbrev c114_31 : RC := .ops [oV 23 (rmv (T 9)),
  oV 24 (rmv (T 0)),
  oV 25 (rlenS (T 24)),
  oV 26 (rbin env .lss 3 false false (T 23) (T 25))]
noncomputable abbrev c114_32 : RC := .cond (rX 26) .skip (.exit 1)
noncomputable abbrev c114_33 : RC := .seq c114_31 c114_32
noncomputable abbrev c114_34 : RC := .drawn true [dV 27 (rmv (T 0)),
  dV 28 (rmv (T 9)),
  dV 29 (ridxS (T 27) (T 28)),
  dV 30 (rmv (T 7)),
  dV 31 (rmv (T 8)),
  dV 32 (ridxS (T 30) (T 31)),
  dV 33 (rbin env .neq 5 false false (T 29) (T 32))]
noncomputable abbrev c114_35 : RC := .drawn true [dV 34 (rmv (T 0)),
  dV 35 (rmv (T 9)),
  dV 36 (rbin env .add 3 false true (T 35) (K 1)),
  dV 37 (rsliceS (T 34) (some (T 36)) none),
  dV 38 (rmv (T 7)),
  dV 39 (rmv (T 8)),
  dV 40 (ridxS (T 38) (T 39)),
  dC true 41 (.func 120) [(T 37), (T 40)],
  dV 11 (rmv (T 41))]
noncomputable abbrev c114_36 : RC := .ops [oV 42 (rmv (T 11)),
  oV 43 (rbin env .lss 3 false true (T 42) (K 0))]
noncomputable abbrev c114_37 : RC := .ops [oV 4 (rmv (K (-1)))]
noncomputable abbrev c114_38 : RC := .seq c114_37 .ret
noncomputable abbrev c114_39 : RC := .cond (rX 43) c114_38 .skip
noncomputable abbrev c114_40 : RC := .seq c114_36 c114_39
noncomputable abbrev c114_41 : RC := .ops [oV 44 (rmv (T 9)),
  oV 45 (rmv (T 11)),
  oV 46 (rbin env .add 3 false true (T 45) (K 1)),
  oV 47 (rbin env .add 3 false false (T 44) (T 46)),
  oV 9 (rmv (T 47))]
noncomputable abbrev c114_42 : RC := .seq c114_40 c114_41
noncomputable abbrev c114_43 : RC := .seq c114_35 c114_42
noncomputable abbrev c114_44 : RC := .cond (rX 33) c114_43 .skip
noncomputable abbrev c114_45 : RC := .seq c114_34 c114_44
noncomputable abbrev c114_46 : RC := .ops [oV 12 (rmv (K 1))]
noncomputable abbrev c114_47 : RC := .ops [oV 48 (rmv (T 12)),
  oV 49 (rmv (T 7)),
  oV 50 (rlenS (T 49)),
  oV 51 (rbin env .lss 3 false false (T 48) (T 50))]
noncomputable abbrev c114_48 : RC := .cond (rX 51) .skip (.exit 3)
noncomputable abbrev c114_49 : RC := .seq c114_47 c114_48
noncomputable abbrev c114_50 : RC := .drawn true [dV 54 (rmv (T 0)),
  dV 55 (rmv (T 9)),
  dV 56 (rmv (T 12)),
  dV 57 (rbin env .sub 3 false false (T 55) (T 56)),
  dV 58 (ridxS (T 54) (T 57)),
  dV 59 (rmv (T 7)),
  dV 60 (rmv (T 8)),
  dV 61 (rmv (T 12)),
  dV 62 (rbin env .sub 3 false false (T 60) (T 61)),
  dV 63 (ridxS (T 59) (T 62)),
  dV 64 (rbin env .neq 5 false false (T 58) (T 63))]
noncomputable abbrev c114_51 : RC := .cond (rX 64) (.goto 0) .skip
noncomputable abbrev c114_52 : RC := .seq c114_50 c114_51
noncomputable abbrev c114_53 : RC := .block 4 c114_52
noncomputable abbrev c114_54 : RC := .ops [oV 52 (rmv (T 12)),
  oV 53 (rbin env .add 3 false true (T 52) (K 1)),
  oV 12 (rmv (T 53))]
noncomputable abbrev c114_55 : RC := .seq c114_53 c114_54
noncomputable abbrev c114_56 : RC := .seq c114_49 c114_55
noncomputable abbrev c114_57 : RC := .loop c114_56
noncomputable abbrev c114_58 : RC := .block 3 c114_57
noncomputable abbrev c114_59 : RC := .seq c114_46 c114_58
noncomputable abbrev c114_60 : RC := .ops [oV 65 (rmv (T 9)),
  oV 66 (rmv (T 8)),
  oV 67 (rbin env .sub 3 false false (T 65) (T 66)),
  oV 4 (rmv (T 67))]
noncomputable abbrev c114_61 : RC := .seq c114_60 .ret
noncomputable abbrev c114_62 : RC := .ops [oV 68 (rmv (T 10)),
  oV 69 (rbin env .add 3 false true (T 68) (K 1)),
  oV 10 (rmv (T 69))]
noncomputable abbrev c114_63 : RC := .ops [oV 70 (rmv (T 9)),
  oV 71 (rbin env .add 3 false true (T 70) (K 1)),
  oV 9 (rmv (T 71))]
noncomputable abbrev c114_64 : RC := .ops [oV 72 (rmv (.const (.bool true))),
  oG 73 72 true (rmv (T 10)),
  oG 74 72 true (rmv (T 9)),
  oCG 75 72 true (.func 122) [(T 74)],
  oG 76 72 true (rbin env .gtr 3 false false (T 73) (T 75)),
  oV 77 (rpick (T 72) (T 76) (.const (.bool false))),
  oV 78 (rmv (T 77)),
  oG 79 78 true (rmv (T 9)),
  oG 80 78 true (rmv (T 0)),
  oG 81 78 true (rlenS (T 80)),
  oG 82 78 true (rbin env .lss 3 false false (T 79) (T 81)),
  oV 83 (rpick (T 78) (T 82) (.const (.bool false))),
  oV 84 (rmv (T 83)),
  oG 85 84 false (rmv (.const (.bool false))),
  oG 86 85 true (rmv (T 10)),
  oG 87 85 true (rmv (T 9)),
  oG 88 85 true (rbin env .shr 3 false true (T 87) (.const (.int .u64 4))),
  oG 89 85 true (rbin env .add 3 true false (K 4) (T 88)),
  oG 90 85 true (rbin env .geq 3 false false (T 86) (T 89)),
  oG 91 84 false (rpick (T 85) (T 90) (.const (.bool false))),
  oG 92 84 false (rmv (T 91)),
  oG 93 92 true (rmv (T 9)),
  oG 94 92 true (rmv (T 0)),
  oG 95 92 true (rlenS (T 94)),
  oG 96 92 true (rbin env .lss 3 false false (T 93) (T 95)),
  oG 97 84 false (rpick (T 92) (T 96) (.const (.bool false))),
  oV 98 (rpick (T 84) (.const (.bool true)) (T 97))]
noncomputable abbrev c114_65 : RC := .cond (rX 98) (.goto 1) .skip
noncomputable abbrev c114_66 : RC := .seq c114_64 c114_65
noncomputable abbrev c114_67 : RC := .seq c114_63 c114_66
noncomputable abbrev c114_68 : RC := .seq c114_62 c114_67
noncomputable abbrev c114_69 : RC := .seq .skip c114_68
noncomputable abbrev c114_70 : RC := .seq c114_61 c114_69
noncomputable abbrev c114_71 : RC := .seq c114_59 c114_70
noncomputable abbrev c114_72 : RC := .seq c114_45 c114_71
noncomputable abbrev c114_73 : RC := .scope (subc [1, 0, 1, 1, 1, 1, 1, 1, 0, 1, 1, 1, 1, 0, 0, 0, 1, 0, 0] body114)
noncomputable abbrev c114_74 : RC := .block 2 c114_73
noncomputable abbrev c114_75 : RC := .seq c114_33 c114_74
noncomputable abbrev c114_76 : RC := .loop c114_75
noncomputable abbrev c114_77 : RC := .block 1 c114_76
noncomputable abbrev c114_78 : RC := .ops [oV 4 (rmv (K (-1)))]
noncomputable abbrev c114_79 : RC := .seq c114_78 .ret
noncomputable abbrev c114_80 : RC := comp env (subc [1, 0, 1, 1, 1, 1, 1, 1, 0, 1, 1, 1, 1, 1, 1, 1, 0, 0, 0] body114)
noncomputable abbrev c114_81 : RC := .ops [oV 107 (rmv (T 13)),
  oV 108 (rbin env .geq 3 false true (T 107) (K 0))]
noncomputable abbrev c114_82 : RC := .ops [oV 109 (rmv (T 9)),
  oV 110 (rmv (T 13)),
  oV 111 (rbin env .add 3 false false (T 109) (T 110)),
  oV 112 (rmv (T 8)),
  oV 113 (rbin env .sub 3 false false (T 111) (T 112)),
  oV 4 (rmv (T 113))]
noncomputable abbrev c114_83 : RC := .seq c114_82 .ret
noncomputable abbrev c114_84 : RC := .cond (rX 108) c114_83 .skip
noncomputable abbrev c114_85 : RC := .seq c114_81 c114_84
noncomputable abbrev c114_86 : RC := .seq c114_80 c114_85
noncomputable abbrev c114_87 : RC := .ops [oV 114 (rmv (T 7)),
  oV 115 (rmv (T 8)),
  oV 116 (ridxS (T 114) (T 115)),
  oV 14 (rmv (T 116))]
noncomputable abbrev c114_88 : RC := .ops [oV 117 (rmv (T 7)),
  oV 118 (rmv (T 8)),
  oV 119 (rbin env .sub 3 false true (T 118) (K 1)),
  oV 120 (ridxS (T 117) (T 119)),
  oV 15 (rmv (T 120))]
noncomputable abbrev c114_89 : RC := .ops [oV 121 (rmv (T 9)),
  oV 122 (rmv (T 0)),
  oV 123 (rlenS (T 122)),
  oV 124 (rbin env .lss 3 false false (T 121) (T 123))]
noncomputable abbrev c114_90 : RC := .cond (rX 124) .skip (.exit 5)
noncomputable abbrev c114_91 : RC := .seq c114_89 c114_90
noncomputable abbrev c114_92 : RC := .ops [oV 127 (rmv (T 0)),
  oV 128 (rmv (T 9)),
  oV 129 (ridxS (T 127) (T 128)),
  oV 130 (rmv (T 14)),
  oV 131 (rbin env .eql 5 false false (T 129) (T 130)),
  oV 132 (rmv (T 131)),
  oG 133 132 true (rmv (T 0)),
  oG 134 132 true (rmv (T 9)),
  oG 135 132 true (rbin env .sub 3 false true (T 134) (K 1)),
  oG 136 132 true (ridxS (T 133) (T 135)),
  oG 137 132 true (rmv (T 15)),
  oG 138 132 true (rbin env .eql 5 false false (T 136) (T 137)),
  oV 139 (rpick (T 132) (T 138) (.const (.bool false)))]
noncomputable abbrev c114_93 : RC := .ops [oV 16 (rmv (K 2))]
noncomputable abbrev c114_94 : RC := .ops [oV 140 (rmv (T 16)),
  oV 141 (rmv (T 7)),
  oV 142 (rlenS (T 141)),
  oV 143 (rbin env .lss 3 false false (T 140) (T 142))]
noncomputable abbrev c114_95 : RC := .cond (rX 143) .skip (.exit 7)
noncomputable abbrev c114_96 : RC := .seq c114_94 c114_95
noncomputable abbrev c114_97 : RC := .drawn true [dV 146 (rmv (T 0)),
  dV 147 (rmv (T 9)),
  dV 148 (rmv (T 16)),
  dV 149 (rbin env .sub 3 false false (T 147) (T 148)),
  dV 150 (ridxS (T 146) (T 149)),
  dV 151 (rmv (T 7)),
  dV 152 (rmv (T 8)),
  dV 153 (rmv (T 16)),
  dV 154 (rbin env .sub 3 false false (T 152) (T 153)),
  dV 155 (ridxS (T 151) (T 154)),
  dV 156 (rbin env .neq 5 false false (T 150) (T 155))]
noncomputable abbrev c114_98 : RC := .cond (rX 156) (.exit 6) .skip
noncomputable abbrev c114_99 : RC := .seq c114_97 c114_98
noncomputable abbrev c114_100 : RC := .block 8 c114_99
noncomputable abbrev c114_101 : RC := .ops [oV 144 (rmv (T 16)),
  oV 145 (rbin env .add 3 false true (T 144) (K 1)),
  oV 16 (rmv (T 145))]
noncomputable abbrev c114_102 : RC := .seq c114_100 c114_101
noncomputable abbrev c114_103 : RC := .seq c114_96 c114_102
noncomputable abbrev c114_104 : RC := .loop c114_103
noncomputable abbrev c114_105 : RC := .block 7 c114_104
noncomputable abbrev c114_106 : RC := .seq c114_93 c114_105
noncomputable abbrev c114_107 : RC := .ops [oV 157 (rmv (T 9)),
  oV 158 (rmv (T 8)),
  oV 159 (rbin env .sub 3 false false (T 157) (T 158)),
  oV 4 (rmv (T 159))]
noncomputable abbrev c114_108 : RC := .seq c114_107 .ret
noncomputable abbrev c114_109 : RC := .seq c114_106 c114_108
noncomputable abbrev c114_110 : RC := .cond (rX 139) c114_109 .skip
noncomputable abbrev c114_111 : RC := .seq c114_92 c114_110
noncomputable abbrev c114_112 : RC := .block 6 c114_111
noncomputable abbrev c114_113 : RC := .ops [oV 125 (rmv (T 9)),
  oV 126 (rbin env .add 3 false true (T 125) (K 1)),
  oV 9 (rmv (T 126))]
noncomputable abbrev c114_114 : RC := .seq c114_112 c114_113
noncomputable abbrev c114_115 : RC := .seq c114_91 c114_114
noncomputable abbrev c114_116 : RC := .loop c114_115
noncomputable abbrev c114_117 : RC := .block 5 c114_116
noncomputable abbrev c114_118 : RC := .seq .skip c114_117
noncomputable abbrev c114_119 : RC := .seq c114_88 c114_118
noncomputable abbrev c114_120 : RC := .seq c114_87 c114_119
noncomputable abbrev c114_121 : RC := .scope (subc [1, 0, 1, 1, 1, 1, 1, 1, 0, 1, 1, 1, 1, 1, 1, 1, 0, 1, 0] body114)
noncomputable abbrev c114_122 : RC := .cond (fun s => pev s.tm (.const (.bool true))) c114_86 c114_121
noncomputable abbrev c114_123 : RC := .ops [oV 4 (rmv (K (-1)))]
noncomputable abbrev c114_124 : RC := .seq c114_123 .ret
noncomputable abbrev c114_125 : RC := .seq c114_122 c114_124
noncomputable abbrev c114_126 : RC := .seq .skip c114_125
noncomputable abbrev c114_127 : RC := .seq c114_79 c114_126
noncomputable abbrev c114_128 : RC := .seq c114_77 c114_127
noncomputable abbrev c114_129 : RC := .seq c114_30 c114_128
noncomputable abbrev c114_130 : RC := .seq c114_29 c114_129
noncomputable abbrev c114_131 : RC := .seq c114_28 c114_130
noncomputable abbrev c114_132 : RC := .seq c114_27 c114_131
noncomputable abbrev c114_133 : RC := .scope (subc [1, 0, 1, 1, 1, 1, 1, 1, 0] body114)
noncomputable abbrev c114_134 : RC := .cond (rX 183) c114_26 c114_133
noncomputable abbrev c114_135 : RC := .seq c114_24 c114_134
noncomputable abbrev c114_136 : RC := .cond (rX 171) c114_23 c114_135
noncomputable abbrev c114_137 : RC := .seq c114_4 c114_136
noncomputable abbrev c114_138 : RC := .cond (rX 160) c114_3 c114_137
noncomputable abbrev c114_139 : RC := .seq c114_1 c114_138
noncomputable abbrev c114_140 : RC := .block 0 c114_139
noncomputable abbrev c114_141 : RC := .seq c114_0 c114_140
theorem fn114 : env.fn 114 = some ⟨187, [.tmp 4], body114⟩ := by kernel_rfl
theorem comp114 : comp env body114 = c114_141 := by kernel_rfl
theorem piece114_1 : comp env (subc [1, 0, 1, 1, 1, 1, 1, 1, 0, 1, 1, 1, 1, 0, 0, 0, 1, 0, 0] body114) = c114_72 := by kernel_rfl
theorem piece114_2 : comp env (subc [1, 0, 1, 1, 1, 1, 1, 1, 0, 1, 1, 1, 1, 1, 1, 1, 0, 1, 0] body114) = c114_120 := by kernel_rfl
theorem piece114_3 : comp env (subc [1, 0, 1, 1, 1, 1, 1, 1, 0] body114) = c114_132 := by kernel_rfl

/-! ### unicode/utf8.decodeRuneInStringSlow -/
noncomputable def body115 : Code := match Tryd.f115.body with | some c => c | none => .skip
noncomputable abbrev c115_0 : RC := .ops [oV 2 (rmv (.const (.int .i32 0))),
  oV 3 (rmv (K 0))]
noncomputable abbrev c115_1 : RC := .ops [oV 13 (rmv (T 0)),
  oV 14 (rlenS (T 13)),
  oV 4 (rmv (T 14))]
noncomputable abbrev c115_2 : RC := .ops [oV 15 (rmv (T 4)),
  oV 16 (rbin env .lss 3 false true (T 15) (K 1))]
noncomputable abbrev c115_3 : RC := .ops [oV 2 (rmv (.const (.int .i32 65533))),
  oV 3 (rmv (K 0))]
noncomputable abbrev c115_4 : RC := .seq c115_3 .ret
noncomputable abbrev c115_5 : RC := .cond (rX 16) c115_4 .skip
noncomputable abbrev c115_6 : RC := .seq c115_2 c115_5
noncomputable abbrev c115_7 : RC := .ops [oV 17 (rmv (T 0)),
  oV 18 (ridxS (T 17) (K 0)),
  oV 5 (rmv (T 18))]
noncomputable abbrev c115_8 : RC := .ops [oV 19 (rmv (T 5)),
  oV 20 (riaddrA 256 1 (.global 0) (T 19)),
  oV 21 (rload false 1 (T 20)),
  oV 6 (rmv (T 21))]
noncomputable abbrev c115_9 : RC := .ops [oV 22 (rmv (T 6)),
  oV 23 (rbin env .geq 5 false true (T 22) (.const (.int .u8 240)))]
noncomputable abbrev c115_10 : RC := .ops [oV 24 (rmv (T 6)),
  oU 25 (rconvI .i32 (T 24)),
  oV 26 (rbin env .shl 21 false true (T 25) (.const (.int .u64 31))),
  oV 27 (rbin env .shr 21 false true (T 26) (.const (.int .u64 31))),
  oV 7 (rmv (T 27))]
noncomputable abbrev c115_11 : RC := .ops [oV 28 (rmv (T 0)),
  oV 29 (ridxS (T 28) (K 0)),
  oU 30 (rconvI .i32 (T 29)),
  oV 31 (rmv (T 7)),
  oV 32 (rbin env .andNot 21 false false (T 30) (T 31)),
  oV 33 (rmv (T 7)),
  oV 34 (rbin env .and 21 true false (.const (.int .i32 65533)) (T 33)),
  oV 35 (rbin env .or 21 false false (T 32) (T 34)),
  oV 2 (rmv (T 35)),
  oV 3 (rmv (K 1))]
noncomputable abbrev c115_12 : RC := .seq c115_11 .ret
noncomputable abbrev c115_13 : RC := .seq c115_10 c115_12
noncomputable abbrev c115_14 : RC := .cond (rX 23) c115_13 .skip
noncomputable abbrev c115_15 : RC := .seq c115_9 c115_14
noncomputable abbrev c115_16 : RC := .ops [oV 36 (rmv (T 6)),
  oV 37 (rbin env .and 5 false true (T 36) (.const (.int .u8 7))),
  oU 38 (rconvI .i64 (T 37)),
  oV 8 (rmv (T 38))]
noncomputable abbrev c115_17 : RC := .ops [oV 39 (rmv (T 6)),
  oV 40 (rbin env .shr 5 false true (T 39) (.const (.int .u64 4))),
  oV 41 (riaddrA 16 2 (.global 1) (T 40)),
  oV 42 (rload true 2 (T 41)),
  oU 9 (rnew [.v (.int .u8 0), .v (.int .u8 0)]),
  oS (rstore 2 (T 9) (T 42))]
noncomputable abbrev c115_18 : RC := .ops [oV 43 (rmv (T 4)),
  oV 44 (rmv (T 8)),
  oV 45 (rbin env .lss 3 false false (T 43) (T 44))]
noncomputable abbrev c115_19 : RC := .ops [oV 2 (rmv (.const (.int .i32 65533))),
  oV 3 (rmv (K 1))]
noncomputable abbrev c115_20 : RC := .seq c115_19 .ret
noncomputable abbrev c115_21 : RC := .cond (rX 45) c115_20 .skip
noncomputable abbrev c115_22 : RC := .seq c115_18 c115_21
noncomputable abbrev c115_23 : RC := .ops [oV 46 (rmv (T 0)),
  oV 47 (ridxS (T 46) (K 1)),
  oV 10 (rmv (T 47))]
noncomputable abbrev c115_24 : RC := .ops [oV 48 (rmv (T 10)),
  oV 49 (rfaddr 0 (T 9)),
  oV 50 (rload false 1 (T 49)),
  oV 51 (rbin env .lss 5 false false (T 48) (T 50)),
  oV 52 (rmv (T 51)),
  oG 53 52 false (rfaddr 1 (T 9)),
  oG 54 52 false (rload false 1 (T 53)),
  oG 55 52 false (rmv (T 10)),
  oG 56 52 false (rbin env .lss 5 false false (T 54) (T 55)),
  oV 57 (rpick (T 52) (.const (.bool true)) (T 56))]
noncomputable abbrev c115_25 : RC := .ops [oV 2 (rmv (.const (.int .i32 65533))),
  oV 3 (rmv (K 1))]
noncomputable abbrev c115_26 : RC := .seq c115_25 .ret
noncomputable abbrev c115_27 : RC := .cond (rX 57) c115_26 .skip
noncomputable abbrev c115_28 : RC := .seq c115_24 c115_27
noncomputable abbrev c115_29 : RC := .ops [oV 58 (rmv (T 8)),
  oV 59 (rbin env .leq 3 false true (T 58) (K 2))]
noncomputable abbrev c115_30 : RC := .ops [oV 60 (rmv (T 5)),
  oV 61 (rbin env .and 5 false true (T 60) (.const (.int .u8 31))),
  oU 62 (rconvI .i32 (T 61)),
  oV 63 (rbin env .shl 21 false true (T 62) (.const (.int .u64 6))),
  oV 64 (rmv (T 10)),
  oV 65 (rbin env .and 5 false true (T 64) (.const (.int .u8 63))),
  oU 66 (rconvI .i32 (T 65)),
  oV 67 (rbin env .or 21 false false (T 63) (T 66)),
  oV 2 (rmv (T 67)),
  oV 3 (rmv (K 2))]
noncomputable abbrev c115_31 : RC := .seq c115_30 .ret
noncomputable abbrev c115_32 : RC := .cond (rX 59) c115_31 .skip
noncomputable abbrev c115_33 : RC := .seq c115_29 c115_32
noncomputable abbrev c115_34 : RC := .ops [oV 68 (rmv (T 0)),
  oV 69 (ridxS (T 68) (K 2)),
  oV 11 (rmv (T 69))]
noncomputable abbrev c115_35 : RC := .ops [oV 70 (rmv (T 11)),
  oV 71 (rbin env .lss 5 false true (T 70) (.const (.int .u8 128))),
  oV 72 (rmv (T 71)),
  oG 73 72 false (rmv (T 11)),
  oG 74 72 false (rbin env .lss 5 true false (.const (.int .u8 191)) (T 73)),
  oV 75 (rpick (T 72) (.const (.bool true)) (T 74))]
noncomputable abbrev c115_36 : RC := .ops [oV 2 (rmv (.const (.int .i32 65533))),
  oV 3 (rmv (K 1))]
noncomputable abbrev c115_37 : RC := .seq c115_36 .ret
noncomputable abbrev c115_38 : RC := .cond (rX 75) c115_37 .skip
noncomputable abbrev c115_39 : RC := .seq c115_35 c115_38
noncomputable abbrev c115_40 : RC := .ops [oV 76 (rmv (T 8)),
  oV 77 (rbin env .leq 3 false true (T 76) (K 3))]
noncomputable abbrev c115_41 : RC := .ops [oV 78 (rmv (T 5)),
  oV 79 (rbin env .and 5 false true (T 78) (.const (.int .u8 15))),
  oU 80 (rconvI .i32 (T 79)),
  oV 81 (rbin env .shl 21 false true (T 80) (.const (.int .u64 12))),
  oV 82 (rmv (T 10)),
  oV 83 (rbin env .and 5 false true (T 82) (.const (.int .u8 63))),
  oU 84 (rconvI .i32 (T 83)),
  oV 85 (rbin env .shl 21 false true (T 84) (.const (.int .u64 6))),
  oV 86 (rbin env .or 21 false false (T 81) (T 85)),
  oV 87 (rmv (T 11)),
  oV 88 (rbin env .and 5 false true (T 87) (.const (.int .u8 63))),
  oU 89 (rconvI .i32 (T 88)),
  oV 90 (rbin env .or 21 false false (T 86) (T 89)),
  oV 2 (rmv (T 90)),
  oV 3 (rmv (K 3))]
noncomputable abbrev c115_42 : RC := .seq c115_41 .ret
noncomputable abbrev c115_43 : RC := .cond (rX 77) c115_42 .skip
noncomputable abbrev c115_44 : RC := .seq c115_40 c115_43
noncomputable abbrev c115_45 : RC := .ops [oV 91 (rmv (T 0)),
  oV 92 (ridxS (T 91) (K 3)),
  oV 12 (rmv (T 92))]
noncomputable abbrev c115_46 : RC := .ops [oV 93 (rmv (T 12)),
  oV 94 (rbin env .lss 5 false true (T 93) (.const (.int .u8 128))),
  oV 95 (rmv (T 94)),
  oG 96 95 false (rmv (T 12)),
  oG 97 95 false (rbin env .lss 5 true false (.const (.int .u8 191)) (T 96)),
  oV 98 (rpick (T 95) (.const (.bool true)) (T 97))]
noncomputable abbrev c115_47 : RC := .ops [oV 2 (rmv (.const (.int .i32 65533))),
  oV 3 (rmv (K 1))]
noncomputable abbrev c115_48 : RC := .seq c115_47 .ret
noncomputable abbrev c115_49 : RC := .cond (rX 98) c115_48 .skip
noncomputable abbrev c115_50 : RC := .seq c115_46 c115_49
noncomputable abbrev c115_51 : RC := .ops [oV 99 (rmv (T 5)),
  oV 100 (rbin env .and 5 false true (T 99) (.const (.int .u8 7))),
  oU 101 (rconvI .i32 (T 100)),
  oV 102 (rbin env .shl 21 false true (T 101) (.const (.int .u64 18))),
  oV 103 (rmv (T 10)),
  oV 104 (rbin env .and 5 false true (T 103) (.const (.int .u8 63))),
  oU 105 (rconvI .i32 (T 104)),
  oV 106 (rbin env .shl 21 false true (T 105) (.const (.int .u64 12))),
  oV 107 (rbin env .or 21 false false (T 102) (T 106)),
  oV 108 (rmv (T 11)),
  oV 109 (rbin env .and 5 false true (T 108) (.const (.int .u8 63))),
  oU 110 (rconvI .i32 (T 109)),
  oV 111 (rbin env .shl 21 false true (T 110) (.const (.int .u64 6))),
  oV 112 (rbin env .or 21 false false (T 107) (T 111)),
  oV 113 (rmv (T 12)),
  oV 114 (rbin env .and 5 false true (T 113) (.const (.int .u8 63))),
  oU 115 (rconvI .i32 (T 114)),
  oV 116 (rbin env .or 21 false false (T 112) (T 115)),
  oV 2 (rmv (T 116)),
  oV 3 (rmv (K 4))]
noncomputable abbrev c115_52 : RC := .seq c115_51 .ret
noncomputable abbrev c115_53 : RC := .seq c115_50 c115_52
noncomputable abbrev c115_54 : RC := .seq c115_45 c115_53
noncomputable abbrev c115_55 : RC := .seq c115_44 c115_54
noncomputable abbrev c115_56 : RC := .seq c115_39 c115_55
noncomputable abbrev c115_57 : RC := .seq c115_34 c115_56
noncomputable abbrev c115_58 : RC := .seq c115_33 c115_57
noncomputable abbrev c115_59 : RC := .seq c115_28 c115_58
noncomputable abbrev c115_60 : RC := .seq c115_23 c115_59
noncomputable abbrev c115_61 : RC := .seq c115_22 c115_60
noncomputable abbrev c115_62 : RC := .seq c115_17 c115_61
noncomputable abbrev c115_63 : RC := .seq c115_16 c115_62
noncomputable abbrev c115_64 : RC := .seq c115_15 c115_63
noncomputable abbrev c115_65 : RC := .seq c115_8 c115_64
noncomputable abbrev c115_66 : RC := .seq c115_7 c115_65
noncomputable abbrev c115_67 : RC := .seq c115_6 c115_66
noncomputable abbrev c115_68 : RC := .seq c115_1 c115_67
noncomputable abbrev c115_69 : RC := .seq c115_0 c115_68
theorem fn115 : env.fn 115 = some ⟨117, [.tmp 2, .tmp 3], body115⟩ := by kernel_rfl
theorem comp115 : comp env body115 = c115_69 := by kernel_rfl

/-! ### internal/stringslite.Index -/
noncomputable def body116 : Code := match Tryd.f116.body with | some c => c | none => .skip
noncomputable abbrev c116_0 : RC := .ops [oV 4 (rmv (K 0))]
noncomputable abbrev c116_1 : RC := .ops [oV 14 (rmv (T 1)),
  oV 15 (rlenS (T 14)),
  oV 5 (rmv (T 15))]
noncomputable abbrev c116_2 : RC := .ops [oV 17 (rmv (T 5)),
  oV 18 (rbin env .eql 3 false true (T 17) (K 0)),
  oV 19 (rmv (T 18)),
  oG 20 19 false (rmv (T 1)),
  oG 21 19 false (rmv (T 0)),
  oG 22 19 false (rbin env .eql 9 false false (T 20) (T 21)),
  oV 23 (rpick (T 19) (.const (.bool true)) (T 22)),
  oV 16 (rmv (T 23))]
noncomputable abbrev c116_3 : RC := .ops [oV 4 (rmv (K 0))]
noncomputable abbrev c116_4 : RC := .seq c116_3 .ret
noncomputable abbrev c116_5 : RC := .ops [oV 25 (rmv (T 5)),
  oV 26 (rbin env .eql 3 false true (T 25) (K 1)),
  oV 24 (rmv (T 26))]
noncomputable abbrev c116_6 : RC := .ops [oV 27 (rmv (T 0)),
  oV 28 (rmv (T 1)),
  oV 29 (ridxS (T 28) (K 0)),
  oC 30 (.func 124) [(T 27), (T 29)],
  oV 4 (rmv (T 30))]
noncomputable abbrev c116_7 : RC := .seq c116_6 .ret
noncomputable abbrev c116_8 : RC := .ops [oV 32 (rmv (T 5)),
  oV 33 (rmv (T 0)),
  oV 34 (rlenS (T 33)),
  oV 35 (rbin env .geq 3 false false (T 32) (T 34)),
  oV 31 (rmv (T 35))]
noncomputable abbrev c116_9 : RC := .ops [oV 4 (rmv (K (-1)))]
noncomputable abbrev c116_10 : RC := .seq c116_9 .ret
noncomputable abbrev c116_11 : RC := .ops [oV 37 (rmv (T 5)),
  oV 38 (rload false 1 (.global 2)),
  oV 39 (rbin env .leq 3 false false (T 37) (T 38)),
  oV 40 (rmv (T 39)),
  oG 41 40 true (rmv (T 0)),
  oG 42 40 true (rlenS (T 41)),
  oG 43 40 true (rbin env .leq 3 false true (T 42) (K 64)),
  oV 44 (rpick (T 40) (T 43) (.const (.bool false))),
  oV 36 (rmv (T 44))]
noncomputable abbrev c116_12 : RC := .ops [oV 45 (rmv (T 0)),
  oV 46 (rmv (T 1)),
  oC 47 (.func 123) [(T 45), (T 46)],
  oV 4 (rmv (T 47))]
noncomputable abbrev c116_13 : RC := .seq c116_12 .ret
noncomputable abbrev c116_14 : RC := .cond (rX 36) c116_13 .skip
noncomputable abbrev c116_15 : RC := .seq c116_11 c116_14
noncomputable abbrev c116_16 : RC := .cond (rX 31) c116_10 c116_15
noncomputable abbrev c116_17 : RC := .seq c116_8 c116_16
noncomputable abbrev c116_18 : RC := .cond (rX 24) c116_7 c116_17
noncomputable abbrev c116_19 : RC := .seq c116_5 c116_18
noncomputable abbrev c116_20 : RC := .cond (rX 16) c116_4 c116_19
noncomputable abbrev c116_21 : RC := .seq c116_2 c116_20
noncomputable abbrev c116_22 : RC := .block 0 c116_21
noncomputable abbrev c116_23 : RC := .ops [oV 48 (rmv (T 1)),
  oV 49 (ridxS (T 48) (K 0)),
  oV 6 (rmv (T 49))]
noncomputable abbrev c116_24 : RC := .ops [oV 50 (rmv (T 1)),
  oV 51 (ridxS (T 50) (K 1)),
  oV 7 (rmv (T 51))]
noncomputable abbrev c116_25 : RC := .ops [oV 8 (rmv (K 0))]
noncomputable abbrev c116_26 : RC := .ops [oV 52 (rmv (T 0)),
  oV 53 (rlenS (T 52)),
  oV 54 (rmv (T 5)),
  oV 55 (rbin env .sub 3 false false (T 53) (T 54)),
  oV 56 (rbin env .add 3 false true (T 55) (K 1)),
  oV 9 (rmv (T 56))]
noncomputable abbrev c116_27 : RC := .ops [oV 10 (rmv (K 0))]
noncomputable abbrev c116_28 : RC := .ops [oV 57 (rmv (T 8)),
  oV 58 (rmv (T 9)),
  oV 59 (rbin env .lss 3 false false (T 57) (T 58))]
noncomputable abbrev c116_29 : RC := .cond (rX 59) .skip (.exit 1)
noncomputable abbrev c116_30 : RC := .seq c116_28 c116_29
noncomputable abbrev c116_31 : RC := .ops [oV 60 (rmv (T 0)),
  oV 61 (rmv (T 8)),
  oV 62 (ridxS (T 60) (T 61)),
  oV 63 (rmv (T 6)),
  oV 64 (rbin env .neq 5 false false (T 62) (T 63))]
noncomputable abbrev c116_32 : RC := .ops [oV 65 (rmv (T 0)),
  oV 66 (rmv (T 8)),
  oV 67 (rbin env .add 3 false true (T 66) (K 1)),
  oV 68 (rmv (T 9)),
  oV 69 (rsliceS (T 65) (some (T 67)) (some (T 68))),
  oV 70 (rmv (T 6)),
  oC 71 (.func 124) [(T 69), (T 70)],
  oV 11 (rmv (T 71))]
noncomputable abbrev c116_33 : RC := .ops [oV 72 (rmv (T 11)),
  oV 73 (rbin env .lss 3 false true (T 72) (K 0))]
noncomputable abbrev c116_34 : RC := .ops [oV 4 (rmv (K (-1)))]
noncomputable abbrev c116_35 : RC := .seq c116_34 .ret
noncomputable abbrev c116_36 : RC := .cond (rX 73) c116_35 .skip
noncomputable abbrev c116_37 : RC := .seq c116_33 c116_36
noncomputable abbrev c116_38 : RC := .ops [oV 74 (rmv (T 8)),
  oV 75 (rmv (T 11)),
  oV 76 (rbin env .add 3 false true (T 75) (K 1)),
  oV 77 (rbin env .add 3 false false (T 74) (T 76)),
  oV 8 (rmv (T 77))]
noncomputable abbrev c116_39 : RC := .seq c116_37 c116_38
noncomputable abbrev c116_40 : RC := .seq c116_32 c116_39
noncomputable abbrev c116_41 : RC := .cond (rX 64) c116_40 .skip
noncomputable abbrev c116_42 : RC := .seq c116_31 c116_41
noncomputable abbrev c116_43 : RC := .ops [oV 78 (rmv (T 0)),
  oV 79 (rmv (T 8)),
  oV 80 (rbin env .add 3 false true (T 79) (K 1)),
  oV 81 (ridxS (T 78) (T 80)),
  oV 82 (rmv (T 7)),
  oV 83 (rbin env .eql 5 false false (T 81) (T 82)),
  oV 84 (rmv (T 83)),
  oG 85 84 true (rmv (T 0)),
  oG 86 84 true (rmv (T 8)),
  oG 87 84 true (rmv (T 8)),
  oG 88 84 true (rmv (T 5)),
  oG 89 84 true (rbin env .add 3 false false (T 87) (T 88)),
  oG 90 84 true (rsliceS (T 85) (some (T 86)) (some (T 89))),
  oG 91 84 true (rmv (T 1)),
  oG 92 84 true (rbin env .eql 9 false false (T 90) (T 91)),
  oV 93 (rpick (T 84) (T 92) (.const (.bool false)))]
noncomputable abbrev c116_44 : RC := .ops [oV 94 (rmv (T 8)),
  oV 4 (rmv (T 94))]
noncomputable abbrev c116_45 : RC := .seq c116_44 .ret
noncomputable abbrev c116_46 : RC := .cond (rX 93) c116_45 .skip
noncomputable abbrev c116_47 : RC := .seq c116_43 c116_46
noncomputable abbrev c116_48 : RC := .ops [oV 95 (rmv (T 8)),
  oV 96 (rbin env .add 3 false true (T 95) (K 1)),
  oV 8 (rmv (T 96))]
noncomputable abbrev c116_49 : RC := .ops [oV 97 (rmv (T 10)),
  oV 98 (rbin env .add 3 false true (T 97) (K 1)),
  oV 10 (rmv (T 98))]
noncomputable abbrev c116_50 : RC := .ops [oV 99 (rmv (T 5)),
  oV 100 (rload false 1 (.global 2)),
  oV 101 (rbin env .leq 3 false false (T 99) (T 100)),
  oV 102 (rmv (T 101)),
  oG 103 102 true (rmv (T 10)),
  oG 104 102 true (rmv (T 8)),
  oCG 105 102 true (.func 122) [(T 104)],
  oG 106 102 true (rbin env .gtr 3 false false (T 103) (T 105)),
  oV 107 (rpick (T 102) (T 106) (.const (.bool false)))]
noncomputable abbrev c116_51 : RC := .ops [oV 108 (rmv (T 0)),
  oV 109 (rmv (T 8)),
  oV 110 (rsliceS (T 108) (some (T 109)) none),
  oV 111 (rmv (T 1)),
  oC 112 (.func 123) [(T 110), (T 111)],
  oV 12 (rmv (T 112))]
noncomputable abbrev c116_52 : RC := .ops [oV 113 (rmv (T 12)),
  oV 114 (rbin env .geq 3 false true (T 113) (K 0))]
noncomputable abbrev c116_53 : RC := .ops [oV 115 (rmv (T 12)),
  oV 116 (rmv (T 8)),
  oV 117 (rbin env .add 3 false false (T 115) (T 116)),
  oV 4 (rmv (T 117))]
noncomputable abbrev c116_54 : RC := .seq c116_53 .ret
noncomputable abbrev c116_55 : RC := .cond (rX 114) c116_54 .skip
noncomputable abbrev c116_56 : RC := .seq c116_52 c116_55
noncomputable abbrev c116_57 : RC := .ops [oV 4 (rmv (K (-1)))]
noncomputable abbrev c116_58 : RC := .seq c116_57 .ret
noncomputable abbrev c116_59 : RC := .seq c116_56 c116_58
noncomputable abbrev c116_60 : RC := .seq c116_51 c116_59
noncomputable abbrev c116_61 : RC := .ops [oV 118 (rmv (T 5)),
  oV 119 (rload false 1 (.global 2)),
  oV 120 (rbin env .gtr 3 false false (T 118) (T 119)),
  oV 121 (rmv (T 120)),
  oG 122 121 true (rmv (T 10)),
  oG 123 121 true (rmv (T 8)),
  oG 124 121 true (rbin env .shr 3 false true (T 123) (.const (.int .u64 4))),
  oG 125 121 true (rbin env .add 3 true false (K 4) (T 124)),
  oG 126 121 true (rbin env .geq 3 false false (T 122) (T 125)),
  oV 127 (rpick (T 121) (T 126) (.const (.bool false))),
  oV 128 (rmv (T 127)),
  oG 129 128 true (rmv (T 8)),
  oG 130 128 true (rmv (T 9)),
  oG 131 128 true (rbin env .lss 3 false false (T 129) (T 130)),
  oV 132 (rpick (T 128) (T 131) (.const (.bool false)))]
noncomputable abbrev c116_62 : RC := .ops [oV 133 (rmv (T 0)),
  oV 134 (rmv (T 8)),
  oV 135 (rsliceS (T 133) (some (T 134)) none),
  oV 136 (rmv (T 1)),
  oC 137 (.func 125) [(T 135), (T 136)],
  oV 13 (rmv (T 137))]
noncomputable abbrev c116_63 : RC := .ops [oV 138 (rmv (T 13)),
  oV 139 (rbin env .lss 3 false true (T 138) (K 0))]
noncomputable abbrev c116_64 : RC := .ops [oV 4 (rmv (K (-1)))]
noncomputable abbrev c116_65 : RC := .seq c116_64 .ret
noncomputable abbrev c116_66 : RC := .cond (rX 139) c116_65 .skip
noncomputable abbrev c116_67 : RC := .seq c116_63 c116_66
noncomputable abbrev c116_68 : RC := .ops [oV 140 (rmv (T 8)),
  oV 141 (rmv (T 13)),
  oV 142 (rbin env .add 3 false false (T 140) (T 141)),
  oV 4 (rmv (T 142))]
noncomputable abbrev c116_69 : RC := .seq c116_68 .ret
noncomputable abbrev c116_70 : RC := .seq c116_67 c116_69
noncomputable abbrev c116_71 : RC := .seq c116_62 c116_70
noncomputable abbrev c116_72 : RC := .cond (rX 132) c116_71 .skip
noncomputable abbrev c116_73 : RC := .seq c116_61 c116_72
noncomputable abbrev c116_74 : RC := .cond (rX 107) c116_60 c116_73
noncomputable abbrev c116_75 : RC := .seq c116_50 c116_74
noncomputable abbrev c116_76 : RC := .seq c116_49 c116_75
noncomputable abbrev c116_77 : RC := .seq c116_48 c116_76
noncomputable abbrev c116_78 : RC := .seq c116_47 c116_77
noncomputable abbrev c116_79 : RC := .seq c116_42 c116_78
noncomputable abbrev c116_80 : RC := .block 2 c116_79
noncomputable abbrev c116_81 : RC := .seq c116_30 c116_80
noncomputable abbrev c116_82 : RC := .loop c116_81
noncomputable abbrev c116_83 : RC := .block 1 c116_82
noncomputable abbrev c116_84 : RC := .ops [oV 4 (rmv (K (-1)))]
noncomputable abbrev c116_85 : RC := .seq c116_84 .ret
noncomputable abbrev c116_86 : RC := .seq c116_83 c116_85
noncomputable abbrev c116_87 : RC := .seq c116_27 c116_86
noncomputable abbrev c116_88 : RC := .seq c116_26 c116_87
noncomputable abbrev c116_89 : RC := .seq c116_25 c116_88
noncomputable abbrev c116_90 : RC := .seq c116_24 c116_89
noncomputable abbrev c116_91 : RC := .seq c116_23 c116_90
noncomputable abbrev c116_92 : RC := .seq c116_22 c116_91
noncomputable abbrev c116_93 : RC := .seq c116_1 c116_92
noncomputable abbrev c116_94 : RC := .seq c116_0 c116_93
theorem fn116 : env.fn 116 = some ⟨143, [.tmp 4], body116⟩ := by kernel_rfl
theorem comp116 : comp env body116 = c116_94 := by kernel_rfl

/-! ### (*strings.asciiSet).contains -/
noncomputable def body117 : Code := match Tryd.f117.body with | some c => c | none => .skip
noncomputable abbrev c117_0 : RC := .ops [oV 4 (rmv (.const (.bool false)))]
noncomputable abbrev c117_1 : RC := .ops [oV 5 (rmv (T 0)),
  oV 6 (rmv (T 1)),
  oV 7 (rnil (T 5)),
  oV 8 (riaddrA 256 1 (T 7) (T 6)),
  oV 9 (rload false 1 (T 8)),
  oV 4 (rmv (T 9))]
noncomputable abbrev c117_2 : RC := .seq c117_1 .ret
noncomputable abbrev c117_3 : RC := .seq c117_0 c117_2
theorem fn117 : env.fn 117 = some ⟨10, [.tmp 4], body117⟩ := by kernel_rfl
theorem comp117 : comp env body117 = c117_3 := by kernel_rfl

/-! ### unicode/utf8.DecodeLastRuneInString -/
noncomputable def body118 : Code := match Tryd.f118.body with | some c => c | none => .skip
noncomputable abbrev c118_0 : RC := .ops [oV 2 (rmv (.const (.int .i32 0))),
  oV 3 (rmv (K 0))]
noncomputable abbrev c118_1 : RC := .ops [oV 7 (rmv (T 0)),
  oV 8 (rlenS (T 7)),
  oV 4 (rmv (T 8))]
noncomputable abbrev c118_2 : RC := .ops [oV 9 (rmv (T 4)),
  oV 10 (rbin env .eql 3 false true (T 9) (K 0))]
noncomputable abbrev c118_3 : RC := .ops [oV 2 (rmv (.const (.int .i32 65533))),
  oV 3 (rmv (K 0))]
noncomputable abbrev c118_4 : RC := .seq c118_3 .ret
noncomputable abbrev c118_5 : RC := .cond (rX 10) c118_4 .skip
noncomputable abbrev c118_6 : RC := .seq c118_2 c118_5
noncomputable abbrev c118_7 : RC := .ops [oV 11 (rmv (T 4)),
  oV 12 (rbin env .sub 3 false true (T 11) (K 1)),
  oV 5 (rmv (T 12))]
noncomputable abbrev c118_8 : RC := .ops [oV 13 (rmv (T 0)),
  oV 14 (rmv (T 5)),
  oV 15 (ridxS (T 13) (T 14)),
  oU 16 (rconvI .i32 (T 15)),
  oV 2 (rmv (T 16))]
noncomputable abbrev c118_9 : RC := .ops [oV 17 (rmv (T 2)),
  oV 18 (rbin env .lss 21 false true (T 17) (.const (.int .i32 128)))]
noncomputable abbrev c118_10 : RC := .ops [oV 19 (rmv (T 2)),
  oV 2 (rmv (T 19)),
  oV 3 (rmv (K 1))]
noncomputable abbrev c118_11 : RC := .seq c118_10 .ret
noncomputable abbrev c118_12 : RC := .cond (rX 18) c118_11 .skip
noncomputable abbrev c118_13 : RC := .seq c118_9 c118_12
noncomputable abbrev c118_14 : RC := .ops [oV 20 (rmv (T 4)),
  oV 21 (rbin env .sub 3 false true (T 20) (K 4)),
  oV 22 (rmm maxV [(T 21), (K 0)]),
  oV 6 (rmv (T 22))]
noncomputable abbrev c118_15 : RC := .ops [oV 23 (rmv (T 5)),
  oV 24 (rbin env .sub 3 false true (T 23) (K 1)),
  oV 5 (rmv (T 24))]
noncomputable abbrev c118_16 : RC := .ops [oV 25 (rmv (T 5)),
  oV 26 (rmv (T 6)),
  oV 27 (rbin env .geq 3 false false (T 25) (T 26))]
noncomputable abbrev c118_17 : RC := .cond (rX 27) .skip (.exit 0)
noncomputable abbrev c118_18 : RC := .seq c118_16 c118_17
noncomputable abbrev c118_19 : RC := .ops [oV 30 (rmv (T 0)),
  oV 31 (rmv (T 5)),
  oV 32 (ridxS (T 30) (T 31)),
  oC 33 (.func 126) [(T 32)]]
noncomputable abbrev c118_20 : RC := .cond (rX 33) (.exit 0) .skip
noncomputable abbrev c118_21 : RC := .seq c118_19 c118_20
noncomputable abbrev c118_22 : RC := .block 1 c118_21
noncomputable abbrev c118_23 : RC := .ops [oV 28 (rmv (T 5)),
  oV 29 (rbin env .sub 3 false true (T 28) (K 1)),
  oV 5 (rmv (T 29))]
noncomputable abbrev c118_24 : RC := .seq c118_22 c118_23
noncomputable abbrev c118_25 : RC := .seq c118_18 c118_24
noncomputable abbrev c118_26 : RC := .loop c118_25
noncomputable abbrev c118_27 : RC := .block 0 c118_26
noncomputable abbrev c118_28 : RC := .seq c118_15 c118_27
noncomputable abbrev c118_29 : RC := .ops [oV 34 (rmv (T 5)),
  oV 35 (rbin env .lss 3 false true (T 34) (K 0))]
noncomputable abbrev c118_30 : RC := .ops [oV 5 (rmv (K 0))]
noncomputable abbrev c118_31 : RC := .cond (rX 35) c118_30 .skip
noncomputable abbrev c118_32 : RC := .seq c118_29 c118_31
noncomputable abbrev c118_33 : RC := .ops [oV 37 (rmv (T 0)),
  oV 38 (rmv (T 5)),
  oV 39 (rmv (T 4)),
  oV 40 (rsliceS (T 37) (some (T 38)) (some (T 39))),
  oC 41 (.func 104) [(T 40)],
  oV 36 (rmv (T 41)),
  oV 42 (rext (T 36) 0),
  oV 43 (rext (T 36) 1),
  oV 2 (rmv (T 42)),
  oV 3 (rmv (T 43))]
noncomputable abbrev c118_34 : RC := .ops [oV 44 (rmv (T 5)),
  oV 45 (rmv (T 3)),
  oV 46 (rbin env .add 3 false false (T 44) (T 45)),
  oV 47 (rmv (T 4)),
  oV 48 (rbin env .neq 3 false false (T 46) (T 47))]
noncomputable abbrev c118_35 : RC := .ops [oV 2 (rmv (.const (.int .i32 65533))),
  oV 3 (rmv (K 1))]
noncomputable abbrev c118_36 : RC := .seq c118_35 .ret
noncomputable abbrev c118_37 : RC := .cond (rX 48) c118_36 .skip
noncomputable abbrev c118_38 : RC := .seq c118_34 c118_37
noncomputable abbrev c118_39 : RC := .ops [oV 49 (rmv (T 2)),
  oV 50 (rmv (T 3)),
  oV 2 (rmv (T 49)),
  oV 3 (rmv (T 50))]
noncomputable abbrev c118_40 : RC := .seq c118_39 .ret
noncomputable abbrev c118_41 : RC := .seq c118_38 c118_40
noncomputable abbrev c118_42 : RC := .seq c118_33 c118_41
noncomputable abbrev c118_43 : RC := .seq c118_32 c118_42
noncomputable abbrev c118_44 : RC := .seq c118_28 c118_43
noncomputable abbrev c118_45 : RC := .seq c118_14 c118_44
noncomputable abbrev c118_46 : RC := .seq c118_13 c118_45
noncomputable abbrev c118_47 : RC := .seq c118_8 c118_46
noncomputable abbrev c118_48 : RC := .seq c118_7 c118_47
noncomputable abbrev c118_49 : RC := .seq c118_6 c118_48
noncomputable abbrev c118_50 : RC := .seq c118_1 c118_49
noncomputable abbrev c118_51 : RC := .seq c118_0 c118_50
theorem fn118 : env.fn 118 = some ⟨51, [.tmp 2, .tmp 3], body118⟩ := by kernel_rfl
theorem comp118 : comp env body118 = c118_51 := by kernel_rfl

/-! ### strings.indexFunc -/
noncomputable def body119 : Code := match Tryd.f119.body with | some c => c | none => .skip
noncomputable abbrev c119_0 : RC := .ops [oV 6 (rmv (K 0))]
noncomputable abbrev c119_1 : RC := .ops [oV 9 (rmv (T 0)),
  oU 10 (rrange (T 9))]
noncomputable abbrev c119_2 : RC := .ops [oU 11 (rnext (T 10)),
  oV 12 (rext (T 11) 0)]
noncomputable abbrev c119_3 : RC := .cond (rX 12) .skip (.exit 0)
noncomputable abbrev c119_4 : RC := .ops [oV 13 (rext (T 11) 1),
  oV 14 (rext (T 11) 2),
  oV 7 (rmv (T 13)),
  oV 8 (rmv (T 14))]
noncomputable abbrev c119_5 : RC := .ops [oV 15 (rmv (T 1)),
  oV 16 (rmv (T 8)),
  oC 17 (T 15) [(T 16)],
  oV 18 (rmv (T 2)),
  oV 19 (rbin env .eql 4 false false (T 17) (T 18))]
noncomputable abbrev c119_6 : RC := .ops [oV 20 (rmv (T 7)),
  oV 6 (rmv (T 20))]
noncomputable abbrev c119_7 : RC := .seq c119_6 .ret
noncomputable abbrev c119_8 : RC := .cond (rX 19) c119_7 .skip
noncomputable abbrev c119_9 : RC := .seq c119_5 c119_8
noncomputable abbrev c119_10 : RC := .seq c119_4 c119_9
noncomputable abbrev c119_11 : RC := .block 1 c119_10
noncomputable abbrev c119_12 : RC := .seq c119_3 c119_11
noncomputable abbrev c119_13 : RC := .seq c119_2 c119_12
noncomputable abbrev c119_14 : RC := .loop c119_13
noncomputable abbrev c119_15 : RC := .block 0 c119_14
noncomputable abbrev c119_16 : RC := .seq c119_1 c119_15
noncomputable abbrev c119_17 : RC := .ops [oV 6 (rmv (K (-1)))]
noncomputable abbrev c119_18 : RC := .seq c119_17 .ret
noncomputable abbrev c119_19 : RC := .seq c119_16 c119_18
noncomputable abbrev c119_20 : RC := .seq c119_0 c119_19
theorem fn119 : env.fn 119 = some ⟨21, [.tmp 6], body119⟩ := by kernel_rfl
theorem comp119 : comp env body119 = c119_20 := by kernel_rfl

/-! ### strings.IndexByte -/
noncomputable def body120 : Code := match Tryd.f120.body with | some c => c | none => .skip
noncomputable abbrev c120_0 : RC := .ops [oV 4 (rmv (K 0))]
noncomputable abbrev c120_1 : RC := .ops [oV 5 (rmv (T 0)),
  oV 6 (rmv (T 1)),
  oC 7 (.func 124) [(T 5), (T 6)],
  oV 4 (rmv (T 7))]
noncomputable abbrev c120_2 : RC := .seq c120_1 .ret
noncomputable abbrev c120_3 : RC := .seq c120_0 c120_2
theorem fn120 : env.fn 120 = some ⟨8, [.tmp 4], body120⟩ := by kernel_rfl
theorem comp120 : comp env body120 = c120_3 := by kernel_rfl

/-! ### unicode/utf8.ValidRune -/
noncomputable def body121 : Code := match Tryd.f121.body with | some c => c | none => .skip
noncomputable abbrev c121_0 : RC := .ops [oV 2 (rmv (.const (.bool false)))]
noncomputable abbrev c121_1 : RC := .ops [oV 4 (rmv (T 0)),
  oV 5 (rbin env .leq 21 true false (.const (.int .i32 0)) (T 4)),
  oV 6 (rmv (T 5)),
  oG 7 6 true (rmv (T 0)),
  oG 8 6 true (rbin env .lss 21 false true (T 7) (.const (.int .i32 55296))),
  oV 9 (rpick (T 6) (T 8) (.const (.bool false))),
  oV 3 (rmv (T 9))]
noncomputable abbrev c121_2 : RC := .ops [oV 2 (rmv (.const (.bool true)))]
noncomputable abbrev c121_3 : RC := .seq c121_2 .ret
noncomputable abbrev c121_4 : RC := .ops [oV 11 (rmv (T 0)),
  oV 12 (rbin env .lss 21 true false (.const (.int .i32 57343)) (T 11)),
  oV 13 (rmv (T 12)),
  oG 14 13 true (rmv (T 0)),
  oG 15 13 true (rbin env .leq 21 false true (T 14) (.const (.int .i32 1114111))),
  oV 16 (rpick (T 13) (T 15) (.const (.bool false))),
  oV 10 (rmv (T 16))]
noncomputable abbrev c121_5 : RC := .ops [oV 2 (rmv (.const (.bool true)))]
noncomputable abbrev c121_6 : RC := .seq c121_5 .ret
noncomputable abbrev c121_7 : RC := .cond (rX 10) c121_6 .skip
noncomputable abbrev c121_8 : RC := .seq c121_4 c121_7
noncomputable abbrev c121_9 : RC := .cond (rX 3) c121_3 c121_8
noncomputable abbrev c121_10 : RC := .seq c121_1 c121_9
noncomputable abbrev c121_11 : RC := .block 0 c121_10
noncomputable abbrev c121_12 : RC := .ops [oV 2 (rmv (.const (.bool false)))]
noncomputable abbrev c121_13 : RC := .seq c121_12 .ret
noncomputable abbrev c121_14 : RC := .seq c121_11 c121_13
noncomputable abbrev c121_15 : RC := .seq c121_0 c121_14
theorem fn121 : env.fn 121 = some ⟨17, [.tmp 2], body121⟩ := by kernel_rfl
theorem comp121 : comp env body121 = c121_15 := by kernel_rfl

/-! ### internal/bytealg.Cutover -/
noncomputable def body122 : Code := match Tryd.f122.body with | some c => c | none => .skip
noncomputable abbrev c122_0 : RC := .ops [oV 2 (rmv (K 0))]
noncomputable abbrev c122_1 : RC := .ops [oV 3 (rmv (T 0)),
  oV 4 (rbin env .add 3 false true (T 3) (K 16)),
  oV 5 (rbin env .quo 3 false true (T 4) (K 8)),
  oV 2 (rmv (T 5))]
noncomputable abbrev c122_2 : RC := .seq c122_1 .ret
noncomputable abbrev c122_3 : RC := .seq c122_0 c122_2
theorem fn122 : env.fn 122 = some ⟨6, [.tmp 2], body122⟩ := by kernel_rfl
theorem comp122 : comp env body122 = c122_3 := by kernel_rfl

/-! ### internal/stringslite.IndexByte -/
noncomputable def body124 : Code := match Tryd.f124.body with | some c => c | none => .skip
noncomputable abbrev c124_0 : RC := .ops [oV 4 (rmv (K 0))]
noncomputable abbrev c124_1 : RC := .ops [oV 5 (rmv (T 0)),
  oV 6 (rmv (T 1)),
  oC 7 (.func 127) [(T 5), (T 6)],
  oV 4 (rmv (T 7))]
noncomputable abbrev c124_2 : RC := .seq c124_1 .ret
noncomputable abbrev c124_3 : RC := .seq c124_0 c124_2
theorem fn124 : env.fn 124 = some ⟨8, [.tmp 4], body124⟩ := by kernel_rfl
theorem comp124 : comp env body124 = c124_3 := by kernel_rfl

/-! ### internal/bytealg.IndexRabinKarp[string] -/
noncomputable def body125 : Code := match Tryd.f125.body with | some c => c | none => .skip
noncomputable abbrev c125_0 : RC := .ops [oV 4 (rmv (K 0))]
noncomputable abbrev c125_1 : RC := .ops [oV 12 (rmv (T 1)),
  oC 13 (.func 128) [(T 12)],
  oV 11 (rmv (T 13)),
  oV 14 (rext (T 11) 0),
  oV 15 (rext (T 11) 1),
  oV 5 (rmv (T 14)),
  oV 6 (rmv (T 15))]
noncomputable abbrev c125_2 : RC := .ops [oV 16 (rmv (T 1)),
  oV 17 (rlenS (T 16)),
  oV 7 (rmv (T 17))]
noncomputable abbrev c125_3 : RC := .ops [oV 8 (rmv (.const (.int .u32 0)))]
noncomputable abbrev c125_4 : RC := .ops [oV 9 (rmv (K 0))]
noncomputable abbrev c125_5 : RC := .ops [oV 18 (rmv (T 9)),
  oV 19 (rmv (T 7)),
  oV 20 (rbin env .lss 3 false false (T 18) (T 19))]
noncomputable abbrev c125_6 : RC := .cond (rX 20) .skip (.exit 0)
noncomputable abbrev c125_7 : RC := .seq c125_5 c125_6
noncomputable abbrev c125_8 : RC := .ops [oV 23 (rmv (T 8)),
  oV 24 (rbin env .mul 176 false true (T 23) (.const (.int .u32 16777619))),
  oV 25 (rmv (T 0)),
  oV 26 (rmv (T 9)),
  oV 27 (ridxS (T 25) (T 26)),
  oU 28 (rconvI .u32 (T 27)),
  oV 29 (rbin env .add 176 false false (T 24) (T 28)),
  oV 8 (rmv (T 29))]
noncomputable abbrev c125_9 : RC := .block 1 c125_8
noncomputable abbrev c125_10 : RC := .ops [oV 21 (rmv (T 9)),
  oV 22 (rbin env .add 3 false true (T 21) (K 1)),
  oV 9 (rmv (T 22))]
noncomputable abbrev c125_11 : RC := .seq c125_9 c125_10
noncomputable abbrev c125_12 : RC := .seq c125_7 c125_11
noncomputable abbrev c125_13 : RC := .loop c125_12
noncomputable abbrev c125_14 : RC := .block 0 c125_13
noncomputable abbrev c125_15 : RC := .seq c125_4 c125_14
noncomputable abbrev c125_16 : RC := .ops [oV 30 (rmv (T 8)),
  oV 31 (rmv (T 5)),
  oV 32 (rbin env .eql 176 false false (T 30) (T 31)),
  oV 33 (rmv (T 32)),
  oG 34 33 true (rmv (T 0)),
  oG 35 33 true (rmv (T 7)),
  oG 36 33 true (rsliceS (T 34) none (some (T 35))),
  oG 37 33 true (rmv (T 1)),
  oG 38 33 true (rbin env .eql 9 false false (T 36) (T 37)),
  oV 39 (rpick (T 33) (T 38) (.const (.bool false)))]
noncomputable abbrev c125_17 : RC := .ops [oV 4 (rmv (K 0))]
noncomputable abbrev c125_18 : RC := .seq c125_17 .ret
noncomputable abbrev c125_19 : RC := .cond (rX 39) c125_18 .skip
noncomputable abbrev c125_20 : RC := .seq c125_16 c125_19
noncomputable abbrev c125_21 : RC := .ops [oV 40 (rmv (T 7)),
  oV 10 (rmv (T 40))]
noncomputable abbrev c125_22 : RC := .ops [oV 41 (rmv (T 10)),
  oV 42 (rmv (T 0)),
  oV 43 (rlenS (T 42)),
  oV 44 (rbin env .lss 3 false false (T 41) (T 43))]
noncomputable abbrev c125_23 : RC := .cond (rX 44) .skip (.exit 2)
noncomputable abbrev c125_24 : RC := .seq c125_22 c125_23
noncomputable abbrev c125_25 : RC := .ops [oV 45 (rmv (T 8)),
  oV 46 (rbin env .mul 176 false true (T 45) (.const (.int .u32 16777619))),
  oV 8 (rmv (T 46))]
noncomputable abbrev c125_26 : RC := .ops [oV 47 (rmv (T 8)),
  oV 48 (rmv (T 0)),
  oV 49 (rmv (T 10)),
  oV 50 (ridxS (T 48) (T 49)),
  oU 51 (rconvI .u32 (T 50)),
  oV 52 (rbin env .add 176 false false (T 47) (T 51)),
  oV 8 (rmv (T 52))]
noncomputable abbrev c125_27 : RC := .ops [oV 53 (rmv (T 8)),
  oV 54 (rmv (T 6)),
  oV 55 (rmv (T 0)),
  oV 56 (rmv (T 10)),
  oV 57 (rmv (T 7)),
  oV 58 (rbin env .sub 3 false false (T 56) (T 57)),
  oV 59 (ridxS (T 55) (T 58)),
  oU 60 (rconvI .u32 (T 59)),
  oV 61 (rbin env .mul 176 false false (T 54) (T 60)),
  oV 62 (rbin env .sub 176 false false (T 53) (T 61)),
  oV 8 (rmv (T 62))]
noncomputable abbrev c125_28 : RC := .ops [oV 63 (rmv (T 10)),
  oV 64 (rbin env .add 3 false true (T 63) (K 1)),
  oV 10 (rmv (T 64))]
noncomputable abbrev c125_29 : RC := .ops [oV 65 (rmv (T 8)),
  oV 66 (rmv (T 5)),
  oV 67 (rbin env .eql 176 false false (T 65) (T 66)),
  oV 68 (rmv (T 67)),
  oG 69 68 true (rmv (T 0)),
  oG 70 68 true (rmv (T 10)),
  oG 71 68 true (rmv (T 7)),
  oG 72 68 true (rbin env .sub 3 false false (T 70) (T 71)),
  oG 73 68 true (rmv (T 10)),
  oG 74 68 true (rsliceS (T 69) (some (T 72)) (some (T 73))),
  oG 75 68 true (rmv (T 1)),
  oG 76 68 true (rbin env .eql 9 false false (T 74) (T 75)),
  oV 77 (rpick (T 68) (T 76) (.const (.bool false)))]
noncomputable abbrev c125_30 : RC := .ops [oV 78 (rmv (T 10)),
  oV 79 (rmv (T 7)),
  oV 80 (rbin env .sub 3 false false (T 78) (T 79)),
  oV 4 (rmv (T 80))]
noncomputable abbrev c125_31 : RC := .seq c125_30 .ret
noncomputable abbrev c125_32 : RC := .cond (rX 77) c125_31 .skip
noncomputable abbrev c125_33 : RC := .seq c125_29 c125_32
noncomputable abbrev c125_34 : RC := .seq c125_28 c125_33
noncomputable abbrev c125_35 : RC := .seq c125_27 c125_34
noncomputable abbrev c125_36 : RC := .seq c125_26 c125_35
noncomputable abbrev c125_37 : RC := .seq c125_25 c125_36
noncomputable abbrev c125_38 : RC := .block 3 c125_37
noncomputable abbrev c125_39 : RC := .seq c125_24 c125_38
noncomputable abbrev c125_40 : RC := .loop c125_39
noncomputable abbrev c125_41 : RC := .block 2 c125_40
noncomputable abbrev c125_42 : RC := .seq c125_21 c125_41
noncomputable abbrev c125_43 : RC := .ops [oV 4 (rmv (K (-1)))]
noncomputable abbrev c125_44 : RC := .seq c125_43 .ret
noncomputable abbrev c125_45 : RC := .seq c125_42 c125_44
noncomputable abbrev c125_46 : RC := .seq c125_20 c125_45
noncomputable abbrev c125_47 : RC := .seq c125_15 c125_46
noncomputable abbrev c125_48 : RC := .seq c125_3 c125_47
noncomputable abbrev c125_49 : RC := .seq c125_2 c125_48
noncomputable abbrev c125_50 : RC := .seq c125_1 c125_49
noncomputable abbrev c125_51 : RC := .seq c125_0 c125_50
theorem fn125 : env.fn 125 = some ⟨81, [.tmp 4], body125⟩ := by kernel_rfl
theorem comp125 : comp env body125 = c125_51 := by kernel_rfl

/-! ### unicode/utf8.RuneStart -/
noncomputable def body126 : Code := match Tryd.f126.body with | some c => c | none => .skip
noncomputable abbrev c126_0 : RC := .ops [oV 2 (rmv (.const (.bool false)))]
noncomputable abbrev c126_1 : RC := .ops [oV 3 (rmv (T 0)),
  oV 4 (rbin env .and 5 false true (T 3) (.const (.int .u8 192))),
  oV 5 (rbin env .neq 5 false true (T 4) (.const (.int .u8 128))),
  oV 2 (rmv (T 5))]
noncomputable abbrev c126_2 : RC := .seq c126_1 .ret
noncomputable abbrev c126_3 : RC := .seq c126_0 c126_2
theorem fn126 : env.fn 126 = some ⟨6, [.tmp 2], body126⟩ := by kernel_rfl
theorem comp126 : comp env body126 = c126_3 := by kernel_rfl

/-! ### internal/bytealg.hashStr[string] -/
noncomputable def body128 : Code := match Tryd.f128.body with | some c => c | none => .skip
noncomputable abbrev c128_0 : RC := .ops [oV 2 (rmv (.const (.int .u32 0))),
  oV 3 (rmv (.const (.int .u32 0)))]
noncomputable abbrev c128_1 : RC := .ops [oV 4 (rmv (.const (.int .u32 0)))]
noncomputable abbrev c128_2 : RC := .ops [oV 5 (rmv (K 0))]
noncomputable abbrev c128_3 : RC := .ops [oV 9 (rmv (T 5)),
  oV 10 (rmv (T 0)),
  oV 11 (rlenS (T 10)),
  oV 12 (rbin env .lss 3 false false (T 9) (T 11))]
noncomputable abbrev c128_4 : RC := .cond (rX 12) .skip (.exit 0)
noncomputable abbrev c128_5 : RC := .seq c128_3 c128_4
noncomputable abbrev c128_6 : RC := .ops [oV 15 (rmv (T 4)),
  oV 16 (rbin env .mul 176 false true (T 15) (.const (.int .u32 16777619))),
  oV 17 (rmv (T 0)),
  oV 18 (rmv (T 5)),
  oV 19 (ridxS (T 17) (T 18)),
  oU 20 (rconvI .u32 (T 19)),
  oV 21 (rbin env .add 176 false false (T 16) (T 20)),
  oV 4 (rmv (T 21))]
noncomputable abbrev c128_7 : RC := .block 1 c128_6
noncomputable abbrev c128_8 : RC := .ops [oV 13 (rmv (T 5)),
  oV 14 (rbin env .add 3 false true (T 13) (K 1)),
  oV 5 (rmv (T 14))]
noncomputable abbrev c128_9 : RC := .seq c128_7 c128_8
noncomputable abbrev c128_10 : RC := .seq c128_5 c128_9
noncomputable abbrev c128_11 : RC := .loop c128_10
noncomputable abbrev c128_12 : RC := .block 0 c128_11
noncomputable abbrev c128_13 : RC := .seq c128_2 c128_12
noncomputable abbrev c128_14 : RC := .ops [oV 6 (rmv (.const (.int .u32 1))),
  oV 7 (rmv (.const (.int .u32 16777619)))]
noncomputable abbrev c128_15 : RC := .ops [oV 22 (rmv (T 0)),
  oV 23 (rlenS (T 22)),
  oV 8 (rmv (T 23))]
noncomputable abbrev c128_16 : RC := .ops [oV 24 (rmv (T 8)),
  oV 25 (rbin env .gtr 3 false true (T 24) (K 0))]
noncomputable abbrev c128_17 : RC := .cond (rX 25) .skip (.exit 2)
noncomputable abbrev c128_18 : RC := .seq c128_16 c128_17
noncomputable abbrev c128_19 : RC := .ops [oV 28 (rmv (T 8)),
  oV 29 (rbin env .and 3 false true (T 28) (K 1)),
  oV 30 (rbin env .neq 3 false true (T 29) (K 0))]
noncomputable abbrev c128_20 : RC := .ops [oV 31 (rmv (T 6)),
  oV 32 (rmv (T 7)),
  oV 33 (rbin env .mul 176 false false (T 31) (T 32)),
  oV 6 (rmv (T 33))]
noncomputable abbrev c128_21 : RC := .cond (rX 30) c128_20 .skip
noncomputable abbrev c128_22 : RC := .seq c128_19 c128_21
noncomputable abbrev c128_23 : RC := .ops [oV 34 (rmv (T 7)),
  oV 35 (rmv (T 7)),
  oV 36 (rbin env .mul 176 false false (T 34) (T 35)),
  oV 7 (rmv (T 36))]
noncomputable abbrev c128_24 : RC := .seq c128_22 c128_23
noncomputable abbrev c128_25 : RC := .block 3 c128_24
noncomputable abbrev c128_26 : RC := .ops [oV 26 (rmv (T 8)),
  oV 27 (rbin env .shr 3 false true (T 26) (.const (.int .u64 1))),
  oV 8 (rmv (T 27))]
noncomputable abbrev c128_27 : RC := .seq c128_25 c128_26
noncomputable abbrev c128_28 : RC := .seq c128_18 c128_27
noncomputable abbrev c128_29 : RC := .loop c128_28
noncomputable abbrev c128_30 : RC := .block 2 c128_29
noncomputable abbrev c128_31 : RC := .seq c128_15 c128_30
noncomputable abbrev c128_32 : RC := .ops [oV 37 (rmv (T 4)),
  oV 38 (rmv (T 6)),
  oV 2 (rmv (T 37)),
  oV 3 (rmv (T 38))]
noncomputable abbrev c128_33 : RC := .seq c128_32 .ret
noncomputable abbrev c128_34 : RC := .seq c128_31 c128_33
noncomputable abbrev c128_35 : RC := .seq c128_14 c128_34
noncomputable abbrev c128_36 : RC := .seq c128_13 c128_35
noncomputable abbrev c128_37 : RC := .seq c128_1 c128_36
noncomputable abbrev c128_38 : RC := .seq c128_0 c128_37
theorem fn128 : env.fn 128 = some ⟨39, [.tmp 2, .tmp 3], body128⟩ := by kernel_rfl
theorem comp128 : comp env body128 = c128_38 := by kernel_rfl
end Go.Proofs.YtmgmbdnhodicjaaDoor
end
