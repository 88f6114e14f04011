/- EventOrder: closed events are in order, and one made behind them is closed with them. Of any arguments. Part 22 of 38; no condition. -/
import Derived.Test.YtmgmbdnhodicjaaDoorM21
set_option linter.unusedVariables false
set_option linter.unusedSimpArgs false
section
set_option maxRecDepth 100000
namespace Go.Proofs.YtmgmbdnhodicjaaDoor
open Go Go.Am Go.Pm
noncomputable def body3 : Code := match Tryd.f3.body with | some c => c | none => .skip
theorem fn3 : env.fn 3 = some ⟨101, [.tmp 0], body3⟩ := by kernel_rfl
noncomputable def body6 : Code := match Tryd.f6.body with | some c => c | none => .skip
noncomputable abbrev c6_0 : RC := .ops [oV 4 (rmv (.const (.bool false)))]
noncomputable abbrev c6_1 : RC := .ops [oC 15 (.func 24) [],
  oV 5 (rmv (T 15))]
noncomputable abbrev c6_2 : RC := .ops [oV 16 (rmv (T 0)),
  oC 17 (.func 22) [(T 16), (K 20)],
  oV 18 (rmv (T 17)),
  oG 19 18 false (rmv (T 0)),
  oCG 20 18 false (.func 25) [(T 19)],
  oG 21 18 false (run' .not (T 20)),
  oV 22 (rpick (T 18) (.const (.bool true)) (T 21))]
noncomputable abbrev c6_3 : RC := .ops [oV 23 (rmv (T 5)),
  oV 4 (rmv (T 23))]
noncomputable abbrev c6_4 : RC := .seq c6_3 .ret
noncomputable abbrev c6_5 : RC := .cond (rX 22) c6_4 .skip
noncomputable abbrev c6_6 : RC := .seq c6_2 c6_5
noncomputable abbrev c6_7 : RC := .ops [oV 6 (rmv (K 0))]
noncomputable abbrev c6_8 : RC := .ops [oV 24 (rmv (T 6)),
  oV 25 (rmv (T 0)),
  oV 26 (rlen (T 25)),
  oV 27 (rbin env .lss 3 false false (T 24) (T 26))]
noncomputable abbrev c6_9 : RC := .cond (rX 27) .skip (.exit 0)
noncomputable abbrev c6_10 : RC := .seq c6_8 c6_9
noncomputable abbrev c6_11 : RC := .ops [oV 7 (rmv (K 0))]
noncomputable abbrev c6_12 : RC := .ops [oV 30 (rmv (T 7)),
  oV 31 (rmv (T 0)),
  oV 32 (rlen (T 31)),
  oV 33 (rbin env .lss 3 false false (T 30) (T 32))]
noncomputable abbrev c6_13 : RC := .cond (rX 33) .skip (.exit 2)
noncomputable abbrev c6_14 : RC := .seq c6_12 c6_13
noncomputable abbrev c6_15 : RC := .drawn true [dV 36 (rmv (T 0)),
  dV 37 (rmv (T 6)),
  dV 38 (riaddr 7 (T 36) (T 37)),
  dV 39 (rload true 7 (T 38)),
  dV 40 (rmv (T 0)),
  dV 41 (rmv (T 7)),
  dV 42 (riaddr 7 (T 40) (T 41)),
  dV 43 (rload true 7 (T 42)),
  dC true 44 (.func 26) [(T 39), (T 43)],
  dV 8 (rmv (T 44))]
noncomputable abbrev c6_16 : RC := .drawn true [dV 45 (rmv (T 8)),
  dV 46 (rmv (T 45)),
  dG 47 46 true (rmv (T 6)),
  dG 48 46 true (rmv (T 7)),
  dG 49 46 true (rbin env .eql 3 false false (T 47) (T 48)),
  dG 50 46 true (rmv (T 49)),
  dG 51 50 false (rmv (T 0)),
  dG 52 50 false (rmv (T 7)),
  dG 53 50 false (riaddr 7 (T 51) (T 52)),
  dG 54 50 false (rload true 7 (T 53)),
  dG 55 50 false (rmv (T 0)),
  dG 56 50 false (rmv (T 6)),
  dG 57 50 false (riaddr 7 (T 55) (T 56)),
  dG 58 50 false (rload true 7 (T 57)),
  dCG true 59 50 false (.func 26) [(T 54), (T 58)],
  dG 60 46 true (rpick (T 50) (.const (.bool true)) (T 59)),
  dV 61 (rpick (T 46) (T 60) (.const (.bool false)))]
noncomputable abbrev c6_17 : RC := .ops [oV 4 (rmv (.const (.bool false)))]
noncomputable abbrev c6_18 : RC := .seq c6_17 .ret
noncomputable abbrev c6_19 : RC := .cond (rX 61) c6_18 .skip
noncomputable abbrev c6_20 : RC := .seq c6_16 c6_19
noncomputable abbrev c6_21 : RC := .ops [oV 9 (rmv (K 0))]
noncomputable abbrev c6_22 : RC := .ops [oV 62 (rmv (T 8)),
  oV 63 (rmv (T 62)),
  oG 64 63 true (rmv (T 9)),
  oG 65 63 true (rmv (T 0)),
  oG 66 63 true (rlen (T 65)),
  oG 67 63 true (rbin env .lss 3 false false (T 64) (T 66)),
  oV 68 (rpick (T 63) (T 67) (.const (.bool false)))]
noncomputable abbrev c6_23 : RC := .cond (rX 68) .skip (.exit 4)
noncomputable abbrev c6_24 : RC := .seq c6_22 c6_23
noncomputable abbrev c6_25 : RC := .drawn true [dV 71 (rmv (T 0)),
  dV 72 (rmv (T 7)),
  dV 73 (riaddr 7 (T 71) (T 72)),
  dV 74 (rload true 7 (T 73)),
  dV 75 (rmv (T 0)),
  dV 76 (rmv (T 9)),
  dV 77 (riaddr 7 (T 75) (T 76)),
  dV 78 (rload true 7 (T 77)),
  dC true 79 (.func 26) [(T 74), (T 78)],
  dV 80 (rmv (T 79)),
  dG 81 80 true (rmv (T 0)),
  dG 82 80 true (rmv (T 6)),
  dG 83 80 true (riaddr 7 (T 81) (T 82)),
  dG 84 80 true (rload true 7 (T 83)),
  dG 85 80 true (rmv (T 0)),
  dG 86 80 true (rmv (T 9)),
  dG 87 80 true (riaddr 7 (T 85) (T 86)),
  dG 88 80 true (rload true 7 (T 87)),
  dCG true 89 80 true (.func 26) [(T 84), (T 88)],
  dG 90 80 true (run' .not (T 89)),
  dV 91 (rpick (T 80) (T 90) (.const (.bool false)))]
noncomputable abbrev c6_26 : RC := .ops [oV 4 (rmv (.const (.bool false)))]
noncomputable abbrev c6_27 : RC := .seq c6_26 .ret
noncomputable abbrev c6_28 : RC := .cond (rX 91) c6_27 .skip
noncomputable abbrev c6_29 : RC := .seq c6_25 c6_28
noncomputable abbrev c6_30 : RC := .block 5 c6_29
noncomputable abbrev c6_31 : RC := .ops [oV 69 (rmv (T 9)),
  oV 70 (rbin env .add 3 false true (T 69) (K 1)),
  oV 9 (rmv (T 70))]
noncomputable abbrev c6_32 : RC := .seq c6_30 c6_31
noncomputable abbrev c6_33 : RC := .seq c6_24 c6_32
noncomputable abbrev c6_34 : RC := .loop c6_33
noncomputable abbrev c6_35 : RC := .block 4 c6_34
noncomputable abbrev c6_36 : RC := .seq c6_21 c6_35
noncomputable abbrev c6_37 : RC := .seq c6_20 c6_36
noncomputable abbrev c6_38 : RC := .seq c6_15 c6_37
noncomputable abbrev c6_39 : RC := .block 3 c6_38
noncomputable abbrev c6_40 : RC := .ops [oV 34 (rmv (T 7)),
  oV 35 (rbin env .add 3 false true (T 34) (K 1)),
  oV 7 (rmv (T 35))]
noncomputable abbrev c6_41 : RC := .seq c6_39 c6_40
noncomputable abbrev c6_42 : RC := .seq c6_14 c6_41
noncomputable abbrev c6_43 : RC := .loop c6_42
noncomputable abbrev c6_44 : RC := .block 2 c6_43
noncomputable abbrev c6_45 : RC := .seq c6_11 c6_44
noncomputable abbrev c6_46 : RC := .block 1 c6_45
noncomputable abbrev c6_47 : RC := .ops [oV 28 (rmv (T 6)),
  oV 29 (rbin env .add 3 false true (T 28) (K 1)),
  oV 6 (rmv (T 29))]
noncomputable abbrev c6_48 : RC := .seq c6_46 c6_47
noncomputable abbrev c6_49 : RC := .seq c6_10 c6_48
noncomputable abbrev c6_50 : RC := .loop c6_49
noncomputable abbrev c6_51 : RC := .block 0 c6_50
noncomputable abbrev c6_52 : RC := .seq c6_7 c6_51
noncomputable abbrev c6_53 : RC := .ops [oV 93 (rmv (T 0)),
  oC 94 (.func 27) [(T 93)],
  oV 92 (rmv (T 94)),
  oV 95 (rext (T 92) 0),
  oV 96 (rext (T 92) 1),
  oV 10 (rmv (T 95)),
  oV 11 (rmv (T 96))]
noncomputable abbrev c6_54 : RC := .ops [oV 97 (rmv (T 1)),
  oC 98 (.func 15) [(T 97), (K 200)],
  oV 99 (rbin env .add 3 true false (K 1) (T 98)),
  oV 1 (rmv (T 99))]
noncomputable abbrev c6_55 : RC := .ops [oV 100 (rmv (T 10)),
  oV 101 (rmv (T 1)),
  oC 102 (.func 28) [(T 100), (T 101)],
  oV 12 (rmv (T 102))]
noncomputable abbrev c6_56 : RC := .ops [oV 103 (rmv (T 11)),
  oV 104 (rbin env .neq 23 false true (T 103) (K 0)),
  oV 105 (rmv (T 104)),
  oG 106 105 false (rmv (T 12)),
  oG 107 105 false (rbin env .geq 3 false true (T 106) (K 2147483647)),
  oV 108 (rpick (T 105) (.const (.bool true)) (T 107))]
noncomputable abbrev c6_57 : RC := .ops [oV 109 (rmv (T 5)),
  oV 110 (rmv (T 109)),
  oG 111 110 true (rmv (T 11)),
  oG 112 110 true (rbin env .eql 23 false true (T 111) (K 0)),
  oV 113 (rpick (T 110) (T 112) (.const (.bool false))),
  oV 4 (rmv (T 113))]
noncomputable abbrev c6_58 : RC := .seq c6_57 .ret
noncomputable abbrev c6_59 : RC := .cond (rX 108) c6_58 .skip
noncomputable abbrev c6_60 : RC := .seq c6_56 c6_59
noncomputable abbrev c6_61 : RC := .ops [oV 114 (rmv (T 1)),
  oV 115 (rmv (T 12)),
  oV 116 (rbin env .add 3 false true (T 115) (K 1)),
  oV 117 (rbuild [.v (.int .i64 0), .v (.int .i64 0)] [(0, 1), (1, 1)] [(0, (T 114)), (1, (T 116))]),
  oV 118 (rbuild [.v (.int .i64 0), .v (.int .i64 0), .lst .full 0 0 []] [(0, 1), (1, 1), (2, 1)] [(0, (K 2))]),
  oV 119 (rmv (T 10)),
  oV 120 (rbuild [.v (.int .i64 0), .v (.int .i64 0), .v (.string ⟨#[]⟩), .v (.int .i64 0), .v (.int .i64 0), .lst .full 0 0 [], .lst .full 0 0 []] [(0, 2), (2, 1), (3, 3), (6, 1)] [(0, (T 117)), (1, (.const (.string ⟨#[97, 47, 98]⟩))), (2, (T 118)), (3, (T 119))]),
  oU 13 (rnew [.v (.int .i64 0), .v (.int .i64 0), .v (.string ⟨#[]⟩), .v (.int .i64 0), .v (.int .i64 0), .lst .full 0 0 [], .lst .full 0 0 []]),
  oS (rstore 7 (T 13) (T 120))]
noncomputable abbrev c6_62 : RC := .ops [oV 14 (rmv (K 0))]
noncomputable abbrev c6_63 : RC := .ops [oV 121 (rmv (T 14)),
  oV 122 (rmv (T 0)),
  oV 123 (rlen (T 122)),
  oV 124 (rbin env .lss 3 false false (T 121) (T 123))]
noncomputable abbrev c6_64 : RC := .cond (rX 124) .skip (.exit 6)
noncomputable abbrev c6_65 : RC := .seq c6_63 c6_64
noncomputable abbrev c6_66 : RC := .drawn true [dV 127 (rmv (T 0)),
  dV 128 (rmv (T 14)),
  dV 129 (riaddr 7 (T 127) (T 128)),
  dV 130 (rload true 7 (T 129)),
  dV 131 (rload true 7 (T 13)),
  dC true 132 (.func 26) [(T 130), (T 131)],
  dV 133 (run' .not (T 132)),
  dV 134 (rmv (T 133)),
  dG 135 134 false (rload true 7 (T 13)),
  dG 136 134 false (rmv (T 0)),
  dG 137 134 false (rmv (T 14)),
  dG 138 134 false (riaddr 7 (T 136) (T 137)),
  dG 139 134 false (rload true 7 (T 138)),
  dCG true 140 134 false (.func 26) [(T 135), (T 139)],
  dV 141 (rpick (T 134) (.const (.bool true)) (T 140))]
noncomputable abbrev c6_67 : RC := .ops [oV 4 (rmv (.const (.bool false)))]
noncomputable abbrev c6_68 : RC := .seq c6_67 .ret
noncomputable abbrev c6_69 : RC := .cond (rX 141) c6_68 .skip
noncomputable abbrev c6_70 : RC := .seq c6_66 c6_69
noncomputable abbrev c6_71 : RC := .block 7 c6_70
noncomputable abbrev c6_72 : RC := .ops [oV 125 (rmv (T 14)),
  oV 126 (rbin env .add 3 false true (T 125) (K 1)),
  oV 14 (rmv (T 126))]
noncomputable abbrev c6_73 : RC := .seq c6_71 c6_72
noncomputable abbrev c6_74 : RC := .seq c6_65 c6_73
noncomputable abbrev c6_75 : RC := .loop c6_74
noncomputable abbrev c6_76 : RC := .block 6 c6_75
noncomputable abbrev c6_77 : RC := .seq c6_62 c6_76
noncomputable abbrev c6_78 : RC := .drawn true [dV 142 (rmv (T 5)),
  dV 143 (rmv (T 142)),
  dG 144 143 true (rload true 7 (T 13)),
  dCG true 145 143 true (.func 20) [(T 144)],
  dG 146 143 true (rbin env .eql 23 false true (T 145) (K 0)),
  dV 147 (rpick (T 143) (T 146) (.const (.bool false))),
  dV 148 (rmv (T 147)),
  dG 149 148 true (rmv (T 0)),
  dG 151 148 true (rload true 7 (T 13)),
  dH 152 148 true (rbuildL 7 1 [.v (.int .i64 0), .v (.int .i64 0), .v (.string ⟨#[]⟩), .v (.int .i64 0), .v (.int .i64 0), .lst .full 0 0 [], .lst .full 0 0 []] [(0, (T 151))]),
  dCG false 150 148 true (.func 29) [(T 149)],
  .alt true (rI (some 153) (some (148, true)) (rappend 7 96 7 (T 150) (T 152))) (rI (some 153) (some (148, true)) (rappendR 7 96 7 (T 150) (T 152))),
  dCG true 154 148 true (.func 25) [(T 153)],
  dV 155 (rpick (T 148) (T 154) (.const (.bool false))),
  dV 4 (rmv (T 155))]
noncomputable abbrev c6_79 : RC := .seq c6_78 .ret
noncomputable abbrev c6_80 : RC := .seq c6_77 c6_79
noncomputable abbrev c6_81 : RC := .seq c6_61 c6_80
noncomputable abbrev c6_82 : RC := .seq c6_60 c6_81
noncomputable abbrev c6_83 : RC := .seq c6_55 c6_82
noncomputable abbrev c6_84 : RC := .seq c6_54 c6_83
noncomputable abbrev c6_85 : RC := .seq c6_53 c6_84
noncomputable abbrev c6_86 : RC := .seq c6_52 c6_85
noncomputable abbrev c6_87 : RC := .seq c6_6 c6_86
noncomputable abbrev c6_88 : RC := .seq c6_1 c6_87
noncomputable abbrev c6_89 : RC := .seq c6_0 c6_88
theorem fn6 : env.fn 6 = some ⟨156, [.tmp 4], body6⟩ := by kernel_rfl
theorem comp6 : comp env body6 = c6_89 := by kernel_rfl
noncomputable def body15 : Code := match Tryd.f15.body with | some c => c | none => .skip
noncomputable abbrev c15_0 : RC := .ops [oV 4 (rmv (K 0))]
noncomputable abbrev c15_1 : RC := .ops [oV 5 (rmv (T 1)),
  oV 6 (rbin env .lss 3 false true (T 5) (K 1))]
noncomputable abbrev c15_2 : RC := .ops [oV 4 (rmv (K 0))]
noncomputable abbrev c15_3 : RC := .seq c15_2 .ret
noncomputable abbrev c15_4 : RC := .cond (rX 6) c15_3 .skip
noncomputable abbrev c15_5 : RC := .seq c15_1 c15_4
noncomputable abbrev c15_6 : RC := .ops [oV 7 (rmv (T 0)),
  oV 8 (rmv (T 1)),
  oV 9 (rbin env .rem 3 false false (T 7) (T 8)),
  oV 10 (rmv (T 1)),
  oV 11 (rbin env .add 3 false false (T 9) (T 10)),
  oV 12 (rmv (T 1)),
  oV 13 (rbin env .rem 3 false false (T 11) (T 12)),
  oV 4 (rmv (T 13))]
noncomputable abbrev c15_7 : RC := .seq c15_6 .ret
noncomputable abbrev c15_8 : RC := .seq c15_5 c15_7
noncomputable abbrev c15_9 : RC := .seq c15_0 c15_8
theorem fn15 : env.fn 15 = some ⟨14, [.tmp 4], body15⟩ := by kernel_rfl
theorem comp15 : comp env body15 = c15_9 := by kernel_rfl
noncomputable def body20 : Code := match Tryd.f20.body with | some c => c | none => .skip
noncomputable abbrev c20_0 : RC := .ops [oU 1 (rbox (T 0)),
  oV 2 (rmv (K 0))]
noncomputable abbrev c20_1 : RC := .ops [oV 6 (rload true 7 (T 1)),
  oV 7 (rbuild [.v (.int .i64 0), .v (.int .i64 0), .v (.string ⟨#[]⟩), .v (.int .i64 0), .v (.int .i64 0), .lst .full 0 0 [], .lst .full 0 0 []] [(0, 7)] [(0, (T 6))]),
  oU 3 (rnew [.v (.int .i64 0), .v (.int .i64 0), .v (.string ⟨#[]⟩), .v (.int .i64 0), .v (.int .i64 0), .lst .full 0 0 [], .lst .full 0 0 []]),
  oS (rstore 7 (T 3) (T 7))]
noncomputable abbrev c20_2 : RC := .ops [oV 8 (rload true 7 (T 3)),
  oV 9 (rfn 39 [(T 8)] []),
  oV 10 (rload true 7 (T 3)),
  oV 11 (rfn 40 [(T 10)] []),
  oV 12 (rload true 7 (T 3)),
  oV 13 (rfn 41 [(T 12)] []),
  oV 14 (rload true 7 (T 3)),
  oV 15 (rfn 42 [(T 14)] []),
  oV 16 (rload true 7 (T 3)),
  oV 17 (rfn 43 [(T 16)] []),
  oU 18 (rbuildL 1 5 [.v (.nilFunc), .v (.nilFunc), .v (.nilFunc), .v (.nilFunc), .v (.nilFunc)] [(0, (T 9)), (1, (T 11)), (2, (T 13)), (3, (T 15)), (4, (T 17))]),
  oV 19 (rlen (T 18)),
  oV 20 (rmv (K 0))]
noncomputable abbrev c20_3 : RC := .ops [oV 21 (rbin env .lss 3 false false (T 20) (T 19))]
noncomputable abbrev c20_4 : RC := .cond (rX 21) .skip (.exit 0)
noncomputable abbrev c20_5 : RC := .ops [oV 22 (riaddr 1 (T 18) (T 20)),
  oV 23 (rload false 1 (T 22)),
  oV 5 (rmv (T 23))]
noncomputable abbrev c20_6 : RC := .ops [oV 24 (rmv (T 5)),
  oC 25 (T 24) [],
  oV 26 (run' .not (T 25))]
noncomputable abbrev c20_7 : RC := .ops [oV 2 (rmv (K 2))]
noncomputable abbrev c20_8 : RC := .seq c20_7 .ret
noncomputable abbrev c20_9 : RC := .cond (rX 26) c20_8 .skip
noncomputable abbrev c20_10 : RC := .seq c20_6 c20_9
noncomputable abbrev c20_11 : RC := .seq c20_5 c20_10
noncomputable abbrev c20_12 : RC := .block 1 c20_11
noncomputable abbrev c20_13 : RC := .ops [oV 27 (rbin env .add 3 false true (T 20) (K 1)),
  oV 20 (rmv (T 27))]
noncomputable abbrev c20_14 : RC := .seq c20_12 c20_13
noncomputable abbrev c20_15 : RC := .seq c20_4 c20_14
noncomputable abbrev c20_16 : RC := .seq c20_3 c20_15
noncomputable abbrev c20_17 : RC := .loop c20_16
noncomputable abbrev c20_18 : RC := .block 0 c20_17
noncomputable abbrev c20_19 : RC := .seq c20_2 c20_18
noncomputable abbrev c20_20 : RC := .ops [oV 2 (rmv (K 0))]
noncomputable abbrev c20_21 : RC := .seq c20_20 .ret
noncomputable abbrev c20_22 : RC := .seq c20_19 c20_21
noncomputable abbrev c20_23 : RC := .seq c20_1 c20_22
noncomputable abbrev c20_24 : RC := .seq c20_0 c20_23
theorem fn20 : env.fn 20 = some ⟨28, [.tmp 2], body20⟩ := by kernel_rfl
theorem comp20 : comp env body20 = c20_24 := by kernel_rfl
noncomputable def body22 : Code := match Tryd.f22.body with | some c => c | none => .skip
noncomputable abbrev c22_0 : RC := .ops [oV 4 (rmv (.const (.bool false)))]
noncomputable abbrev c22_1 : RC := .ops [oV 5 (rmv (K 0))]
noncomputable abbrev c22_2 : RC := .ops [oV 6 (rmv (T 5)),
  oV 7 (rmv (T 0)),
  oV 8 (rlen (T 7)),
  oV 9 (rbin env .lss 3 false false (T 6) (T 8)),
  oV 10 (rmv (T 9)),
  oG 11 10 true (rmv (T 5)),
  oG 12 10 true (rmv (T 1)),
  oG 13 10 true (rbin env .leq 3 false false (T 11) (T 12)),
  oV 14 (rpick (T 10) (T 13) (.const (.bool false)))]
noncomputable abbrev c22_3 : RC := .cond (rX 14) .skip (.exit 0)
noncomputable abbrev c22_4 : RC := .seq c22_2 c22_3
noncomputable abbrev c22_5 : RC := .ops [oV 17 (rmv (T 0)),
  oV 18 (rmv (T 5)),
  oV 19 (riaddr 7 (T 17) (T 18)),
  oV 20 (rfaddr 2 (T 19)),
  oV 21 (rload false 1 (T 20)),
  oV 22 (rlenS (T 21)),
  oV 23 (rbin env .gtr 3 false true (T 22) (K 100)),
  oV 24 (rmv (T 23)),
  oG 25 24 false (rmv (T 0)),
  oG 26 24 false (rmv (T 5)),
  oG 27 24 false (riaddr 7 (T 25) (T 26)),
  oG 28 24 false (rfaddr 3 (T 27)),
  oG 29 24 false (rload true 3 (T 28)),
  oCG 30 24 false (.func 45) [(T 29)],
  oV 31 (rpick (T 24) (.const (.bool true)) (T 30)),
  oV 32 (rmv (T 31)),
  oG 33 32 false (rmv (T 0)),
  oG 34 32 false (rmv (T 5)),
  oG 35 32 false (riaddr 7 (T 33) (T 34)),
  oG 36 32 false (rfaddr 6 (T 35)),
  oG 37 32 false (rload false 1 (T 36)),
  oG 38 32 false (rlen (T 37)),
  oG 39 32 false (rbin env .gtr 3 false true (T 38) (K 100)),
  oV 40 (rpick (T 32) (.const (.bool true)) (T 39))]
noncomputable abbrev c22_6 : RC := .ops [oV 4 (rmv (.const (.bool true)))]
noncomputable abbrev c22_7 : RC := .seq c22_6 .ret
noncomputable abbrev c22_8 : RC := .cond (rX 40) c22_7 .skip
noncomputable abbrev c22_9 : RC := .seq c22_5 c22_8
noncomputable abbrev c22_10 : RC := .block 1 c22_9
noncomputable abbrev c22_11 : RC := .ops [oV 15 (rmv (T 5)),
  oV 16 (rbin env .add 3 false true (T 15) (K 1)),
  oV 5 (rmv (T 16))]
noncomputable abbrev c22_12 : RC := .seq c22_10 c22_11
noncomputable abbrev c22_13 : RC := .seq c22_4 c22_12
noncomputable abbrev c22_14 : RC := .loop c22_13
noncomputable abbrev c22_15 : RC := .block 0 c22_14
noncomputable abbrev c22_16 : RC := .seq c22_1 c22_15
noncomputable abbrev c22_17 : RC := .ops [oV 41 (rmv (T 0)),
  oV 42 (rlen (T 41)),
  oV 43 (rmv (T 1)),
  oV 44 (rbin env .gtr 3 false false (T 42) (T 43)),
  oV 4 (rmv (T 44))]
noncomputable abbrev c22_18 : RC := .seq c22_17 .ret
noncomputable abbrev c22_19 : RC := .seq c22_16 c22_18
noncomputable abbrev c22_20 : RC := .seq c22_0 c22_19
theorem fn22 : env.fn 22 = some ⟨45, [.tmp 4], body22⟩ := by kernel_rfl
theorem comp22 : comp env body22 = c22_20 := by kernel_rfl
noncomputable def body24 : Code := match Tryd.f24.body with | some c => c | none => .skip
theorem fn24 : env.fn 24 = some ⟨46, [.tmp 0], body24⟩ := by kernel_rfl
noncomputable def body25 : Code := match Tryd.f25.body with | some c => c | none => .skip
noncomputable abbrev c25_0 : RC := .ops [oV 2 (rmv (.const (.bool false)))]
noncomputable abbrev c25_1 : RC := .ops [oV 7 (rmv (T 0)),
  oV 8 (rlen (T 7)),
  oV 9 (rmv (K 0))]
noncomputable abbrev c25_2 : RC := .ops [oV 10 (rbin env .lss 3 false false (T 9) (T 8))]
noncomputable abbrev c25_3 : RC := .cond (rX 10) .skip (.exit 0)
noncomputable abbrev c25_4 : RC := .ops [oV 11 (rmv (T 9)),
  oV 12 (riaddr 7 (T 7) (T 9)),
  oV 13 (rload true 7 (T 12)),
  oU 4 (rnew [.v (.int .i64 0), .v (.int .i64 0), .v (.string ⟨#[]⟩), .v (.int .i64 0), .v (.int .i64 0), .lst .full 0 0 [], .lst .full 0 0 []]),
  oV 3 (rmv (T 11)),
  oS (rstore 7 (T 4) (T 13))]
noncomputable abbrev c25_5 : RC := .ops [oV 14 (rload true 7 (T 4)),
  oC 15 (.func 20) [(T 14)],
  oV 16 (rbin env .neq 23 false true (T 15) (K 0))]
noncomputable abbrev c25_6 : RC := .ops [oV 2 (rmv (.const (.bool false)))]
noncomputable abbrev c25_7 : RC := .seq c25_6 .ret
noncomputable abbrev c25_8 : RC := .cond (rX 16) c25_7 .skip
noncomputable abbrev c25_9 : RC := .seq c25_5 c25_8
noncomputable abbrev c25_10 : RC := .ops [oV 17 (rmv (T 0)),
  oV 18 (rlen (T 17)),
  oV 19 (rmv (K 0))]
noncomputable abbrev c25_11 : RC := .ops [oV 20 (rbin env .lss 3 false false (T 19) (T 18))]
noncomputable abbrev c25_12 : RC := .cond (rX 20) .skip (.exit 2)
noncomputable abbrev c25_13 : RC := .ops [oV 21 (rmv (T 19)),
  oV 22 (riaddr 7 (T 17) (T 19)),
  oV 23 (rload true 7 (T 22)),
  oU 6 (rnew [.v (.int .i64 0), .v (.int .i64 0), .v (.string ⟨#[]⟩), .v (.int .i64 0), .v (.int .i64 0), .lst .full 0 0 [], .lst .full 0 0 []]),
  oV 5 (rmv (T 21)),
  oS (rstore 7 (T 6) (T 23))]
noncomputable abbrev c25_14 : RC := .ops [oV 24 (rmv (T 5)),
  oV 25 (rmv (T 3)),
  oV 26 (rbin env .neq 3 false false (T 24) (T 25)),
  oV 27 (rmv (T 26)),
  oG 28 27 true (rfaddr 0 (T 4)),
  oG 29 27 true (rload true 2 (T 28)),
  oG 30 27 true (rfaddr 0 (T 6)),
  oG 31 27 true (rload true 2 (T 30)),
  oG 32 27 true (rbin env .eql 28 false false (T 29) (T 31)),
  oG 33 27 true (rmv (T 32)),
  oG 34 33 false (rload true 7 (T 4)),
  oG 35 33 false (rload true 7 (T 6)),
  oCG 36 33 false (.func 26) [(T 34), (T 35)],
  oG 37 33 false (rmv (T 36)),
  oG 38 37 true (rfaddr 6 (T 4)),
  oG 39 37 true (rload false 1 (T 38)),
  oG 40 37 true (rfaddr 6 (T 6)),
  oG 41 37 true (rload false 1 (T 40)),
  oCG 42 37 true (.func 49) [(T 39), (T 41)],
  oG 43 37 true (run' .not (T 42)),
  oG 44 33 false (rpick (T 37) (T 43) (.const (.bool false))),
  oG 45 27 true (rpick (T 33) (.const (.bool true)) (T 44)),
  oV 46 (rpick (T 27) (T 45) (.const (.bool false)))]
noncomputable abbrev c25_15 : RC := .ops [oV 2 (rmv (.const (.bool false)))]
noncomputable abbrev c25_16 : RC := .seq c25_15 .ret
noncomputable abbrev c25_17 : RC := .cond (rX 46) c25_16 .skip
noncomputable abbrev c25_18 : RC := .seq c25_14 c25_17
noncomputable abbrev c25_19 : RC := .seq c25_13 c25_18
noncomputable abbrev c25_20 : RC := .block 3 c25_19
noncomputable abbrev c25_21 : RC := .ops [oV 47 (rbin env .add 3 false true (T 19) (K 1)),
  oV 19 (rmv (T 47))]
noncomputable abbrev c25_22 : RC := .seq c25_20 c25_21
noncomputable abbrev c25_23 : RC := .seq c25_12 c25_22
noncomputable abbrev c25_24 : RC := .seq c25_11 c25_23
noncomputable abbrev c25_25 : RC := .loop c25_24
noncomputable abbrev c25_26 : RC := .block 2 c25_25
noncomputable abbrev c25_27 : RC := .seq c25_10 c25_26
noncomputable abbrev c25_28 : RC := .seq c25_9 c25_27
noncomputable abbrev c25_29 : RC := .seq c25_4 c25_28
noncomputable abbrev c25_30 : RC := .block 1 c25_29
noncomputable abbrev c25_31 : RC := .ops [oV 48 (rbin env .add 3 false true (T 9) (K 1)),
  oV 9 (rmv (T 48))]
noncomputable abbrev c25_32 : RC := .seq c25_30 c25_31
noncomputable abbrev c25_33 : RC := .seq c25_3 c25_32
noncomputable abbrev c25_34 : RC := .seq c25_2 c25_33
noncomputable abbrev c25_35 : RC := .loop c25_34
noncomputable abbrev c25_36 : RC := .block 0 c25_35
noncomputable abbrev c25_37 : RC := .seq c25_1 c25_36
noncomputable abbrev c25_38 : RC := .ops [oV 2 (rmv (.const (.bool true)))]
noncomputable abbrev c25_39 : RC := .seq c25_38 .ret
noncomputable abbrev c25_40 : RC := .seq c25_37 c25_39
noncomputable abbrev c25_41 : RC := .seq c25_0 c25_40
theorem fn25 : env.fn 25 = some ⟨49, [.tmp 2], body25⟩ := by kernel_rfl
theorem comp25 : comp env body25 = c25_41 := by kernel_rfl
noncomputable def body26 : Code := match Tryd.f26.body with | some c => c | none => .skip
noncomputable abbrev c26_0 : RC := .ops [oU 2 (rbox (T 0)),
  oU 3 (rbox (T 1)),
  oV 4 (rmv (.const (.bool false)))]
noncomputable abbrev c26_1 : RC := .ops [oV 5 (rload true 7 (T 2)),
  oC 6 (.func 20) [(T 5)],
  oV 7 (rbin env .eql 23 false true (T 6) (K 0)),
  oV 8 (rmv (T 7)),
  oG 9 8 true (rload true 7 (T 3)),
  oCG 10 8 true (.func 20) [(T 9)],
  oG 11 8 true (rbin env .eql 23 false true (T 10) (K 0)),
  oV 12 (rpick (T 8) (T 11) (.const (.bool false))),
  oV 13 (rmv (T 12)),
  oG 14 13 true (rfaddr 6 (T 3)),
  oG 15 13 true (rload false 1 (T 14)),
  oG 16 13 true (rfaddr 0 (T 2)),
  oG 17 13 true (rload true 2 (T 16)),
  oCG 18 13 true (.func 50) [(T 15), (T 17)],
  oV 19 (rpick (T 13) (T 18) (.const (.bool false))),
  oV 4 (rmv (T 19))]
noncomputable abbrev c26_2 : RC := .seq c26_1 .ret
noncomputable abbrev c26_3 : RC := .seq c26_0 c26_2
theorem fn26 : env.fn 26 = some ⟨20, [.tmp 4], body26⟩ := by kernel_rfl
theorem comp26 : comp env body26 = c26_3 := by kernel_rfl
noncomputable def body27 : Code := match Tryd.f27.body with | some c => c | none => .skip
noncomputable abbrev c27_0 : RC := .ops [oV 2 (rmv (.const (.slice none 0 0))),
  oV 3 (rmv (K 0))]
noncomputable abbrev c27_1 : RC := .ops [oV 12 (rmv (T 0)),
  oV 13 (rlen (T 12)),
  oV 14 (rmv (K 0))]
noncomputable abbrev c27_2 : RC := .ops [oV 15 (rbin env .lss 3 false false (T 14) (T 13))]
noncomputable abbrev c27_3 : RC := .cond (rX 15) .skip (.exit 0)
noncomputable abbrev c27_4 : RC := .ops [oV 16 (riaddr 7 (T 12) (T 14)),
  oV 17 (rload true 7 (T 16)),
  oU 5 (rnew [.v (.int .i64 0), .v (.int .i64 0), .v (.string ⟨#[]⟩), .v (.int .i64 0), .v (.int .i64 0), .lst .full 0 0 [], .lst .full 0 0 []]),
  oS (rstore 7 (T 5) (T 17))]
noncomputable abbrev c27_5 : RC := .ops [oV 18 (rload true 7 (T 5)),
  oC 19 (.func 20) [(T 18)],
  oV 6 (rmv (T 19))]
noncomputable abbrev c27_6 : RC := .ops [oV 20 (rmv (T 6)),
  oV 21 (rbin env .neq 23 false true (T 20) (K 0))]
noncomputable abbrev c27_7 : RC := .ops [oV 22 (rmv (T 6)),
  oV 2 (rmv (.const (.slice none 0 0))),
  oV 3 (rmv (T 22))]
noncomputable abbrev c27_8 : RC := .seq c27_7 .ret
noncomputable abbrev c27_9 : RC := .cond (rX 21) c27_8 .skip
noncomputable abbrev c27_10 : RC := .seq c27_6 c27_9
noncomputable abbrev c27_11 : RC := .seq c27_5 c27_10
noncomputable abbrev c27_12 : RC := .seq c27_4 c27_11
noncomputable abbrev c27_13 : RC := .block 1 c27_12
noncomputable abbrev c27_14 : RC := .ops [oV 23 (rbin env .add 3 false true (T 14) (K 1)),
  oV 14 (rmv (T 23))]
noncomputable abbrev c27_15 : RC := .seq c27_13 c27_14
noncomputable abbrev c27_16 : RC := .seq c27_3 c27_15
noncomputable abbrev c27_17 : RC := .seq c27_2 c27_16
noncomputable abbrev c27_18 : RC := .loop c27_17
noncomputable abbrev c27_19 : RC := .block 0 c27_18
noncomputable abbrev c27_20 : RC := .seq c27_1 c27_19
noncomputable abbrev c27_21 : RC := .ops [oV 7 (rmv (.const (.slice none 0 0)))]
noncomputable abbrev c27_22 : RC := .ops [oV 24 (rmv (T 0)),
  oV 25 (rlen (T 24)),
  oV 26 (rmv (K 0))]
noncomputable abbrev c27_23 : RC := .ops [oV 27 (rbin env .lss 3 false false (T 26) (T 25))]
noncomputable abbrev c27_24 : RC := .cond (rX 27) .skip (.exit 2)
noncomputable abbrev c27_25 : RC := .ops [oV 28 (riaddr 7 (T 24) (T 26)),
  oV 29 (rload true 7 (T 28)),
  oU 9 (rnew [.v (.int .i64 0), .v (.int .i64 0), .v (.string ⟨#[]⟩), .v (.int .i64 0), .v (.int .i64 0), .lst .full 0 0 [], .lst .full 0 0 []]),
  oS (rstore 7 (T 9) (T 29))]
noncomputable abbrev c27_26 : RC := .ops [oV 31 (rmv (T 7)),
  oV 32 (rfaddr 6 (T 9)),
  oV 33 (rload false 1 (T 32)),
  oC 34 (.func 51) [(T 31), (T 33)],
  oV 30 (rmv (T 34)),
  oV 35 (rext (T 30) 0),
  oV 36 (rext (T 30) 1),
  oV 10 (rmv (T 35)),
  oV 11 (rmv (T 36))]
noncomputable abbrev c27_27 : RC := .ops [oV 37 (rmv (T 11)),
  oV 38 (rbin env .eql 23 false true (T 37) (K 0))]
noncomputable abbrev c27_28 : RC := .ops [oV 40 (rmv (T 10)),
  oV 41 (rfaddr 0 (T 9)),
  oV 42 (rload true 2 (T 41)),
  oC 43 (.func 52) [(T 40), (T 42)],
  oV 39 (rmv (T 43)),
  oV 44 (rext (T 39) 0),
  oV 45 (rext (T 39) 1),
  oV 10 (rmv (T 44)),
  oV 11 (rmv (T 45))]
noncomputable abbrev c27_29 : RC := .cond (rX 38) c27_28 .skip
noncomputable abbrev c27_30 : RC := .seq c27_27 c27_29
noncomputable abbrev c27_31 : RC := .ops [oV 46 (rmv (T 11)),
  oV 47 (rbin env .neq 23 false true (T 46) (K 0))]
noncomputable abbrev c27_32 : RC := .ops [oV 48 (rmv (T 11)),
  oV 2 (rmv (.const (.slice none 0 0))),
  oV 3 (rmv (T 48))]
noncomputable abbrev c27_33 : RC := .seq c27_32 .ret
noncomputable abbrev c27_34 : RC := .cond (rX 47) c27_33 .skip
noncomputable abbrev c27_35 : RC := .seq c27_31 c27_34
noncomputable abbrev c27_36 : RC := .ops [oV 49 (rmv (T 10)),
  oV 7 (rmv (T 49))]
noncomputable abbrev c27_37 : RC := .seq c27_35 c27_36
noncomputable abbrev c27_38 : RC := .seq c27_30 c27_37
noncomputable abbrev c27_39 : RC := .seq c27_26 c27_38
noncomputable abbrev c27_40 : RC := .seq c27_25 c27_39
noncomputable abbrev c27_41 : RC := .block 3 c27_40
noncomputable abbrev c27_42 : RC := .ops [oV 50 (rbin env .add 3 false true (T 26) (K 1)),
  oV 26 (rmv (T 50))]
noncomputable abbrev c27_43 : RC := .seq c27_41 c27_42
noncomputable abbrev c27_44 : RC := .seq c27_24 c27_43
noncomputable abbrev c27_45 : RC := .seq c27_23 c27_44
noncomputable abbrev c27_46 : RC := .loop c27_45
noncomputable abbrev c27_47 : RC := .block 2 c27_46
noncomputable abbrev c27_48 : RC := .seq c27_22 c27_47
noncomputable abbrev c27_49 : RC := .ops [oV 51 (rmv (T 7)),
  oV 2 (rmv (T 51)),
  oV 3 (rmv (K 0))]
noncomputable abbrev c27_50 : RC := .seq c27_49 .ret
noncomputable abbrev c27_51 : RC := .seq c27_48 c27_50
noncomputable abbrev c27_52 : RC := .seq c27_21 c27_51
noncomputable abbrev c27_53 : RC := .seq c27_20 c27_52
noncomputable abbrev c27_54 : RC := .seq c27_0 c27_53
theorem fn27 : env.fn 27 = some ⟨52, [.tmp 2, .tmp 3], body27⟩ := by kernel_rfl
theorem comp27 : comp env body27 = c27_54 := by kernel_rfl
noncomputable def body28 : Code := match Tryd.f28.body with | some c => c | none => .skip
noncomputable abbrev c28_0 : RC := .ops [oU 3 (rbox (T 1)),
  oV 4 (rmv (K 0))]
noncomputable abbrev c28_1 : RC := .ops [oV 5 (rmv (T 0)),
  oV 6 (rfn 54 [] [(T 3)]),
  oC 7 (.func 53) [(T 5), (T 6)],
  oV 4 (rmv (T 7))]
noncomputable abbrev c28_2 : RC := .seq c28_1 .ret
noncomputable abbrev c28_3 : RC := .seq c28_0 c28_2
theorem fn28 : env.fn 28 = some ⟨8, [.tmp 4], body28⟩ := by kernel_rfl
theorem comp28 : comp env body28 = c28_3 := by kernel_rfl
noncomputable def body29 : Code := match Tryd.f29.body with | some c => c | none => .skip
noncomputable abbrev c29_0 : RC := .ops [oV 2 (rmv (.const (.slice none 0 0)))]
noncomputable abbrev c29_1 : RC := .ops [oV 3 (rmv (.const (.slice none 0 0)))]
noncomputable abbrev c29_2 : RC := .ops [oV 4 (rmv (K 0))]
noncomputable abbrev c29_3 : RC := .ops [oV 5 (rmv (T 4)),
  oV 6 (rmv (T 0)),
  oV 7 (rlen (T 6)),
  oV 8 (rbin env .lss 3 false false (T 5) (T 7))]
noncomputable abbrev c29_4 : RC := .cond (rX 8) .skip (.exit 0)
noncomputable abbrev c29_5 : RC := .seq c29_3 c29_4
noncomputable abbrev c29_6 : RC := .ops [oV 11 (rmv (T 3)),
  oV 12 (rmv (T 0)),
  oV 13 (rmv (T 4)),
  oV 14 (riaddr 7 (T 12) (T 13)),
  oV 15 (rload true 7 (T 14)),
  oC 16 (.func 55) [(T 15)],
  oU 17 (rbuildL 7 1 [.v (.int .i64 0), .v (.int .i64 0), .v (.string ⟨#[]⟩), .v (.int .i64 0), .v (.int .i64 0), .lst .full 0 0 [], .lst .full 0 0 []] [(0, (T 16))]),
  oA 18 7 96 7 (T 11) (T 17),
  oV 3 (rmv (T 18))]
noncomputable abbrev c29_7 : RC := .block 1 c29_6
noncomputable abbrev c29_8 : RC := .ops [oV 9 (rmv (T 4)),
  oV 10 (rbin env .add 3 false true (T 9) (K 1)),
  oV 4 (rmv (T 10))]
noncomputable abbrev c29_9 : RC := .seq c29_7 c29_8
noncomputable abbrev c29_10 : RC := .seq c29_5 c29_9
noncomputable abbrev c29_11 : RC := .loop c29_10
noncomputable abbrev c29_12 : RC := .block 0 c29_11
noncomputable abbrev c29_13 : RC := .seq c29_2 c29_12
noncomputable abbrev c29_14 : RC := .ops [oV 19 (rmv (T 3)),
  oV 2 (rmv (T 19))]
noncomputable abbrev c29_15 : RC := .seq c29_14 .ret
noncomputable abbrev c29_16 : RC := .seq c29_13 c29_15
noncomputable abbrev c29_17 : RC := .seq c29_1 c29_16
noncomputable abbrev c29_18 : RC := .seq c29_0 c29_17
theorem fn29 : env.fn 29 = some ⟨20, [.tmp 2], body29⟩ := by kernel_rfl
theorem comp29 : comp env body29 = c29_18 := by kernel_rfl
noncomputable def body39 : Code := match Tryd.f39.body with | some c => c | none => .skip
noncomputable abbrev c39_0 : RC := .ops [oU 1 (rbox (T 0)),
  oV 2 (rmv (.const (.bool false)))]
noncomputable abbrev c39_1 : RC := .ops [oV 3 (rfaddr 0 (T 1)),
  oV 4 (rfaddr 0 (T 3)),
  oV 5 (rload true 2 (T 4)),
  oC 6 (.func 62) [(T 5)],
  oV 7 (rbin env .eql 23 false true (T 6) (K 0)),
  oV 2 (rmv (T 7))]
noncomputable abbrev c39_2 : RC := .seq c39_1 .ret
noncomputable abbrev c39_3 : RC := .seq c39_0 c39_2
theorem fn39 : env.fn 39 = some ⟨8, [.tmp 2], body39⟩ := by kernel_rfl
theorem comp39 : comp env body39 = c39_3 := by kernel_rfl
noncomputable def body40 : Code := match Tryd.f40.body with | some c => c | none => .skip
noncomputable abbrev c40_0 : RC := .ops [oU 1 (rbox (T 0)),
  oV 2 (rmv (.const (.bool false)))]
noncomputable abbrev c40_1 : RC := .ops [oV 3 (rfaddr 0 (T 1)),
  oV 4 (rfaddr 2 (T 3)),
  oV 5 (rload false 1 (T 4)),
  oC 6 (.func 63) [(T 5)],
  oV 7 (rbin env .eql 23 false true (T 6) (K 0)),
  oV 2 (rmv (T 7))]
noncomputable abbrev c40_2 : RC := .seq c40_1 .ret
noncomputable abbrev c40_3 : RC := .seq c40_0 c40_2
theorem fn40 : env.fn 40 = some ⟨8, [.tmp 2], body40⟩ := by kernel_rfl
theorem comp40 : comp env body40 = c40_3 := by kernel_rfl
noncomputable def body41 : Code := match Tryd.f41.body with | some c => c | none => .skip
noncomputable abbrev c41_0 : RC := .ops [oU 1 (rbox (T 0)),
  oV 2 (rmv (.const (.bool false)))]
noncomputable abbrev c41_1 : RC := .ops [oV 3 (rfaddr 0 (T 1)),
  oV 4 (rfaddr 3 (T 3)),
  oV 5 (rload true 3 (T 4)),
  oC 6 (.func 64) [(T 5)],
  oV 7 (rbin env .eql 23 false true (T 6) (K 0)),
  oV 2 (rmv (T 7))]
noncomputable abbrev c41_2 : RC := .seq c41_1 .ret
noncomputable abbrev c41_3 : RC := .seq c41_0 c41_2
theorem fn41 : env.fn 41 = some ⟨8, [.tmp 2], body41⟩ := by kernel_rfl
theorem comp41 : comp env body41 = c41_3 := by kernel_rfl
noncomputable def body42 : Code := match Tryd.f42.body with | some c => c | none => .skip
noncomputable abbrev c42_0 : RC := .ops [oU 1 (rbox (T 0)),
  oV 2 (rmv (.const (.bool false)))]
noncomputable abbrev c42_1 : RC := .ops [oV 3 (rfaddr 0 (T 1)),
  oV 4 (rfaddr 6 (T 3)),
  oV 5 (rload false 1 (T 4)),
  oC 6 (.func 65) [(T 5)],
  oV 7 (rbin env .eql 23 false true (T 6) (K 0)),
  oV 2 (rmv (T 7))]
noncomputable abbrev c42_2 : RC := .seq c42_1 .ret
noncomputable abbrev c42_3 : RC := .seq c42_0 c42_2
theorem fn42 : env.fn 42 = some ⟨8, [.tmp 2], body42⟩ := by kernel_rfl
theorem comp42 : comp env body42 = c42_3 := by kernel_rfl
noncomputable def body43 : Code := match Tryd.f43.body with | some c => c | none => .skip
noncomputable abbrev c43_0 : RC := .ops [oU 1 (rbox (T 0)),
  oV 2 (rmv (.const (.bool false)))]
noncomputable abbrev c43_1 : RC := .drawn true [dV 3 (rfaddr 0 (T 1)),
  dV 4 (rfaddr 6 (T 3)),
  dV 5 (rload false 1 (T 4)),
  dV 6 (rfaddr 0 (T 1)),
  dV 7 (rfaddr 0 (T 6)),
  dV 8 (rfaddr 0 (T 7)),
  dV 9 (rload false 1 (T 8)),
  dV 11 (rfaddr 0 (T 1)),
  dV 12 (rfaddr 0 (T 11)),
  dV 13 (rfaddr 1 (T 12)),
  dV 14 (rload false 1 (T 13)),
  dC false 10 (.func 28) [(T 5), (T 9)],
  dV 15 (rbin env .lss 3 false false (T 10) (T 14)),
  dV 2 (rmv (T 15))]
noncomputable abbrev c43_2 : RC := .seq c43_1 .ret
noncomputable abbrev c43_3 : RC := .seq c43_0 c43_2
theorem fn43 : env.fn 43 = some ⟨16, [.tmp 2], body43⟩ := by kernel_rfl
theorem comp43 : comp env body43 = c43_3 := by kernel_rfl
noncomputable def body45 : Code := match Tryd.f45.body with | some c => c | none => .skip
noncomputable abbrev c45_0 : RC := .ops [oU 1 (rbox (T 0)),
  oV 2 (rmv (.const (.bool false)))]
noncomputable abbrev c45_1 : RC := .ops [oV 3 (rfaddr 2 (T 1)),
  oV 4 (rload false 1 (T 3)),
  oV 5 (rlen (T 4)),
  oV 6 (rbin env .gtr 3 false true (T 5) (K 1200)),
  oV 2 (rmv (T 6))]
noncomputable abbrev c45_2 : RC := .seq c45_1 .ret
noncomputable abbrev c45_3 : RC := .seq c45_0 c45_2
theorem fn45 : env.fn 45 = some ⟨7, [.tmp 2], body45⟩ := by kernel_rfl
theorem comp45 : comp env body45 = c45_3 := by kernel_rfl
noncomputable def body49 : Code := match Tryd.f49.body with | some c => c | none => .skip
noncomputable abbrev c49_0 : RC := .ops [oV 4 (rmv (.const (.bool false)))]
noncomputable abbrev c49_1 : RC := .ops [oV 8 (rmv (T 0)),
  oV 9 (rmv (T 1)),
  oC 10 (.func 73) [(T 8), (T 9)],
  oV 7 (rmv (T 10)),
  oV 11 (rext (T 7) 0),
  oV 12 (rext (T 7) 1),
  oV 5 (rmv (T 11)),
  oV 6 (rmv (T 12))]
noncomputable abbrev c49_2 : RC := .ops [oV 13 (rmv (T 6)),
  oV 14 (rbin env .eql 23 false true (T 13) (K 0)),
  oV 15 (rmv (T 14)),
  oG 16 15 true (rmv (T 5)),
  oG 17 15 true (rlen (T 16)),
  oG 18 15 true (rbin env .eql 3 false true (T 17) (K 0)),
  oV 19 (rpick (T 15) (T 18) (.const (.bool false))),
  oV 4 (rmv (T 19))]
noncomputable abbrev c49_3 : RC := .seq c49_2 .ret
noncomputable abbrev c49_4 : RC := .seq c49_1 c49_3
noncomputable abbrev c49_5 : RC := .seq c49_0 c49_4
theorem fn49 : env.fn 49 = some ⟨20, [.tmp 4], body49⟩ := by kernel_rfl
theorem comp49 : comp env body49 = c49_5 := by kernel_rfl
noncomputable def body50 : Code := match Tryd.f50.body with | some c => c | none => .skip
noncomputable abbrev c50_0 : RC := .ops [oU 3 (rbox (T 1)),
  oV 4 (rmv (.const (.bool false)))]
noncomputable abbrev c50_1 : RC := .ops [oV 5 (rmv (T 0)),
  oC 6 (.func 65) [(T 5)],
  oV 7 (rbin env .eql 23 false true (T 6) (K 0)),
  oV 8 (rmv (T 7)),
  oG 9 8 true (rmv (T 0)),
  oG 10 8 true (rfn 75 [] [(T 3)]),
  oCG 11 8 true (.func 74) [(T 9), (T 10)],
  oV 12 (rpick (T 8) (T 11) (.const (.bool false))),
  oV 4 (rmv (T 12))]
noncomputable abbrev c50_2 : RC := .seq c50_1 .ret
noncomputable abbrev c50_3 : RC := .seq c50_0 c50_2
theorem fn50 : env.fn 50 = some ⟨13, [.tmp 4], body50⟩ := by kernel_rfl
theorem comp50 : comp env body50 = c50_3 := by kernel_rfl
noncomputable def body51 : Code := match Tryd.f51.body with | some c => c | none => .skip
noncomputable abbrev c51_0 : RC := .ops [oV 4 (rmv (.const (.slice none 0 0))),
  oV 5 (rmv (K 0))]
noncomputable abbrev c51_1 : RC := .ops [oV 6 (rmv (T 0)),
  oV 7 (rmv (T 1)),
  oC 8 (.func 76) [(T 6), (T 7), (.func 77)],
  oV 9 (rext (T 8) 0),
  oV 10 (rext (T 8) 1),
  oV 4 (rmv (T 9)),
  oV 5 (rmv (T 10))]
noncomputable abbrev c51_2 : RC := .seq c51_1 .ret
noncomputable abbrev c51_3 : RC := .seq c51_0 c51_2
theorem fn51 : env.fn 51 = some ⟨11, [.tmp 4, .tmp 5], body51⟩ := by kernel_rfl
theorem comp51 : comp env body51 = c51_3 := by kernel_rfl
noncomputable def body52 : Code := match Tryd.f52.body with | some c => c | none => .skip
noncomputable abbrev c52_0 : RC := .ops [oU 3 (rbox (T 1)),
  oV 4 (rmv (.const (.slice none 0 0))),
  oV 5 (rmv (K 0))]
noncomputable abbrev c52_1 : RC := .ops [oV 6 (rmv (T 0)),
  oC 7 (.func 65) [(T 6)],
  oV 8 (rbin env .neq 23 false true (T 7) (K 0)),
  oV 9 (rmv (T 8)),
  oG 10 9 false (rload true 2 (T 3)),
  oCG 11 9 false (.func 62) [(T 10)],
  oG 12 9 false (rbin env .neq 23 false true (T 11) (K 0)),
  oV 13 (rpick (T 9) (.const (.bool true)) (T 12))]
noncomputable abbrev c52_2 : RC := .ops [oV 4 (rmv (.const (.slice none 0 0))),
  oV 5 (rmv (K 2))]
noncomputable abbrev c52_3 : RC := .seq c52_2 .ret
noncomputable abbrev c52_4 : RC := .cond (rX 13) c52_3 .skip
noncomputable abbrev c52_5 : RC := .seq c52_1 c52_4
noncomputable abbrev c52_6 : RC := .ops [oV 14 (rmv (T 0)),
  oV 15 (rfaddr 0 (T 3)),
  oV 16 (rload false 1 (T 15)),
  oV 17 (rfaddr 1 (T 3)),
  oV 18 (rload false 1 (T 17)),
  oV 19 (rfaddr 1 (T 3)),
  oV 20 (rload false 1 (T 19)),
  oV 21 (rbuild [.v (.int .i64 0), .v (.int .i64 0), .v (.int .i64 0)] [(0, 1), (1, 1), (2, 1)] [(0, (T 16)), (1, (T 18)), (2, (T 20))]),
  oU 22 (rbuildL 3 1 [.v (.int .i64 0), .v (.int .i64 0), .v (.int .i64 0)] [(0, (T 21))]),
  oC 23 (.func 51) [(T 14), (T 22)],
  oV 24 (rext (T 23) 0),
  oV 25 (rext (T 23) 1),
  oV 4 (rmv (T 24)),
  oV 5 (rmv (T 25))]
noncomputable abbrev c52_7 : RC := .seq c52_6 .ret
noncomputable abbrev c52_8 : RC := .seq c52_5 c52_7
noncomputable abbrev c52_9 : RC := .seq c52_0 c52_8
theorem fn52 : env.fn 52 = some ⟨26, [.tmp 4, .tmp 5], body52⟩ := by kernel_rfl
theorem comp52 : comp env body52 = c52_9 := by kernel_rfl
noncomputable def body53 : Code := match Tryd.f53.body with | some c => c | none => .skip
noncomputable abbrev c53_0 : RC := .ops [oV 4 (rmv (K 0))]
noncomputable abbrev c53_1 : RC := .ops [oV 5 (rmv (K 0))]
noncomputable abbrev c53_2 : RC := .ops [oV 8 (rmv (T 0)),
  oC 9 (.func 65) [(T 8)],
  oV 10 (rbin env .neq 23 false true (T 9) (K 0))]
noncomputable abbrev c53_3 : RC := .ops [oV 11 (rmv (T 5)),
  oV 4 (rmv (T 11))]
noncomputable abbrev c53_4 : RC := .seq c53_3 .ret
noncomputable abbrev c53_5 : RC := .cond (rX 10) c53_4 .skip
noncomputable abbrev c53_6 : RC := .seq c53_2 c53_5
noncomputable abbrev c53_7 : RC := .ops [oV 12 (rmv (T 0)),
  oV 13 (rlen (T 12)),
  oV 14 (rmv (K 0))]
noncomputable abbrev c53_8 : RC := .ops [oV 15 (rbin env .lss 3 false false (T 14) (T 13))]
noncomputable abbrev c53_9 : RC := .cond (rX 15) .skip (.exit 0)
noncomputable abbrev c53_10 : RC := .ops [oV 16 (riaddr 3 (T 12) (T 14)),
  oV 17 (rload true 3 (T 16)),
  oU 7 (rnew [.v (.int .i64 0), .v (.int .i64 0), .v (.int .i64 0)]),
  oS (rstore 3 (T 7) (T 17))]
noncomputable abbrev c53_11 : RC := .ops [oV 18 (rmv (T 1)),
  oV 19 (rmv (T 5)),
  oV 20 (rload true 3 (T 7)),
  oC 21 (T 18) [(T 19), (T 20)],
  oV 5 (rmv (T 21))]
noncomputable abbrev c53_12 : RC := .seq c53_10 c53_11
noncomputable abbrev c53_13 : RC := .block 1 c53_12
noncomputable abbrev c53_14 : RC := .ops [oV 22 (rbin env .add 3 false true (T 14) (K 1)),
  oV 14 (rmv (T 22))]
noncomputable abbrev c53_15 : RC := .seq c53_13 c53_14
noncomputable abbrev c53_16 : RC := .seq c53_9 c53_15
noncomputable abbrev c53_17 : RC := .seq c53_8 c53_16
noncomputable abbrev c53_18 : RC := .loop c53_17
noncomputable abbrev c53_19 : RC := .block 0 c53_18
noncomputable abbrev c53_20 : RC := .seq c53_7 c53_19
noncomputable abbrev c53_21 : RC := .ops [oV 23 (rmv (T 5)),
  oV 4 (rmv (T 23))]
noncomputable abbrev c53_22 : RC := .seq c53_21 .ret
noncomputable abbrev c53_23 : RC := .seq c53_20 c53_22
noncomputable abbrev c53_24 : RC := .seq c53_6 c53_23
noncomputable abbrev c53_25 : RC := .seq c53_1 c53_24
noncomputable abbrev c53_26 : RC := .seq c53_0 c53_25
theorem fn53 : env.fn 53 = some ⟨24, [.tmp 4], body53⟩ := by kernel_rfl
theorem comp53 : comp env body53 = c53_26 := by kernel_rfl
noncomputable def body54 : Code := match Tryd.f54.body with | some c => c | none => .skip
noncomputable abbrev c54_0 : RC := .ops [oU 4 (rbox (T 1)),
  oV 5 (rmv (K 0))]
noncomputable abbrev c54_1 : RC := .ops [oV 6 (rfaddr 0 (T 4)),
  oV 7 (rload false 1 (T 6)),
  oV 8 (rload false 1 (T 2)),
  oV 9 (rbin env .neq 3 false false (T 7) (T 8))]
noncomputable abbrev c54_2 : RC := .ops [oV 10 (rmv (T 0)),
  oV 5 (rmv (T 10))]
noncomputable abbrev c54_3 : RC := .seq c54_2 .ret
noncomputable abbrev c54_4 : RC := .cond (rX 9) c54_3 .skip
noncomputable abbrev c54_5 : RC := .seq c54_1 c54_4
noncomputable abbrev c54_6 : RC := .ops [oV 11 (rmv (T 0)),
  oV 12 (rfaddr 2 (T 4)),
  oV 13 (rload false 1 (T 12)),
  oV 14 (rmm maxV [(T 11), (T 13)]),
  oV 5 (rmv (T 14))]
noncomputable abbrev c54_7 : RC := .seq c54_6 .ret
noncomputable abbrev c54_8 : RC := .seq c54_5 c54_7
noncomputable abbrev c54_9 : RC := .seq c54_0 c54_8
theorem fn54 : env.fn 54 = some ⟨15, [.tmp 5], body54⟩ := by kernel_rfl
theorem comp54 : comp env body54 = c54_9 := by kernel_rfl
noncomputable def body55 : Code := match Tryd.f55.body with | some c => c | none => .skip
noncomputable abbrev c55_0 : RC := .ops [oU 1 (rbox (T 0)),
  oU 2 (rnew [.v (.int .i64 0), .v (.int .i64 0), .v (.string ⟨#[]⟩), .v (.int .i64 0), .v (.int .i64 0), .lst .full 0 0 [], .lst .full 0 0 []])]
noncomputable abbrev c55_1 : RC := .ops [oV 3 (rfaddr 3 (T 1)),
  oV 4 (rload true 3 (T 3)),
  oC 5 (.func 78) [(T 4)],
  oV 6 (rfaddr 3 (T 1)),
  oS (rstore 3 (T 6) (T 5))]
noncomputable abbrev c55_2 : RC := .ops [oV 7 (rfaddr 6 (T 1)),
  oV 8 (rload false 1 (T 7)),
  oC 9 (.func 79) [(T 8)],
  oV 10 (rfaddr 6 (T 1)),
  oS (rstore 1 (T 10) (T 9))]
noncomputable abbrev c55_3 : RC := .ops [oV 11 (rload true 7 (T 1)),
  oS (rstore 7 (T 2) (T 11))]
noncomputable abbrev c55_4 : RC := .seq c55_3 .ret
noncomputable abbrev c55_5 : RC := .seq c55_2 c55_4
noncomputable abbrev c55_6 : RC := .seq c55_1 c55_5
noncomputable abbrev c55_7 : RC := .seq c55_0 c55_6
theorem fn55 : env.fn 55 = some ⟨12, [.cell 2 34], body55⟩ := by kernel_rfl
theorem comp55 : comp env body55 = c55_7 := by kernel_rfl
noncomputable def body57 : Code := match Tryd.f57.body with | some c => c | none => .skip
noncomputable abbrev c57_0 : RC := .ops [oV 2 (rmv (.const (.slice none 0 0)))]
noncomputable abbrev c57_1 : RC := .ops [oV 3 (rmv (T 0)),
  oL 4 false (T 3)]
noncomputable abbrev c57_2 : RC := .ops [oV 2 (rmv (.const (.slice none 0 0)))]
noncomputable abbrev c57_3 : RC := .seq c57_2 .ret
noncomputable abbrev c57_4 : RC := .cond (rX 4) c57_3 .skip
noncomputable abbrev c57_5 : RC := .seq c57_1 c57_4
noncomputable abbrev c57_6 : RC := .ops [oU 5 (rbuildL 3 0 [] []),
  oV 6 (rmv (T 0)),
  oA 7 3 24 3 (T 5) (T 6),
  oV 2 (rmv (T 7))]
noncomputable abbrev c57_7 : RC := .seq c57_6 .ret
noncomputable abbrev c57_8 : RC := .seq c57_5 c57_7
noncomputable abbrev c57_9 : RC := .seq c57_0 c57_8
theorem fn57 : env.fn 57 = some ⟨8, [.tmp 2], body57⟩ := by kernel_rfl
theorem comp57 : comp env body57 = c57_9 := by kernel_rfl
noncomputable def body62 : Code := match Tryd.f62.body with | some c => c | none => .skip
noncomputable abbrev c62_0 : RC := .ops [oU 1 (rbox (T 0)),
  oV 2 (rmv (K 0))]
noncomputable abbrev c62_1 : RC := .ops [oV 3 (rfaddr 0 (T 1)),
  oV 4 (rload false 1 (T 3)),
  oV 5 (rbin env .lss 3 false true (T 4) (K 1)),
  oV 6 (rmv (T 5)),
  oG 7 6 false (rfaddr 0 (T 1)),
  oG 8 6 false (rload false 1 (T 7)),
  oG 9 6 false (rbin env .gtr 3 false true (T 8) (K 200)),
  oV 10 (rpick (T 6) (.const (.bool true)) (T 9)),
  oV 11 (rmv (T 10)),
  oG 12 11 false (rfaddr 1 (T 1)),
  oG 13 11 false (rload false 1 (T 12)),
  oG 14 11 false (rbin env .lss 3 false true (T 13) (K 1)),
  oV 15 (rpick (T 11) (.const (.bool true)) (T 14)),
  oV 16 (rmv (T 15)),
  oG 17 16 false (rfaddr 1 (T 1)),
  oG 18 16 false (rload false 1 (T 17)),
  oG 19 16 false (rbin env .gtr 3 false true (T 18) (K 2147483647)),
  oV 20 (rpick (T 16) (.const (.bool true)) (T 19))]
noncomputable abbrev c62_2 : RC := .ops [oV 2 (rmv (K 2))]
noncomputable abbrev c62_3 : RC := .seq c62_2 .ret
noncomputable abbrev c62_4 : RC := .cond (rX 20) c62_3 .skip
noncomputable abbrev c62_5 : RC := .seq c62_1 c62_4
noncomputable abbrev c62_6 : RC := .ops [oV 2 (rmv (K 0))]
noncomputable abbrev c62_7 : RC := .seq c62_6 .ret
noncomputable abbrev c62_8 : RC := .seq c62_5 c62_7
noncomputable abbrev c62_9 : RC := .seq c62_0 c62_8
theorem fn62 : env.fn 62 = some ⟨21, [.tmp 2], body62⟩ := by kernel_rfl
theorem comp62 : comp env body62 = c62_9 := by kernel_rfl
noncomputable def body63 : Code := match Tryd.f63.body with | some c => c | none => .skip
noncomputable abbrev c63_0 : RC := .ops [oV 2 (rmv (K 0))]
noncomputable abbrev c63_1 : RC := .ops [oU 3 (rnew [.v (.int .i64 0)]),
  oU 4 (rnew [.v (.int .i64 0)]),
  oS (rstore 1 (T 3) (K 0)),
  oS (rstore 1 (T 4) (K 0))]
noncomputable abbrev c63_2 : RC := .ops [oV 6 (rmv (T 0)),
  oC 7 (.func 81) [(T 6), (.const (.string ⟨#[47]⟩))]]
noncomputable abbrev c63_3 : RC := .ops [oV 5 (rmv (T 8))]
noncomputable abbrev c63_4 : RC := .ops [oV 9 (rload false 1 (T 3)),
  oV 10 (rbin env .add 3 false true (T 9) (K 1)),
  oS (rstore 1 (T 3) (T 10))]
noncomputable abbrev c63_5 : RC := .ops [oV 12 (rload false 1 (T 3)),
  oV 13 (rbin env .gtr 3 false true (T 12) (K 6)),
  oV 11 (rmv (T 13))]
noncomputable abbrev c63_6 : RC := .ops [oV 14 (rmv (T 5)),
  oC 15 (.func 82) [(T 14)],
  oV 16 (run' .not (T 15)),
  oV 11 (rmv (T 16))]
noncomputable abbrev c63_7 : RC := .cond (rX 11) .skip c63_6
noncomputable abbrev c63_8 : RC := .seq c63_5 c63_7
noncomputable abbrev c63_9 : RC := .ops [oS (rstore 1 (T 4) (K 2))]
noncomputable abbrev c63_10 : RC := .seq c63_9 (.exit 0)
noncomputable abbrev c63_11 : RC := .cond (rX 11) c63_10 .skip
noncomputable abbrev c63_12 : RC := .seq c63_8 c63_11
noncomputable abbrev c63_13 : RC := .block 2 c63_12
noncomputable abbrev c63_14 : RC := .seq c63_4 c63_13
noncomputable abbrev c63_15 : RC := .block 1 c63_14
noncomputable abbrev c63_16 : RC := .range (fun s => pev s.tm (T 7)) [8] (subc [1, 0, 1, 1, 0, 1, 0, 0] body63) (subc [1, 0, 1, 1, 0, 1, 0, 1] body63)
noncomputable abbrev c63_17 : RC := .block 0 c63_16
noncomputable abbrev c63_18 : RC := .seq c63_2 c63_17
noncomputable abbrev c63_19 : RC := .ops [oV 17 (rload false 1 (T 4)),
  oV 2 (rmv (T 17))]
noncomputable abbrev c63_20 : RC := .seq c63_19 .ret
noncomputable abbrev c63_21 : RC := .seq c63_18 c63_20
noncomputable abbrev c63_22 : RC := .seq .skip c63_21
noncomputable abbrev c63_23 : RC := .seq c63_1 c63_22
noncomputable abbrev c63_24 : RC := .scope (subc [1, 0] body63)
noncomputable abbrev c63_25 : RC := .seq c63_0 c63_24
theorem fn63 : env.fn 63 = some ⟨18, [.tmp 2], body63⟩ := by kernel_rfl
theorem comp63 : comp env body63 = c63_25 := by kernel_rfl
theorem piece63_1 : comp env (subc [1, 0, 1, 1, 0, 1, 0, 0] body63) = c63_3 := by kernel_rfl
theorem piece63_2 : comp env (subc [1, 0, 1, 1, 0, 1, 0, 1] body63) = c63_15 := by kernel_rfl
theorem piece63_3 : comp env (subc [1, 0] body63) = c63_23 := by kernel_rfl
noncomputable def body64 : Code := match Tryd.f64.body with | some c => c | none => .skip
noncomputable abbrev c64_0 : RC := .ops [oU 1 (rbox (T 0)),
  oV 2 (rmv (K 0))]
noncomputable abbrev c64_1 : RC := .ops [oV 4 (rfaddr 0 (T 1)),
  oV 5 (rload false 1 (T 4)),
  oV 6 (rbin env .lss 3 false true (T 5) (K 1)),
  oV 7 (rmv (T 6)),
  oG 8 7 false (rfaddr 0 (T 1)),
  oG 9 7 false (rload false 1 (T 8)),
  oG 10 7 false (rbin env .gtr 3 false true (T 9) (K 3)),
  oV 11 (rpick (T 7) (.const (.bool true)) (T 10))]
noncomputable abbrev c64_2 : RC := .ops [oV 2 (rmv (K 2))]
noncomputable abbrev c64_3 : RC := .seq c64_2 .ret
noncomputable abbrev c64_4 : RC := .cond (rX 11) c64_3 .skip
noncomputable abbrev c64_5 : RC := .seq c64_1 c64_4
noncomputable abbrev c64_6 : RC := .drawn true [dV 13 (rfaddr 0 (T 1)),
  dV 14 (rload false 1 (T 13)),
  dU 3 (rnew [.v (.int .i64 0), .v (.int .i64 0)]),
  dC false 12 (.func 83) [],
  dV 15 (ridxA 4 true 2 (T 12) (T 14)),
  dS (rstore 2 (T 3) (T 15))]
noncomputable abbrev c64_7 : RC := .ops [oV 16 (rfaddr 1 (T 1)),
  oV 17 (rload false 1 (T 16)),
  oV 18 (rbin env .lss 3 false true (T 17) (K 0)),
  oV 19 (rmv (T 18)),
  oG 20 19 false (rfaddr 1 (T 1)),
  oG 21 19 false (rload false 1 (T 20)),
  oG 22 19 false (rfaddr 0 (T 3)),
  oG 23 19 false (rload false 1 (T 22)),
  oG 24 19 false (rbin env .gtr 3 false false (T 21) (T 23)),
  oV 25 (rpick (T 19) (.const (.bool true)) (T 24)),
  oV 26 (rmv (T 25)),
  oG 27 26 false (rfaddr 2 (T 1)),
  oG 28 26 false (rload false 1 (T 27)),
  oG 29 26 false (rlen (T 28)),
  oG 30 26 false (rfaddr 1 (T 3)),
  oG 31 26 false (rload false 1 (T 30)),
  oG 32 26 false (rbin env .gtr 3 false false (T 29) (T 31)),
  oV 33 (rpick (T 26) (.const (.bool true)) (T 32))]
noncomputable abbrev c64_8 : RC := .ops [oV 2 (rmv (K 2))]
noncomputable abbrev c64_9 : RC := .seq c64_8 .ret
noncomputable abbrev c64_10 : RC := .cond (rX 33) c64_9 .skip
noncomputable abbrev c64_11 : RC := .seq c64_7 c64_10
noncomputable abbrev c64_12 : RC := .seq c64_6 c64_11
noncomputable abbrev c64_13 : RC := .ops [oV 2 (rmv (K 0))]
noncomputable abbrev c64_14 : RC := .seq c64_13 .ret
noncomputable abbrev c64_15 : RC := .seq c64_12 c64_14
noncomputable abbrev c64_16 : RC := .seq c64_5 c64_15
noncomputable abbrev c64_17 : RC := .seq c64_0 c64_16
theorem fn64 : env.fn 64 = some ⟨34, [.tmp 2], body64⟩ := by kernel_rfl
theorem comp64 : comp env body64 = c64_17 := by kernel_rfl
noncomputable def body65 : Code := match Tryd.f65.body with | some c => c | none => .skip
noncomputable abbrev c65_0 : RC := .ops [oV 2 (rmv (K 0))]
noncomputable abbrev c65_1 : RC := .ops [oV 5 (rmv (T 0)),
  oV 6 (rlen (T 5)),
  oV 7 (rbin env .gtr 3 false true (T 6) (K 4000))]
noncomputable abbrev c65_2 : RC := .ops [oV 2 (rmv (K 2))]
noncomputable abbrev c65_3 : RC := .seq c65_2 .ret
noncomputable abbrev c65_4 : RC := .cond (rX 7) c65_3 .skip
noncomputable abbrev c65_5 : RC := .seq c65_1 c65_4
noncomputable abbrev c65_6 : RC := .ops [oV 8 (rmv (T 0)),
  oV 9 (rlen (T 8)),
  oV 10 (rmv (K 0))]
noncomputable abbrev c65_7 : RC := .ops [oV 11 (rbin env .lss 3 false false (T 10) (T 9))]
noncomputable abbrev c65_8 : RC := .cond (rX 11) .skip (.exit 0)
noncomputable abbrev c65_9 : RC := .ops [oV 12 (rmv (T 10)),
  oV 13 (riaddr 3 (T 8) (T 10)),
  oV 14 (rload true 3 (T 13)),
  oU 4 (rnew [.v (.int .i64 0), .v (.int .i64 0), .v (.int .i64 0)]),
  oV 3 (rmv (T 12)),
  oS (rstore 3 (T 4) (T 14))]
noncomputable abbrev c65_10 : RC := .ops [oV 16 (rfaddr 0 (T 4)),
  oV 17 (rload false 1 (T 16)),
  oV 18 (rbin env .lss 3 false true (T 17) (K 1)),
  oV 19 (rmv (T 18)),
  oG 20 19 false (rfaddr 0 (T 4)),
  oG 21 19 false (rload false 1 (T 20)),
  oG 22 19 false (rbin env .gtr 3 false true (T 21) (K 200)),
  oV 23 (rpick (T 19) (.const (.bool true)) (T 22)),
  oV 24 (rmv (T 23)),
  oG 25 24 false (rfaddr 1 (T 4)),
  oG 26 24 false (rload false 1 (T 25)),
  oG 27 24 false (rbin env .lss 3 false true (T 26) (K 1)),
  oV 28 (rpick (T 24) (.const (.bool true)) (T 27)),
  oV 29 (rmv (T 28)),
  oG 30 29 false (rfaddr 1 (T 4)),
  oG 31 29 false (rload false 1 (T 30)),
  oG 32 29 false (rfaddr 2 (T 4)),
  oG 33 29 false (rload false 1 (T 32)),
  oG 34 29 false (rbin env .gtr 3 false false (T 31) (T 33)),
  oV 35 (rpick (T 29) (.const (.bool true)) (T 34)),
  oV 36 (rmv (T 35)),
  oG 37 36 false (rfaddr 2 (T 4)),
  oG 38 36 false (rload false 1 (T 37)),
  oG 39 36 false (rbin env .gtr 3 false true (T 38) (K 2147483647)),
  oV 40 (rpick (T 36) (.const (.bool true)) (T 39)),
  oV 15 (rmv (T 40))]
noncomputable abbrev c65_11 : RC := .ops [oV 2 (rmv (K 2))]
noncomputable abbrev c65_12 : RC := .seq c65_11 .ret
noncomputable abbrev c65_13 : RC := .drawn true [dV 42 (rmv (T 3)),
  dV 43 (rbin env .gtr 3 false true (T 42) (K 0)),
  dV 44 (rmv (T 43)),
  dG 45 44 true (rfaddr 0 (T 4)),
  dG 46 44 true (rload false 1 (T 45)),
  dG 47 44 true (rmv (T 0)),
  dG 48 44 true (rmv (T 3)),
  dG 49 44 true (rbin env .sub 3 false true (T 48) (K 1)),
  dG 50 44 true (riaddr 3 (T 47) (T 49)),
  dG 51 44 true (rfaddr 0 (T 50)),
  dG 52 44 true (rload false 1 (T 51)),
  dG 53 44 true (rbin env .lss 3 false false (T 46) (T 52)),
  dG 54 44 true (rmv (T 53)),
  dG 55 54 false (rfaddr 0 (T 4)),
  dG 56 54 false (rload false 1 (T 55)),
  dG 57 54 false (rmv (T 0)),
  dG 58 54 false (rmv (T 3)),
  dG 59 54 false (rbin env .sub 3 false true (T 58) (K 1)),
  dG 60 54 false (riaddr 3 (T 57) (T 59)),
  dG 61 54 false (rfaddr 0 (T 60)),
  dG 62 54 false (rload false 1 (T 61)),
  dG 63 54 false (rbin env .eql 3 false false (T 56) (T 62)),
  dG 64 54 false (rmv (T 63)),
  dG 65 64 true (rfaddr 1 (T 4)),
  dG 66 64 true (rload false 1 (T 65)),
  dG 67 64 true (rmv (T 0)),
  dG 68 64 true (rmv (T 3)),
  dG 69 64 true (rbin env .sub 3 false true (T 68) (K 1)),
  dG 70 64 true (riaddr 3 (T 67) (T 69)),
  dG 71 64 true (rfaddr 2 (T 70)),
  dG 72 64 true (rload false 1 (T 71)),
  dG 73 64 true (rbin env .add 3 false true (T 72) (K 1)),
  dG 74 64 true (rbin env .leq 3 false false (T 66) (T 73)),
  dG 75 54 false (rpick (T 64) (T 74) (.const (.bool false))),
  dG 76 44 true (rpick (T 54) (.const (.bool true)) (T 75)),
  dV 77 (rpick (T 44) (T 76) (.const (.bool false))),
  dV 41 (rmv (T 77))]
noncomputable abbrev c65_14 : RC := .ops [oV 2 (rmv (K 2))]
noncomputable abbrev c65_15 : RC := .seq c65_14 .ret
noncomputable abbrev c65_16 : RC := .cond (rX 41) c65_15 .skip
noncomputable abbrev c65_17 : RC := .seq c65_13 c65_16
noncomputable abbrev c65_18 : RC := .cond (rX 15) c65_12 c65_17
noncomputable abbrev c65_19 : RC := .seq c65_10 c65_18
noncomputable abbrev c65_20 : RC := .block 2 c65_19
noncomputable abbrev c65_21 : RC := .seq c65_9 c65_20
noncomputable abbrev c65_22 : RC := .block 1 c65_21
noncomputable abbrev c65_23 : RC := .ops [oV 78 (rbin env .add 3 false true (T 10) (K 1)),
  oV 10 (rmv (T 78))]
noncomputable abbrev c65_24 : RC := .seq c65_22 c65_23
noncomputable abbrev c65_25 : RC := .seq c65_8 c65_24
noncomputable abbrev c65_26 : RC := .seq c65_7 c65_25
noncomputable abbrev c65_27 : RC := .loop c65_26
noncomputable abbrev c65_28 : RC := .block 0 c65_27
noncomputable abbrev c65_29 : RC := .seq c65_6 c65_28
noncomputable abbrev c65_30 : RC := .ops [oV 2 (rmv (K 0))]
noncomputable abbrev c65_31 : RC := .seq c65_30 .ret
noncomputable abbrev c65_32 : RC := .seq c65_29 c65_31
noncomputable abbrev c65_33 : RC := .seq c65_5 c65_32
noncomputable abbrev c65_34 : RC := .seq c65_0 c65_33
theorem fn65 : env.fn 65 = some ⟨79, [.tmp 2], body65⟩ := by kernel_rfl
theorem comp65 : comp env body65 = c65_34 := by kernel_rfl
noncomputable def body73 : Code := match Tryd.f73.body with | some c => c | none => .skip
noncomputable abbrev c73_0 : RC := .ops [oV 4 (rmv (.const (.slice none 0 0))),
  oV 5 (rmv (K 0))]
noncomputable abbrev c73_1 : RC := .ops [oV 6 (rmv (T 0)),
  oV 7 (rmv (T 1)),
  oC 8 (.func 76) [(T 6), (T 7), (.func 89)],
  oV 9 (rext (T 8) 0),
  oV 10 (rext (T 8) 1),
  oV 4 (rmv (T 9)),
  oV 5 (rmv (T 10))]
noncomputable abbrev c73_2 : RC := .seq c73_1 .ret
noncomputable abbrev c73_3 : RC := .seq c73_0 c73_2
theorem fn73 : env.fn 73 = some ⟨11, [.tmp 4, .tmp 5], body73⟩ := by kernel_rfl
theorem comp73 : comp env body73 = c73_3 := by kernel_rfl
noncomputable def body74 : Code := match Tryd.f74.body with | some c => c | none => .skip
noncomputable abbrev c74_0 : RC := .ops [oV 4 (rmv (.const (.bool false)))]
noncomputable abbrev c74_1 : RC := .ops [oV 5 (rmv (T 0)),
  oV 6 (rmv (T 1)),
  oC 7 (.func 90) [(T 5), (T 6)],
  oV 8 (rbin env .geq 3 false true (T 7) (K 0)),
  oV 4 (rmv (T 8))]
noncomputable abbrev c74_2 : RC := .seq c74_1 .ret
noncomputable abbrev c74_3 : RC := .seq c74_0 c74_2
theorem fn74 : env.fn 74 = some ⟨9, [.tmp 4], body74⟩ := by kernel_rfl
theorem comp74 : comp env body74 = c74_3 := by kernel_rfl
noncomputable def body75 : Code := match Tryd.f75.body with | some c => c | none => .skip
noncomputable abbrev c75_0 : RC := .ops [oU 2 (rbox (T 0)),
  oV 3 (rmv (.const (.bool false)))]
noncomputable abbrev c75_1 : RC := .ops [oV 4 (rfaddr 0 (T 2)),
  oV 5 (rload false 1 (T 4)),
  oV 6 (rfaddr 0 (T 1)),
  oV 7 (rload false 1 (T 6)),
  oV 8 (rbin env .eql 3 false false (T 5) (T 7)),
  oV 9 (rmv (T 8)),
  oG 10 9 true (rfaddr 1 (T 2)),
  oG 11 9 true (rload false 1 (T 10)),
  oG 12 9 true (rfaddr 1 (T 1)),
  oG 13 9 true (rload false 1 (T 12)),
  oG 14 9 true (rbin env .leq 3 false false (T 11) (T 13)),
  oV 15 (rpick (T 9) (T 14) (.const (.bool false))),
  oV 16 (rmv (T 15)),
  oG 17 16 true (rfaddr 1 (T 1)),
  oG 18 16 true (rload false 1 (T 17)),
  oG 19 16 true (rfaddr 2 (T 2)),
  oG 20 16 true (rload false 1 (T 19)),
  oG 21 16 true (rbin env .leq 3 false false (T 18) (T 20)),
  oV 22 (rpick (T 16) (T 21) (.const (.bool false))),
  oV 3 (rmv (T 22))]
noncomputable abbrev c75_2 : RC := .seq c75_1 .ret
noncomputable abbrev c75_3 : RC := .seq c75_0 c75_2
theorem fn75 : env.fn 75 = some ⟨23, [.tmp 3], body75⟩ := by kernel_rfl
theorem comp75 : comp env body75 = c75_3 := by kernel_rfl
noncomputable def body76 : Code := match Tryd.f76.body with | some c => c | none => .skip
noncomputable abbrev c76_0 : RC := .ops [oV 6 (rmv (.const (.slice none 0 0))),
  oV 7 (rmv (K 0))]
noncomputable abbrev c76_1 : RC := .ops [oV 9 (rmv (T 0)),
  oC 10 (.func 65) [(T 9)],
  oV 11 (rbin env .neq 23 false true (T 10) (K 0)),
  oV 12 (rmv (T 11)),
  oG 13 12 false (rmv (T 1)),
  oCG 14 12 false (.func 65) [(T 13)],
  oG 15 12 false (rbin env .neq 23 false true (T 14) (K 0)),
  oV 16 (rpick (T 12) (.const (.bool true)) (T 15))]
noncomputable abbrev c76_2 : RC := .ops [oV 6 (rmv (.const (.slice none 0 0))),
  oV 7 (rmv (K 2))]
noncomputable abbrev c76_3 : RC := .seq c76_2 .ret
noncomputable abbrev c76_4 : RC := .cond (rX 16) c76_3 .skip
noncomputable abbrev c76_5 : RC := .seq c76_1 c76_4
noncomputable abbrev c76_6 : RC := .ops [oV 17 (rmv (T 0)),
  oC 18 (.func 57) [(T 17)],
  oV 19 (rmv (T 1)),
  oC 20 (.func 57) [(T 19)],
  oV 21 (rmv (T 2)),
  oV 22 (rbuild [.lst .full 0 0 [], .lst .full 0 0 [], .v (.nilFunc), .lst .full 0 0 []] [(0, 1), (1, 1), (2, 1), (3, 1)] [(0, (T 18)), (1, (T 20)), (2, (T 21))]),
  oU 23 (rbox (T 22)),
  oV 8 (rmv (T 23))]
noncomputable abbrev c76_7 : RC := .drawn true [dV 24 (rmv (T 8)),
  dV 25 (rnil (T 24)),
  dV 26 (rfaddr 0 (T 25)),
  dV 27 (rload false 1 (T 26)),
  dV 28 (rlen (T 27)),
  dV 29 (rmv (T 8)),
  dV 30 (rnil (T 29)),
  dV 31 (rfaddr 1 (T 30)),
  dV 32 (rload false 1 (T 31)),
  dV 33 (rlen (T 32)),
  dV 34 (rbin env .add 3 false false (T 28) (T 33)),
  dV 35 (rbin env .gtr 3 false true (T 34) (K 0))]
noncomputable abbrev c76_8 : RC := .cond (rX 35) .skip (.exit 0)
noncomputable abbrev c76_9 : RC := .seq c76_7 c76_8
noncomputable abbrev c76_10 : RC := .ops [oV 36 (rmv (T 8)),
  oC 37 (.func 91) [(T 36)]]
noncomputable abbrev c76_11 : RC := .block 1 c76_10
noncomputable abbrev c76_12 : RC := .seq c76_9 c76_11
noncomputable abbrev c76_13 : RC := .loop c76_12
noncomputable abbrev c76_14 : RC := .block 0 c76_13
noncomputable abbrev c76_15 : RC := .ops [oV 38 (rmv (T 8)),
  oV 39 (rnil (T 38)),
  oV 40 (rfaddr 3 (T 39)),
  oV 41 (rload false 1 (T 40)),
  oV 42 (rlen (T 41)),
  oV 43 (rbin env .gtr 3 false true (T 42) (K 4000))]
noncomputable abbrev c76_16 : RC := .ops [oV 6 (rmv (.const (.slice none 0 0))),
  oV 7 (rmv (K 8))]
noncomputable abbrev c76_17 : RC := .seq c76_16 .ret
noncomputable abbrev c76_18 : RC := .cond (rX 43) c76_17 .skip
noncomputable abbrev c76_19 : RC := .seq c76_15 c76_18
noncomputable abbrev c76_20 : RC := .ops [oV 44 (rmv (T 8)),
  oV 45 (rnil (T 44)),
  oV 46 (rfaddr 3 (T 45)),
  oV 47 (rload false 1 (T 46)),
  oV 6 (rmv (T 47)),
  oV 7 (rmv (K 0))]
noncomputable abbrev c76_21 : RC := .seq c76_20 .ret
noncomputable abbrev c76_22 : RC := .seq c76_19 c76_21
noncomputable abbrev c76_23 : RC := .seq c76_14 c76_22
noncomputable abbrev c76_24 : RC := .seq c76_6 c76_23
noncomputable abbrev c76_25 : RC := .seq c76_5 c76_24
noncomputable abbrev c76_26 : RC := .seq c76_0 c76_25
theorem fn76 : env.fn 76 = some ⟨48, [.tmp 6, .tmp 7], body76⟩ := by kernel_rfl
theorem comp76 : comp env body76 = c76_26 := by kernel_rfl
noncomputable def body77 : Code := match Tryd.f77.body with | some c => c | none => .skip
noncomputable abbrev c77_0 : RC := .ops [oV 4 (rmv (.const (.bool false)))]
noncomputable abbrev c77_1 : RC := .ops [oV 5 (rmv (T 0)),
  oV 6 (rmv (T 5)),
  oG 7 6 false (rmv (T 1)),
  oV 8 (rpick (T 6) (.const (.bool true)) (T 7)),
  oV 4 (rmv (T 8))]
noncomputable abbrev c77_2 : RC := .seq c77_1 .ret
noncomputable abbrev c77_3 : RC := .seq c77_0 c77_2
theorem fn77 : env.fn 77 = some ⟨9, [.tmp 4], body77⟩ := by kernel_rfl
theorem comp77 : comp env body77 = c77_3 := by kernel_rfl
noncomputable def body78 : Code := match Tryd.f78.body with | some c => c | none => .skip
noncomputable abbrev c78_0 : RC := .ops [oU 1 (rbox (T 0)),
  oU 2 (rnew [.v (.int .i64 0), .v (.int .i64 0), .lst .full 0 0 []])]
noncomputable abbrev c78_1 : RC := .ops [oV 3 (rfaddr 2 (T 1)),
  oV 4 (rload false 1 (T 3)),
  oC 5 (.func 92) [(T 4)],
  oV 6 (rfaddr 2 (T 1)),
  oS (rstore 1 (T 6) (T 5))]
noncomputable abbrev c78_2 : RC := .ops [oV 7 (rload true 3 (T 1)),
  oS (rstore 3 (T 2) (T 7))]
noncomputable abbrev c78_3 : RC := .seq c78_2 .ret
noncomputable abbrev c78_4 : RC := .seq c78_1 c78_3
noncomputable abbrev c78_5 : RC := .seq c78_0 c78_4
theorem fn78 : env.fn 78 = some ⟨8, [.cell 2 31], body78⟩ := by kernel_rfl
theorem comp78 : comp env body78 = c78_5 := by kernel_rfl
noncomputable def body79 : Code := match Tryd.f79.body with | some c => c | none => .skip
noncomputable abbrev c79_0 : RC := .ops [oV 2 (rmv (.const (.slice none 0 0)))]
noncomputable abbrev c79_1 : RC := .ops [oU 3 (rbuildL 3 0 [] []),
  oV 4 (rmv (T 0)),
  oA 5 3 24 3 (T 3) (T 4),
  oV 2 (rmv (T 5))]
noncomputable abbrev c79_2 : RC := .seq c79_1 .ret
noncomputable abbrev c79_3 : RC := .seq c79_0 c79_2
theorem fn79 : env.fn 79 = some ⟨6, [.tmp 2], body79⟩ := by kernel_rfl
theorem comp79 : comp env body79 = c79_3 := by kernel_rfl
noncomputable def body81 : Code := match Tryd.f81.body with | some c => c | none => .skip
noncomputable abbrev c81_0 : RC := .ops [oV 4 (rmv (.const (.nilFunc)))]
noncomputable abbrev c81_1 : RC := .ops [oV 5 (rmv (T 0)),
  oV 6 (rmv (T 1)),
  oC 7 (.func 93) [(T 5), (T 6), (K 0)],
  oV 4 (rmv (T 7))]
noncomputable abbrev c81_2 : RC := .seq c81_1 .ret
noncomputable abbrev c81_3 : RC := .seq c81_0 c81_2
theorem fn81 : env.fn 81 = some ⟨8, [.tmp 4], body81⟩ := by kernel_rfl
theorem comp81 : comp env body81 = c81_3 := by kernel_rfl
noncomputable def body82 : Code := match Tryd.f82.body with | some c => c | none => .skip
noncomputable abbrev c82_0 : RC := .ops [oV 2 (rmv (.const (.bool false)))]
noncomputable abbrev c82_1 : RC := .ops [oV 3 (rmv (T 0)),
  oV 4 (rbin env .neq 9 false true (T 3) (.const (.string ⟨#[]⟩))),
  oV 5 (rmv (T 4)),
  oG 6 5 true (rmv (T 0)),
  oG 7 5 true (rlenS (T 6)),
  oG 8 5 true (rbin env .leq 3 false true (T 7) (K 12)),
  oV 9 (rpick (T 5) (T 8) (.const (.bool false))),
  oV 10 (rmv (T 9)),
  oG 11 10 true (rmv (T 0)),
  oG 12 10 true (rbin env .neq 9 false true (T 11) (.const (.string ⟨#[46]⟩))),
  oV 13 (rpick (T 10) (T 12) (.const (.bool false))),
  oV 14 (rmv (T 13)),
  oG 15 14 true (rmv (T 0)),
  oG 16 14 true (rbin env .neq 9 false true (T 15) (.const (.string ⟨#[46, 46]⟩))),
  oV 17 (rpick (T 14) (T 16) (.const (.bool false))),
  oV 18 (rmv (T 17)),
  oG 19 18 true (rmv (T 0)),
  oCG 20 18 true (.func 94) [(T 19), (.const (.string ⟨#[97, 98, 99, 100, 101, 102, 103, 104, 105, 106, 107, 108, 109, 110, 111, 112, 113, 114, 115, 116, 117, 118, 119, 120, 121, 122, 48, 49, 50, 51, 52, 53, 54, 55, 56, 57, 46, 95, 45]⟩))],
  oG 21 18 true (rbin env .eql 9 false true (T 20) (.const (.string ⟨#[]⟩))),
  oV 22 (rpick (T 18) (T 21) (.const (.bool false))),
  oV 23 (rmv (T 22)),
  oG 24 23 true (rmv (T 0)),
  oCG 25 23 true (.func 95) [(T 24), (.func 96)],
  oG 26 23 true (run' .not (T 25)),
  oV 27 (rpick (T 23) (T 26) (.const (.bool false))),
  oV 2 (rmv (T 27))]
noncomputable abbrev c82_2 : RC := .seq c82_1 .ret
noncomputable abbrev c82_3 : RC := .seq c82_0 c82_2
theorem fn82 : env.fn 82 = some ⟨28, [.tmp 2], body82⟩ := by kernel_rfl
theorem comp82 : comp env body82 = c82_3 := by kernel_rfl
noncomputable def body83 : Code := match Tryd.f83.body with | some c => c | none => .skip
noncomputable abbrev c83_0 : RC := .ops [oU 0 (rnew [.v (.int .i64 0), .v (.int .i64 0), .v (.int .i64 0), .v (.int .i64 0), .v (.int .i64 0), .v (.int .i64 0), .v (.int .i64 0), .v (.int .i64 0)])]
noncomputable abbrev c83_1 : RC := .ops [oV 1 (rbuild [.v (.int .i64 0), .v (.int .i64 0)] [(0, 1), (1, 1)] [(0, (K 511)), (1, (K 1000))]),
  oV 2 (rbuild [.v (.int .i64 0), .v (.int .i64 0)] [(0, 1), (1, 1)] [(0, (K 511))]),
  oV 3 (rbuild [.v (.int .i64 0), .v (.int .i64 0)] [(0, 1), (1, 1)] []),
  oV 4 (rbuildA 2 [.v (.int .i64 0), .v (.int .i64 0), .v (.int .i64 0), .v (.int .i64 0), .v (.int .i64 0), .v (.int .i64 0), .v (.int .i64 0), .v (.int .i64 0)] [(1, (T 1)), (2, (T 2)), (3, (T 3))]),
  oS (rstore 8 (T 0) (T 4))]
noncomputable abbrev c83_2 : RC := .seq c83_1 .ret
noncomputable abbrev c83_3 : RC := .seq c83_0 c83_2
theorem fn83 : env.fn 83 = some ⟨5, [.cell 0 128], body83⟩ := by kernel_rfl
theorem comp83 : comp env body83 = c83_3 := by kernel_rfl
noncomputable def body89 : Code := match Tryd.f89.body with | some c => c | none => .skip
noncomputable abbrev c89_0 : RC := .ops [oV 4 (rmv (.const (.bool false)))]
noncomputable abbrev c89_1 : RC := .ops [oV 5 (rmv (T 0)),
  oV 6 (rmv (T 5)),
  oG 7 6 true (rmv (T 1)),
  oG 8 6 true (run' .not (T 7)),
  oV 9 (rpick (T 6) (T 8) (.const (.bool false))),
  oV 4 (rmv (T 9))]
noncomputable abbrev c89_2 : RC := .seq c89_1 .ret
noncomputable abbrev c89_3 : RC := .seq c89_0 c89_2
theorem fn89 : env.fn 89 = some ⟨10, [.tmp 4], body89⟩ := by kernel_rfl
theorem comp89 : comp env body89 = c89_3 := by kernel_rfl
noncomputable def body90 : Code := match Tryd.f90.body with | some c => c | none => .skip
noncomputable abbrev c90_0 : RC := .ops [oV 4 (rmv (K 0))]
noncomputable abbrev c90_1 : RC := .ops [oV 6 (rmv (T 0)),
  oV 7 (rlen (T 6)),
  oV 8 (rmv (K 0))]
noncomputable abbrev c90_2 : RC := .ops [oV 9 (rbin env .lss 3 false false (T 8) (T 7))]
noncomputable abbrev c90_3 : RC := .cond (rX 9) .skip (.exit 0)
noncomputable abbrev c90_4 : RC := .ops [oV 10 (rmv (T 8)),
  oV 5 (rmv (T 10))]
noncomputable abbrev c90_5 : RC := .ops [oV 11 (rmv (T 1)),
  oV 12 (rmv (T 0)),
  oV 13 (rmv (T 5)),
  oV 14 (riaddr 3 (T 12) (T 13)),
  oV 15 (rload true 3 (T 14)),
  oC 16 (T 11) [(T 15)]]
noncomputable abbrev c90_6 : RC := .ops [oV 17 (rmv (T 5)),
  oV 4 (rmv (T 17))]
noncomputable abbrev c90_7 : RC := .seq c90_6 .ret
noncomputable abbrev c90_8 : RC := .cond (rX 16) c90_7 .skip
noncomputable abbrev c90_9 : RC := .seq c90_5 c90_8
noncomputable abbrev c90_10 : RC := .seq c90_4 c90_9
noncomputable abbrev c90_11 : RC := .block 1 c90_10
noncomputable abbrev c90_12 : RC := .ops [oV 18 (rbin env .add 3 false true (T 8) (K 1)),
  oV 8 (rmv (T 18))]
noncomputable abbrev c90_13 : RC := .seq c90_11 c90_12
noncomputable abbrev c90_14 : RC := .seq c90_3 c90_13
noncomputable abbrev c90_15 : RC := .seq c90_2 c90_14
noncomputable abbrev c90_16 : RC := .loop c90_15
noncomputable abbrev c90_17 : RC := .block 0 c90_16
noncomputable abbrev c90_18 : RC := .seq c90_1 c90_17
noncomputable abbrev c90_19 : RC := .ops [oV 4 (rmv (K (-1)))]
noncomputable abbrev c90_20 : RC := .seq c90_19 .ret
noncomputable abbrev c90_21 : RC := .seq c90_18 c90_20
noncomputable abbrev c90_22 : RC := .seq c90_0 c90_21
theorem fn90 : env.fn 90 = some ⟨19, [.tmp 4], body90⟩ := by kernel_rfl
theorem comp90 : comp env body90 = c90_22 := by kernel_rfl
noncomputable def body91 : Code := match Tryd.f91.body with | some c => c | none => .skip
noncomputable abbrev c91_0 : RC := .ops [oV 2 (rmv (K 0))]
noncomputable abbrev c91_1 : RC := .ops [oV 28 (rmv (T 0)),
  oV 29 (rnil (T 28)),
  oV 30 (rfaddr 0 (T 29)),
  oV 31 (rload false 1 (T 30)),
  oV 32 (rlen (T 31)),
  oV 33 (rbin env .eql 3 false true (T 32) (K 0)),
  oV 27 (rmv (T 33))]
noncomputable abbrev c91_2 : RC := .ops [oV 34 (rmv (T 0)),
  oV 35 (rnil (T 34)),
  oV 36 (rfaddr 1 (T 35)),
  oV 37 (rload false 1 (T 36)),
  oV 38 (riaddr 3 (T 37) (K 0)),
  oV 39 (rfaddr 0 (T 38)),
  oV 40 (rload false 1 (T 39)),
  oV 2 (rmv (T 40))]
noncomputable abbrev c91_3 : RC := .ops [oV 42 (rmv (T 0)),
  oV 43 (rnil (T 42)),
  oV 44 (rfaddr 1 (T 43)),
  oV 45 (rload false 1 (T 44)),
  oV 46 (rlen (T 45)),
  oV 47 (rbin env .eql 3 false true (T 46) (K 0)),
  oV 41 (rmv (T 47))]
noncomputable abbrev c91_4 : RC := .ops [oV 48 (rmv (T 0)),
  oV 49 (rnil (T 48)),
  oV 50 (rfaddr 0 (T 49)),
  oV 51 (rload false 1 (T 50)),
  oV 52 (riaddr 3 (T 51) (K 0)),
  oV 53 (rfaddr 0 (T 52)),
  oV 54 (rload false 1 (T 53)),
  oV 2 (rmv (T 54))]
noncomputable abbrev c91_5 : RC := .drawn true [dV 12 (rmv (T 0)),
  dV 13 (rnil (T 12)),
  dV 14 (rfaddr 0 (T 13)),
  dV 15 (rload false 1 (T 14)),
  dV 16 (riaddr 3 (T 15) (K 0)),
  dV 17 (rfaddr 0 (T 16)),
  dV 18 (rload false 1 (T 17)),
  dV 19 (rmv (T 0)),
  dV 20 (rnil (T 19)),
  dV 21 (rfaddr 1 (T 20)),
  dV 22 (rload false 1 (T 21)),
  dV 23 (riaddr 3 (T 22) (K 0)),
  dV 24 (rfaddr 0 (T 23)),
  dV 25 (rload false 1 (T 24)),
  dV 26 (rmm minV [(T 18), (T 25)]),
  dV 2 (rmv (T 26))]
noncomputable abbrev c91_6 : RC := .cond (rX 41) c91_4 c91_5
noncomputable abbrev c91_7 : RC := .seq c91_3 c91_6
noncomputable abbrev c91_8 : RC := .cond (rX 27) c91_2 c91_7
noncomputable abbrev c91_9 : RC := .seq c91_1 c91_8
noncomputable abbrev c91_10 : RC := .block 0 c91_9
noncomputable abbrev c91_11 : RC := .ops [oV 56 (rmv (T 0)),
  oV 57 (rnil (T 56)),
  oV 58 (rfaddr 0 (T 57)),
  oV 59 (rload false 1 (T 58)),
  oV 60 (rmv (T 2)),
  oC 61 (.func 100) [(T 59), (T 60)],
  oV 55 (rmv (T 61)),
  oV 62 (rext (T 55) 0),
  oV 63 (rext (T 55) 1),
  oU 3 (rnew [.v (.int .i64 0), .v (.int .i64 0), .v (.int .i64 0)]),
  oS (rstore 3 (T 3) (T 62)),
  oV 4 (rmv (T 63))]
noncomputable abbrev c91_12 : RC := .ops [oV 65 (rmv (T 0)),
  oV 66 (rnil (T 65)),
  oV 67 (rfaddr 1 (T 66)),
  oV 68 (rload false 1 (T 67)),
  oV 69 (rmv (T 2)),
  oC 70 (.func 100) [(T 68), (T 69)],
  oV 64 (rmv (T 70)),
  oV 71 (rext (T 64) 0),
  oV 72 (rext (T 64) 1),
  oU 5 (rnew [.v (.int .i64 0), .v (.int .i64 0), .v (.int .i64 0)]),
  oS (rstore 3 (T 5) (T 71)),
  oV 6 (rmv (T 72))]
noncomputable abbrev c91_13 : RC := .ops [oV 73 (rmv (T 2)),
  oV 74 (rfaddr 1 (T 3)),
  oV 75 (rload false 1 (T 74)),
  oV 76 (rfaddr 1 (T 5)),
  oV 77 (rload false 1 (T 76)),
  oV 78 (rmm minV [(T 75), (T 77)]),
  oV 79 (rbuild [.v (.int .i64 0), .v (.int .i64 0), .v (.int .i64 0)] [(0, 1), (1, 1), (2, 1)] [(0, (T 73)), (1, (T 78))]),
  oU 7 (rnew [.v (.int .i64 0), .v (.int .i64 0), .v (.int .i64 0)]),
  oS (rstore 3 (T 7) (T 79))]
noncomputable abbrev c91_14 : RC := .ops [oV 80 (rmv (T 4)),
  oV 81 (run' .not (T 80)),
  oV 82 (rmv (T 81)),
  oG 83 82 false (rmv (T 6)),
  oG 84 82 false (run' .not (T 83)),
  oV 85 (rpick (T 82) (.const (.bool true)) (T 84))]
noncomputable abbrev c91_15 : RC := .ops [oV 86 (rfaddr 1 (T 3)),
  oV 87 (rload false 1 (T 86)),
  oV 88 (rfaddr 1 (T 5)),
  oV 89 (rload false 1 (T 88)),
  oV 90 (rmm maxV [(T 87), (T 89)]),
  oV 91 (rfaddr 1 (T 7)),
  oS (rstore 1 (T 91) (T 90))]
noncomputable abbrev c91_16 : RC := .cond (rX 85) c91_15 .skip
noncomputable abbrev c91_17 : RC := .seq c91_14 c91_16
noncomputable abbrev c91_18 : RC := .drawn true [dV 92 (rmv (T 4)),
  dV 93 (rmv (T 92)),
  dG 94 93 true (rfaddr 1 (T 3)),
  dG 95 93 true (rload false 1 (T 94)),
  dG 96 93 true (rfaddr 1 (T 7)),
  dG 97 93 true (rload false 1 (T 96)),
  dG 98 93 true (rbin env .eql 3 false false (T 95) (T 97)),
  dV 99 (rpick (T 93) (T 98) (.const (.bool false))),
  dV 100 (rmv (T 6)),
  dV 101 (rmv (T 100)),
  dG 102 101 true (rfaddr 1 (T 5)),
  dG 103 101 true (rload false 1 (T 102)),
  dG 104 101 true (rfaddr 1 (T 7)),
  dG 105 101 true (rload false 1 (T 104)),
  dG 106 101 true (rbin env .eql 3 false false (T 103) (T 105)),
  dV 107 (rpick (T 101) (T 106) (.const (.bool false))),
  dV 8 (rmv (T 99)),
  dV 9 (rmv (T 107))]
noncomputable abbrev c91_19 : RC := .ops [oV 108 (rfaddr 2 (T 7)),
  oS (rstore 1 (T 108) (K 2147483647))]
noncomputable abbrev c91_20 : RC := .ops [oV 109 (rload true 3 (T 3)),
  oV 110 (rmv (T 4)),
  oV 111 (rmv (T 8)),
  oV 112 (rbuild [.v (.int .i64 0), .v (.int .i64 0), .v (.int .i64 0), .v (.bool false), .v (.bool false)] [(0, 3), (3, 1), (4, 1)] [(0, (T 109)), (1, (T 110)), (2, (T 111))]),
  oV 113 (rload true 3 (T 5)),
  oV 114 (rmv (T 6)),
  oV 115 (rmv (T 9)),
  oV 116 (rbuild [.v (.int .i64 0), .v (.int .i64 0), .v (.int .i64 0), .v (.bool false), .v (.bool false)] [(0, 3), (3, 1), (4, 1)] [(0, (T 113)), (1, (T 114)), (2, (T 115))]),
  oU 117 (rbuildL 5 2 [.v (.int .i64 0), .v (.int .i64 0), .v (.int .i64 0), .v (.bool false), .v (.bool false), .v (.int .i64 0), .v (.int .i64 0), .v (.int .i64 0), .v (.bool false), .v (.bool false)] [(0, (T 112)), (1, (T 116))]),
  oV 118 (rlen (T 117)),
  oV 119 (rmv (K 0))]
noncomputable abbrev c91_21 : RC := .ops [oV 120 (rbin env .lss 3 false false (T 119) (T 118))]
noncomputable abbrev c91_22 : RC := .cond (rX 120) .skip (.exit 1)
noncomputable abbrev c91_23 : RC := .ops [oV 121 (riaddr 5 (T 117) (T 119)),
  oV 122 (rload true 5 (T 121)),
  oU 11 (rnew [.v (.int .i64 0), .v (.int .i64 0), .v (.int .i64 0), .v (.bool false), .v (.bool false)]),
  oS (rstore 5 (T 11) (T 122))]
noncomputable abbrev c91_24 : RC := .ops [oV 124 (rfaddr 4 (T 11)),
  oV 125 (rload false 1 (T 124)),
  oV 123 (rmv (T 125))]
noncomputable abbrev c91_25 : RC := .ops [oV 126 (rfaddr 2 (T 7)),
  oV 127 (rload false 1 (T 126)),
  oV 128 (rfaddr 0 (T 11)),
  oV 129 (rfaddr 2 (T 128)),
  oV 130 (rload false 1 (T 129)),
  oV 131 (rmm minV [(T 127), (T 130)]),
  oV 132 (rfaddr 2 (T 7)),
  oS (rstore 1 (T 132) (T 131))]
noncomputable abbrev c91_26 : RC := .ops [oV 134 (rfaddr 3 (T 11)),
  oV 135 (rload false 1 (T 134)),
  oV 133 (rmv (T 135))]
noncomputable abbrev c91_27 : RC := .ops [oV 136 (rfaddr 2 (T 7)),
  oV 137 (rload false 1 (T 136)),
  oV 138 (rfaddr 0 (T 11)),
  oV 139 (rfaddr 1 (T 138)),
  oV 140 (rload false 1 (T 139)),
  oV 141 (rbin env .sub 3 false true (T 140) (K 1)),
  oV 142 (rmm minV [(T 137), (T 141)]),
  oV 143 (rfaddr 2 (T 7)),
  oS (rstore 1 (T 143) (T 142))]
noncomputable abbrev c91_28 : RC := .cond (rX 133) c91_27 .skip
noncomputable abbrev c91_29 : RC := .seq c91_26 c91_28
noncomputable abbrev c91_30 : RC := .cond (rX 123) c91_25 c91_29
noncomputable abbrev c91_31 : RC := .seq c91_24 c91_30
noncomputable abbrev c91_32 : RC := .block 3 c91_31
noncomputable abbrev c91_33 : RC := .seq c91_23 c91_32
noncomputable abbrev c91_34 : RC := .block 2 c91_33
noncomputable abbrev c91_35 : RC := .ops [oV 144 (rbin env .add 3 false true (T 119) (K 1)),
  oV 119 (rmv (T 144))]
noncomputable abbrev c91_36 : RC := .seq c91_34 c91_35
noncomputable abbrev c91_37 : RC := .seq c91_22 c91_36
noncomputable abbrev c91_38 : RC := .seq c91_21 c91_37
noncomputable abbrev c91_39 : RC := .loop c91_38
noncomputable abbrev c91_40 : RC := .block 1 c91_39
noncomputable abbrev c91_41 : RC := .seq c91_20 c91_40
noncomputable abbrev c91_42 : RC := .ops [oV 145 (rmv (T 0)),
  oV 146 (rnil (T 145)),
  oV 147 (rfaddr 2 (T 146)),
  oV 148 (rload false 1 (T 147)),
  oV 149 (rmv (T 8)),
  oV 150 (rmv (T 9)),
  oC 151 (T 148) [(T 149), (T 150)]]
noncomputable abbrev c91_43 : RC := .ops [oV 152 (rmv (T 0)),
  oV 153 (rload true 3 (T 7)),
  oC 154 (.func 101) [(T 152), (T 153)]]
noncomputable abbrev c91_44 : RC := .cond (rX 151) c91_43 .skip
noncomputable abbrev c91_45 : RC := .seq c91_42 c91_44
noncomputable abbrev c91_46 : RC := .ops [oV 155 (rmv (T 8))]
noncomputable abbrev c91_47 : RC := .drawn true [dV 156 (rmv (T 0)),
  dV 157 (rmv (T 0)),
  dV 158 (rnil (T 157)),
  dV 159 (rfaddr 0 (T 158)),
  dV 160 (rload false 1 (T 159)),
  dV 161 (rfaddr 2 (T 7)),
  dV 162 (rload false 1 (T 161)),
  dC true 163 (.func 102) [(T 160), (T 162)],
  dV 164 (rnil (T 156)),
  dV 165 (rfaddr 0 (T 164)),
  dS (rstore 1 (T 165) (T 163))]
noncomputable abbrev c91_48 : RC := .cond (rX 155) c91_47 .skip
noncomputable abbrev c91_49 : RC := .seq c91_46 c91_48
noncomputable abbrev c91_50 : RC := .ops [oV 166 (rmv (T 9))]
noncomputable abbrev c91_51 : RC := .drawn true [dV 167 (rmv (T 0)),
  dV 168 (rmv (T 0)),
  dV 169 (rnil (T 168)),
  dV 170 (rfaddr 1 (T 169)),
  dV 171 (rload false 1 (T 170)),
  dV 172 (rfaddr 2 (T 7)),
  dV 173 (rload false 1 (T 172)),
  dC true 174 (.func 102) [(T 171), (T 173)],
  dV 175 (rnil (T 167)),
  dV 176 (rfaddr 1 (T 175)),
  dS (rstore 1 (T 176) (T 174))]
noncomputable abbrev c91_52 : RC := .cond (rX 166) c91_51 .skip
noncomputable abbrev c91_53 : RC := .seq c91_50 c91_52
noncomputable abbrev c91_54 : RC := .seq c91_49 c91_53
noncomputable abbrev c91_55 : RC := .seq c91_45 c91_54
noncomputable abbrev c91_56 : RC := .seq c91_41 c91_55
noncomputable abbrev c91_57 : RC := .seq c91_19 c91_56
noncomputable abbrev c91_58 : RC := .seq c91_18 c91_57
noncomputable abbrev c91_59 : RC := .seq c91_17 c91_58
noncomputable abbrev c91_60 : RC := .seq c91_13 c91_59
noncomputable abbrev c91_61 : RC := .seq c91_12 c91_60
noncomputable abbrev c91_62 : RC := .seq c91_11 c91_61
noncomputable abbrev c91_63 : RC := .seq c91_10 c91_62
noncomputable abbrev c91_64 : RC := .seq c91_0 c91_63
theorem fn91 : env.fn 91 = some ⟨177, [], body91⟩ := by kernel_rfl
theorem comp91 : comp env body91 = c91_64 := by kernel_rfl
noncomputable def body92 : Code := match Tryd.f92.body with | some c => c | none => .skip
noncomputable abbrev c92_0 : RC := .ops [oV 2 (rmv (.const (.slice none 0 0)))]
noncomputable abbrev c92_1 : RC := .ops [oU 3 (rbuildL 1 0 [] []),
  oV 4 (rmv (T 0)),
  oA 5 1 1 1 (T 3) (T 4),
  oV 2 (rmv (T 5))]
noncomputable abbrev c92_2 : RC := .seq c92_1 .ret
noncomputable abbrev c92_3 : RC := .seq c92_0 c92_2
theorem fn92 : env.fn 92 = some ⟨6, [.tmp 2], body92⟩ := by kernel_rfl
theorem comp92 : comp env body92 = c92_3 := by kernel_rfl
noncomputable def body93 : Code := match Tryd.f93.body with | some c => c | none => .skip
noncomputable abbrev c93_0 : RC := .ops [oU 3 (rbox (T 0)),
  oU 4 (rbox (T 1)),
  oU 5 (rbox (T 2)),
  oV 6 (rmv (.const (.nilFunc)))]
noncomputable abbrev c93_1 : RC := .ops [oV 7 (rfn 103 [] [(T 4), (T 3), (T 5)]),
  oV 6 (rmv (T 7))]
noncomputable abbrev c93_2 : RC := .seq c93_1 .ret
noncomputable abbrev c93_3 : RC := .seq c93_0 c93_2
theorem fn93 : env.fn 93 = some ⟨8, [.tmp 6], body93⟩ := by kernel_rfl
theorem comp93 : comp env body93 = c93_3 := by kernel_rfl
noncomputable def body94 : Code := match Tryd.f94.body with | some c => c | none => .skip
noncomputable abbrev c94_0 : RC := .ops [oV 4 (rmv (.const (.string ⟨#[]⟩)))]
noncomputable abbrev c94_1 : RC := .ops [oV 7 (rmv (T 0)),
  oV 8 (rbin env .eql 9 false true (T 7) (.const (.string ⟨#[]⟩))),
  oV 9 (rmv (T 8)),
  oG 10 9 false (rmv (T 1)),
  oG 11 9 false (rbin env .eql 9 false true (T 10) (.const (.string ⟨#[]⟩))),
  oV 12 (rpick (T 9) (.const (.bool true)) (T 11))]
noncomputable abbrev c94_2 : RC := .ops [oV 13 (rmv (T 0)),
  oV 4 (rmv (T 13))]
noncomputable abbrev c94_3 : RC := .seq c94_2 .ret
noncomputable abbrev c94_4 : RC := .cond (rX 12) c94_3 .skip
noncomputable abbrev c94_5 : RC := .seq c94_1 c94_4
noncomputable abbrev c94_6 : RC := .ops [oV 14 (rmv (T 1)),
  oV 15 (rlenS (T 14)),
  oV 16 (rbin env .eql 3 false true (T 15) (K 1)),
  oV 17 (rmv (T 16)),
  oG 18 17 true (rmv (T 1)),
  oG 19 17 true (ridxS (T 18) (K 0)),
  oG 20 17 true (rbin env .lss 5 false true (T 19) (.const (.int .u8 128))),
  oV 21 (rpick (T 17) (T 20) (.const (.bool false)))]
noncomputable abbrev c94_7 : RC := .drawn true [dV 22 (rmv (T 0)),
  dV 23 (rmv (T 1)),
  dV 24 (ridxS (T 23) (K 0)),
  dV 26 (rmv (T 1)),
  dV 27 (ridxS (T 26) (K 0)),
  dC true 25 (.func 107) [(T 22), (T 24)],
  dC true 28 (.func 106) [(T 25), (T 27)],
  dV 4 (rmv (T 28))]
noncomputable abbrev c94_8 : RC := .seq c94_7 .ret
noncomputable abbrev c94_9 : RC := .cond (rX 21) c94_8 .skip
noncomputable abbrev c94_10 : RC := .seq c94_6 c94_9
noncomputable abbrev c94_11 : RC := .ops [oV 30 (rmv (T 1)),
  oC 31 (.func 108) [(T 30)],
  oV 29 (rmv (T 31)),
  oV 32 (rext (T 29) 0),
  oV 33 (rext (T 29) 1),
  oU 5 (rnew [.v (.bool false), .v (.bool false), .v (.bool false), .v (.bool false), .v (.bool false), .v (.bool false), .v (.bool false), .v (.bool false), .v (.bool false), .v (.bool false), .v (.bool false), .v (.bool false), .v (.bool false), .v (.bool false), .v (.bool false), .v (.bool false), .v (.bool false), .v (.bool false), .v (.bool false), .v (.bool false), .v (.bool false), .v (.bool false), .v (.bool false), .v (.bool false), .v (.bool false), .v (.bool false), .v (.bool false), .v (.bool false), .v (.bool false), .v (.bool false), .v (.bool false), .v (.bool false), .v (.bool false), .v (.bool false), .v (.bool false), .v (.bool false), .v (.bool false), .v (.bool false), .v (.bool false), .v (.bool false), .v (.bool false), .v (.bool false), .v (.bool false), .v (.bool false), .v (.bool false), .v (.bool false), .v (.bool false), .v (.bool false), .v (.bool false), .v (.bool false), .v (.bool false), .v (.bool false), .v (.bool false), .v (.bool false), .v (.bool false), .v (.bool false), .v (.bool false), .v (.bool false), .v (.bool false), .v (.bool false), .v (.bool false), .v (.bool false), .v (.bool false), .v (.bool false), .v (.bool false), .v (.bool false), .v (.bool false), .v (.bool false), .v (.bool false), .v (.bool false), .v (.bool false), .v (.bool false), .v (.bool false), .v (.bool false), .v (.bool false), .v (.bool false), .v (.bool false), .v (.bool false), .v (.bool false), .v (.bool false), .v (.bool false), .v (.bool false), .v (.bool false), .v (.bool false), .v (.bool false), .v (.bool false), .v (.bool false), .v (.bool false), .v (.bool false), .v (.bool false), .v (.bool false), .v (.bool false), .v (.bool false), .v (.bool false), .v (.bool false), .v (.bool false), .v (.bool false), .v (.bool false), .v (.bool false), .v (.bool false), .v (.bool false), .v (.bool false), .v (.bool false), .v (.bool false), .v (.bool false), .v (.bool false), .v (.bool false), .v (.bool false), .v (.bool false), .v (.bool false), .v (.bool false), .v (.bool false), .v (.bool false), .v (.bool false), .v (.bool false), .v (.bool false), .v (.bool false), .v (.bool false), .v (.bool false), .v (.bool false), .v (.bool false), .v (.bool false), .v (.bool false), .v (.bool false), .v (.bool false), .v (.bool false), .v (.bool false), .v (.bool false), .v (.bool false), .v (.bool false), .v (.bool false), .v (.bool false), .v (.bool false), .v (.bool false), .v (.bool false), .v (.bool false), .v (.bool false), .v (.bool false), .v (.bool false), .v (.bool false), .v (.bool false), .v (.bool false), .v (.bool false), .v (.bool false), .v (.bool false), .v (.bool false), .v (.bool false), .v (.bool false), .v (.bool false), .v (.bool false), .v (.bool false), .v (.bool false), .v (.bool false), .v (.bool false), .v (.bool false), .v (.bool false), .v (.bool false), .v (.bool false), .v (.bool false), .v (.bool false), .v (.bool false), .v (.bool false), .v (.bool false), .v (.bool false), .v (.bool false), .v (.bool false), .v (.bool false), .v (.bool false), .v (.bool false), .v (.bool false), .v (.bool false), .v (.bool false), .v (.bool false), .v (.bool false), .v (.bool false), .v (.bool false), .v (.bool false), .v (.bool false), .v (.bool false), .v (.bool false), .v (.bool false), .v (.bool false), .v (.bool false), .v (.bool false), .v (.bool false), .v (.bool false), .v (.bool false), .v (.bool false), .v (.bool false), .v (.bool false), .v (.bool false), .v (.bool false), .v (.bool false), .v (.bool false), .v (.bool false), .v (.bool false), .v (.bool false), .v (.bool false), .v (.bool false), .v (.bool false), .v (.bool false), .v (.bool false), .v (.bool false), .v (.bool false), .v (.bool false), .v (.bool false), .v (.bool false), .v (.bool false), .v (.bool false), .v (.bool false), .v (.bool false), .v (.bool false), .v (.bool false), .v (.bool false), .v (.bool false), .v (.bool false), .v (.bool false), .v (.bool false), .v (.bool false), .v (.bool false), .v (.bool false), .v (.bool false), .v (.bool false), .v (.bool false), .v (.bool false), .v (.bool false), .v (.bool false), .v (.bool false), .v (.bool false), .v (.bool false), .v (.bool false), .v (.bool false), .v (.bool false), .v (.bool false), .v (.bool false), .v (.bool false), .v (.bool false), .v (.bool false), .v (.bool false), .v (.bool false), .v (.bool false), .v (.bool false), .v (.bool false), .v (.bool false), .v (.bool false), .v (.bool false), .v (.bool false), .v (.bool false), .v (.bool false), .v (.bool false), .v (.bool false), .v (.bool false), .v (.bool false), .v (.bool false), .v (.bool false), .v (.bool false)]),
  oS (rstore 256 (T 5) (T 32)),
  oV 6 (rmv (T 33))]
noncomputable abbrev c94_12 : RC := .ops [oV 34 (rmv (T 6))]
noncomputable abbrev c94_13 : RC := .ops [oV 35 (rmv (T 0)),
  oC 36 (.func 110) [(T 35), (T 5)],
  oC 37 (.func 109) [(T 36), (T 5)],
  oV 4 (rmv (T 37))]
noncomputable abbrev c94_14 : RC := .seq c94_13 .ret
noncomputable abbrev c94_15 : RC := .cond (rX 34) c94_14 .skip
noncomputable abbrev c94_16 : RC := .seq c94_12 c94_15
noncomputable abbrev c94_17 : RC := .seq c94_11 c94_16
noncomputable abbrev c94_18 : RC := .ops [oV 38 (rmv (T 0)),
  oV 39 (rmv (T 1)),
  oC 40 (.func 112) [(T 38), (T 39)],
  oV 41 (rmv (T 1)),
  oC 42 (.func 111) [(T 40), (T 41)],
  oV 4 (rmv (T 42))]
noncomputable abbrev c94_19 : RC := .seq c94_18 .ret
noncomputable abbrev c94_20 : RC := .seq c94_17 c94_19
noncomputable abbrev c94_21 : RC := .seq c94_10 c94_20
noncomputable abbrev c94_22 : RC := .seq c94_5 c94_21
noncomputable abbrev c94_23 : RC := .seq c94_0 c94_22
theorem fn94 : env.fn 94 = some ⟨43, [.tmp 4], body94⟩ := by kernel_rfl
theorem comp94 : comp env body94 = c94_23 := by kernel_rfl
noncomputable def body95 : Code := match Tryd.f95.body with | some c => c | none => .skip
noncomputable abbrev c95_0 : RC := .ops [oV 4 (rmv (.const (.bool false)))]
noncomputable abbrev c95_1 : RC := .ops [oV 5 (rmv (T 0)),
  oV 6 (rmv (T 1)),
  oC 7 (.func 113) [(T 5), (T 6)],
  oV 8 (rbin env .geq 3 false true (T 7) (K 0)),
  oV 4 (rmv (T 8))]
noncomputable abbrev c95_2 : RC := .seq c95_1 .ret
noncomputable abbrev c95_3 : RC := .seq c95_0 c95_2
theorem fn95 : env.fn 95 = some ⟨9, [.tmp 4], body95⟩ := by kernel_rfl
theorem comp95 : comp env body95 = c95_3 := by kernel_rfl
noncomputable def body96 : Code := match Tryd.f96.body with | some c => c | none => .skip
noncomputable abbrev c96_0 : RC := .ops [oV 2 (rmv (.const (.bool false)))]
noncomputable abbrev c96_1 : RC := .ops [oV 3 (rmv (T 0)),
  oC 4 (.func 97) [(.const (.string ⟨#[97, 98, 99, 100, 101, 102, 103, 104, 105, 106, 107, 108, 109, 110, 111, 112, 113, 114, 115, 116, 117, 118, 119, 120, 121, 122, 48, 49, 50, 51, 52, 53, 54, 55, 56, 57, 46, 95, 45]⟩)), (T 3)],
  oV 5 (run' .not (T 4)),
  oV 2 (rmv (T 5))]
noncomputable abbrev c96_2 : RC := .seq c96_1 .ret
noncomputable abbrev c96_3 : RC := .seq c96_0 c96_2
theorem fn96 : env.fn 96 = some ⟨6, [.tmp 2], body96⟩ := by kernel_rfl
theorem comp96 : comp env body96 = c96_3 := by kernel_rfl
noncomputable def body97 : Code := match Tryd.f97.body with | some c => c | none => .skip
noncomputable abbrev c97_0 : RC := .ops [oV 4 (rmv (.const (.bool false)))]
noncomputable abbrev c97_1 : RC := .ops [oV 5 (rmv (T 0)),
  oV 6 (rmv (T 1)),
  oC 7 (.func 114) [(T 5), (T 6)],
  oV 8 (rbin env .geq 3 false true (T 7) (K 0)),
  oV 4 (rmv (T 8))]
noncomputable abbrev c97_2 : RC := .seq c97_1 .ret
noncomputable abbrev c97_3 : RC := .seq c97_0 c97_2
theorem fn97 : env.fn 97 = some ⟨9, [.tmp 4], body97⟩ := by kernel_rfl
theorem comp97 : comp env body97 = c97_3 := by kernel_rfl
noncomputable def body100 : Code := match Tryd.f100.body with | some c => c | none => .skip
noncomputable abbrev c100_0 : RC := .ops [oU 4 (rnew [.v (.int .i64 0), .v (.int .i64 0), .v (.int .i64 0)]),
  oV 5 (rmv (.const (.bool false)))]
noncomputable abbrev c100_1 : RC := .ops [oV 6 (rmv (T 0)),
  oV 7 (rlen (T 6)),
  oV 8 (rbin env .eql 3 false true (T 7) (K 0)),
  oV 9 (rmv (T 8)),
  oG 10 9 false (rmv (T 0)),
  oG 11 9 false (riaddr 3 (T 10) (K 0)),
  oG 12 9 false (rfaddr 0 (T 11)),
  oG 13 9 false (rload false 1 (T 12)),
  oG 14 9 false (rmv (T 1)),
  oG 15 9 false (rbin env .neq 3 false false (T 13) (T 14)),
  oV 16 (rpick (T 9) (.const (.bool true)) (T 15))]
noncomputable abbrev c100_2 : RC := .ops [oV 17 (rbuild [.v (.int .i64 0), .v (.int .i64 0), .v (.int .i64 0)] [(0, 1), (1, 1), (2, 1)] []),
  oS (rstore 3 (T 4) (T 17)),
  oV 5 (rmv (.const (.bool false)))]
noncomputable abbrev c100_3 : RC := .seq c100_2 .ret
noncomputable abbrev c100_4 : RC := .cond (rX 16) c100_3 .skip
noncomputable abbrev c100_5 : RC := .seq c100_1 c100_4
noncomputable abbrev c100_6 : RC := .ops [oV 18 (rmv (T 0)),
  oV 19 (riaddr 3 (T 18) (K 0)),
  oV 20 (rload true 3 (T 19)),
  oS (rstore 3 (T 4) (T 20)),
  oV 5 (rmv (.const (.bool true)))]
noncomputable abbrev c100_7 : RC := .seq c100_6 .ret
noncomputable abbrev c100_8 : RC := .seq c100_5 c100_7
noncomputable abbrev c100_9 : RC := .seq c100_0 c100_8
theorem fn100 : env.fn 100 = some ⟨21, [.cell 4 79, .tmp 5], body100⟩ := by kernel_rfl
theorem comp100 : comp env body100 = c100_9 := by kernel_rfl
noncomputable def body101 : Code := match Tryd.f101.body with | some c => c | none => .skip
noncomputable abbrev c101_0 : RC := .ops [oU 3 (rbox (T 1))]
noncomputable abbrev c101_1 : RC := .ops [oV 6 (rmv (T 0)),
  oV 7 (rnil (T 6)),
  oV 8 (rfaddr 3 (T 7)),
  oV 9 (rload false 1 (T 8)),
  oV 10 (rlen (T 9)),
  oV 4 (rmv (T 10))]
noncomputable abbrev c101_2 : RC := .ops [oV 11 (rmv (T 4)),
  oV 12 (rbin env .gtr 3 false true (T 11) (K 0))]
noncomputable abbrev c101_3 : RC := .ops [oV 13 (rmv (T 0)),
  oV 14 (rnil (T 13)),
  oV 15 (rfaddr 3 (T 14)),
  oV 16 (rload false 1 (T 15)),
  oV 17 (rmv (T 4)),
  oV 18 (rbin env .sub 3 false true (T 17) (K 1)),
  oV 19 (riaddr 3 (T 16) (T 18)),
  oV 5 (rmv (T 19))]
noncomputable abbrev c101_4 : RC := .drawn true [dV 20 (rmv (T 5)),
  dV 21 (rnil (T 20)),
  dV 22 (rfaddr 0 (T 21)),
  dV 23 (rload false 1 (T 22)),
  dV 24 (rfaddr 0 (T 3)),
  dV 25 (rload false 1 (T 24)),
  dV 26 (rbin env .eql 3 false false (T 23) (T 25)),
  dV 27 (rmv (T 26)),
  dG 28 27 true (rmv (T 5)),
  dG 29 27 true (rnil (T 28)),
  dG 30 27 true (rfaddr 2 (T 29)),
  dG 31 27 true (rload false 1 (T 30)),
  dG 32 27 true (rbin env .add 3 false true (T 31) (K 1)),
  dG 33 27 true (rfaddr 1 (T 3)),
  dG 34 27 true (rload false 1 (T 33)),
  dG 35 27 true (rbin env .eql 3 false false (T 32) (T 34)),
  dV 36 (rpick (T 27) (T 35) (.const (.bool false)))]
noncomputable abbrev c101_5 : RC := .ops [oV 37 (rmv (T 5)),
  oV 38 (rfaddr 2 (T 3)),
  oV 39 (rload false 1 (T 38)),
  oV 40 (rnil (T 37)),
  oV 41 (rfaddr 2 (T 40)),
  oS (rstore 1 (T 41) (T 39))]
noncomputable abbrev c101_6 : RC := .seq c101_5 .ret
noncomputable abbrev c101_7 : RC := .cond (rX 36) c101_6 .skip
noncomputable abbrev c101_8 : RC := .seq c101_4 c101_7
noncomputable abbrev c101_9 : RC := .seq c101_3 c101_8
noncomputable abbrev c101_10 : RC := .cond (rX 12) c101_9 .skip
noncomputable abbrev c101_11 : RC := .seq c101_2 c101_10
noncomputable abbrev c101_12 : RC := .seq c101_1 c101_11
noncomputable abbrev c101_13 : RC := .drawn true [dV 42 (rmv (T 0)),
  dV 43 (rmv (T 0)),
  dV 44 (rnil (T 43)),
  dV 45 (rfaddr 3 (T 44)),
  dV 46 (rload false 1 (T 45)),
  dV 47 (rload true 3 (T 3)),
  dU 48 (rbuildL 3 1 [.v (.int .i64 0), .v (.int .i64 0), .v (.int .i64 0)] [(0, (T 47))]),
  dA 49 3 24 3 (T 46) (T 48),
  dV 50 (rnil (T 42)),
  dV 51 (rfaddr 3 (T 50)),
  dS (rstore 1 (T 51) (T 49))]
noncomputable abbrev c101_14 : RC := .seq c101_12 c101_13
noncomputable abbrev c101_15 : RC := .seq c101_0 c101_14
theorem fn101 : env.fn 101 = some ⟨52, [], body101⟩ := by kernel_rfl
theorem comp101 : comp env body101 = c101_15 := by kernel_rfl
noncomputable def body102 : Code := match Tryd.f102.body with | some c => c | none => .skip
noncomputable abbrev c102_0 : RC := .ops [oV 4 (rmv (.const (.slice none 0 0)))]
noncomputable abbrev c102_1 : RC := .ops [oV 5 (rmv (T 0)),
  oV 6 (riaddr 3 (T 5) (K 0)),
  oV 7 (rfaddr 2 (T 6)),
  oV 8 (rload false 1 (T 7)),
  oV 9 (rmv (T 1)),
  oV 10 (rbin env .eql 3 false false (T 8) (T 9))]
noncomputable abbrev c102_2 : RC := .ops [oV 11 (rmv (T 0)),
  oV 12 (rsliceL 3 (T 11) (some (K 1)) none none),
  oV 4 (rmv (T 12))]
noncomputable abbrev c102_3 : RC := .seq c102_2 .ret
noncomputable abbrev c102_4 : RC := .cond (rX 10) c102_3 .skip
noncomputable abbrev c102_5 : RC := .seq c102_1 c102_4
noncomputable abbrev c102_6 : RC := .ops [oV 13 (rmv (T 0)),
  oV 14 (rmv (T 1)),
  oV 15 (rbin env .add 3 false true (T 14) (K 1)),
  oV 16 (riaddr 3 (T 13) (K 0)),
  oV 17 (rfaddr 1 (T 16)),
  oS (rstore 1 (T 17) (T 15))]
noncomputable abbrev c102_7 : RC := .ops [oV 18 (rmv (T 0)),
  oV 4 (rmv (T 18))]
noncomputable abbrev c102_8 : RC := .seq c102_7 .ret
noncomputable abbrev c102_9 : RC := .seq c102_6 c102_8
noncomputable abbrev c102_10 : RC := .seq c102_5 c102_9
noncomputable abbrev c102_11 : RC := .seq c102_0 c102_10
theorem fn102 : env.fn 102 = some ⟨19, [.tmp 4], body102⟩ := by kernel_rfl
theorem comp102 : comp env body102 = c102_11 := by kernel_rfl
noncomputable def body103 : Code := match Tryd.f103.body with | some c => c | none => .skip
noncomputable abbrev c103_0 : RC := .ops [oV 9 (rload false 1 (T 1)),
  oV 10 (rlenS (T 9)),
  oV 11 (rbin env .eql 3 false true (T 10) (K 0))]
noncomputable abbrev c103_1 : RC := .ops [oV 12 (rload false 1 (T 2)),
  oV 13 (rlenS (T 12)),
  oV 14 (rbin env .gtr 3 false true (T 13) (K 0))]
noncomputable abbrev c103_2 : RC := .cond (rX 14) .skip (.exit 0)
noncomputable abbrev c103_3 : RC := .seq c103_1 c103_2
noncomputable abbrev c103_4 : RC := .ops [oV 16 (rload false 1 (T 2)),
  oC 17 (.func 104) [(T 16)],
  oV 15 (rmv (T 17)),
  oV 18 (rext (T 15) 0),
  oV 19 (rext (T 15) 1),
  oV 5 (rmv (T 18)),
  oV 6 (rmv (T 19))]
noncomputable abbrev c103_5 : RC := .ops [oV 20 (rmv (T 0)),
  oV 21 (rload false 1 (T 2)),
  oV 22 (rmv (T 6)),
  oV 23 (rsliceS (T 21) none (some (T 22))),
  oC 24 (T 20) [(T 23)],
  oV 25 (run' .not (T 24))]
noncomputable abbrev c103_6 : RC := .cond (rX 25) .ret .skip
noncomputable abbrev c103_7 : RC := .seq c103_5 c103_6
noncomputable abbrev c103_8 : RC := .ops [oV 26 (rload false 1 (T 2)),
  oV 27 (rmv (T 6)),
  oV 28 (rsliceS (T 26) (some (T 27)) none),
  oS (rstore 1 (T 2) (T 28))]
noncomputable abbrev c103_9 : RC := .seq c103_7 c103_8
noncomputable abbrev c103_10 : RC := .seq c103_4 c103_9
noncomputable abbrev c103_11 : RC := .block 1 c103_10
noncomputable abbrev c103_12 : RC := .seq c103_3 c103_11
noncomputable abbrev c103_13 : RC := .loop c103_12
noncomputable abbrev c103_14 : RC := .block 0 c103_13
noncomputable abbrev c103_15 : RC := .seq c103_14 .ret
noncomputable abbrev c103_16 : RC := .cond (rX 11) c103_15 .skip
noncomputable abbrev c103_17 : RC := .seq c103_0 c103_16
noncomputable abbrev c103_18 : RC := .ops [oV 29 (rload false 1 (T 2)),
  oV 30 (rload false 1 (T 1)),
  oC 31 (.func 105) [(T 29), (T 30)],
  oV 7 (rmv (T 31))]
noncomputable abbrev c103_19 : RC := .ops [oV 32 (rmv (T 7)),
  oV 33 (rbin env .lss 3 false true (T 32) (K 0))]
noncomputable abbrev c103_20 : RC := .cond (rX 33) (.exit 2) .skip
noncomputable abbrev c103_21 : RC := .seq c103_19 c103_20
noncomputable abbrev c103_22 : RC := .ops [oV 34 (rload false 1 (T 2)),
  oV 35 (rmv (T 7)),
  oV 36 (rload false 1 (T 3)),
  oV 37 (rbin env .add 3 false false (T 35) (T 36)),
  oV 38 (rsliceS (T 34) none (some (T 37))),
  oV 8 (rmv (T 38))]
noncomputable abbrev c103_23 : RC := .ops [oV 39 (rmv (T 0)),
  oV 40 (rmv (T 8)),
  oC 41 (T 39) [(T 40)],
  oV 42 (run' .not (T 41))]
noncomputable abbrev c103_24 : RC := .cond (rX 42) .ret .skip
noncomputable abbrev c103_25 : RC := .seq c103_23 c103_24
noncomputable abbrev c103_26 : RC := .ops [oV 43 (rload false 1 (T 2)),
  oV 44 (rmv (T 7)),
  oV 45 (rload false 1 (T 1)),
  oV 46 (rlenS (T 45)),
  oV 47 (rbin env .add 3 false false (T 44) (T 46)),
  oV 48 (rsliceS (T 43) (some (T 47)) none),
  oS (rstore 1 (T 2) (T 48))]
noncomputable abbrev c103_27 : RC := .seq c103_25 c103_26
noncomputable abbrev c103_28 : RC := .seq c103_22 c103_27
noncomputable abbrev c103_29 : RC := .seq c103_21 c103_28
noncomputable abbrev c103_30 : RC := .seq c103_18 c103_29
noncomputable abbrev c103_31 : RC := .block 3 c103_30
noncomputable abbrev c103_32 : RC := .loop c103_31
noncomputable abbrev c103_33 : RC := .block 2 c103_32
noncomputable abbrev c103_34 : RC := .ops [oV 49 (rmv (T 0)),
  oV 50 (rload false 1 (T 2)),
  oC 51 (T 49) [(T 50)]]
noncomputable abbrev c103_35 : RC := .seq c103_33 c103_34
noncomputable abbrev c103_36 : RC := .seq c103_17 c103_35
theorem fn103 : env.fn 103 = some ⟨52, [], body103⟩ := by kernel_rfl
theorem comp103 : comp env body103 = c103_36 := by kernel_rfl
noncomputable def body105 : Code := match Tryd.f105.body with | some c => c | none => .skip
noncomputable abbrev c105_0 : RC := .ops [oV 4 (rmv (K 0))]
noncomputable abbrev c105_1 : RC := .ops [oV 5 (rmv (T 0)),
  oV 6 (rmv (T 1)),
  oC 7 (.func 116) [(T 5), (T 6)],
  oV 4 (rmv (T 7))]
noncomputable abbrev c105_2 : RC := .seq c105_1 .ret
noncomputable abbrev c105_3 : RC := .seq c105_0 c105_2
theorem fn105 : env.fn 105 = some ⟨8, [.tmp 4], body105⟩ := by kernel_rfl
theorem comp105 : comp env body105 = c105_3 := by kernel_rfl
noncomputable def body108 : Code := match Tryd.f108.body with | some c => c | none => .skip
noncomputable abbrev c108_0 : RC := .ops [oU 2 (rnew [.v (.bool false), .v (.bool false), .v (.bool false), .v (.bool false), .v (.bool false), .v (.bool false), .v (.bool false), .v (.bool false), .v (.bool false), .v (.bool false), .v (.bool false), .v (.bool false), .v (.bool false), .v (.bool false), .v (.bool false), .v (.bool false), .v (.bool false), .v (.bool false), .v (.bool false), .v (.bool false), .v (.bool false), .v (.bool false), .v (.bool false), .v (.bool false), .v (.bool false), .v (.bool false), .v (.bool false), .v (.bool false), .v (.bool false), .v (.bool false), .v (.bool false), .v (.bool false), .v (.bool false), .v (.bool false), .v (.bool false), .v (.bool false), .v (.bool false), .v (.bool false), .v (.bool false), .v (.bool false), .v (.bool false), .v (.bool false), .v (.bool false), .v (.bool false), .v (.bool false), .v (.bool false), .v (.bool false), .v (.bool false), .v (.bool false), .v (.bool false), .v (.bool false), .v (.bool false), .v (.bool false), .v (.bool false), .v (.bool false), .v (.bool false), .v (.bool false), .v (.bool false), .v (.bool false), .v (.bool false), .v (.bool false), .v (.bool false), .v (.bool false), .v (.bool false), .v (.bool false), .v (.bool false), .v (.bool false), .v (.bool false), .v (.bool false), .v (.bool false), .v (.bool false), .v (.bool false), .v (.bool false), .v (.bool false), .v (.bool false), .v (.bool false), .v (.bool false), .v (.bool false), .v (.bool false), .v (.bool false), .v (.bool false), .v (.bool false), .v (.bool false), .v (.bool false), .v (.bool false), .v (.bool false), .v (.bool false), .v (.bool false), .v (.bool false), .v (.bool false), .v (.bool false), .v (.bool false), .v (.bool false), .v (.bool false), .v (.bool false), .v (.bool false), .v (.bool false), .v (.bool false), .v (.bool false), .v (.bool false), .v (.bool false), .v (.bool false), .v (.bool false), .v (.bool false), .v (.bool false), .v (.bool false), .v (.bool false), .v (.bool false), .v (.bool false), .v (.bool false), .v (.bool false), .v (.bool false), .v (.bool false), .v (.bool false), .v (.bool false), .v (.bool false), .v (.bool false), .v (.bool false), .v (.bool false), .v (.bool false), .v (.bool false), .v (.bool false), .v (.bool false), .v (.bool false), .v (.bool false), .v (.bool false), .v (.bool false), .v (.bool false), .v (.bool false), .v (.bool false), .v (.bool false), .v (.bool false), .v (.bool false), .v (.bool false), .v (.bool false), .v (.bool false), .v (.bool false), .v (.bool false), .v (.bool false), .v (.bool false), .v (.bool false), .v (.bool false), .v (.bool false), .v (.bool false), .v (.bool false), .v (.bool false), .v (.bool false), .v (.bool false), .v (.bool false), .v (.bool false), .v (.bool false), .v (.bool false), .v (.bool false), .v (.bool false), .v (.bool false), .v (.bool false), .v (.bool false), .v (.bool false), .v (.bool false), .v (.bool false), .v (.bool false), .v (.bool false), .v (.bool false), .v (.bool false), .v (.bool false), .v (.bool false), .v (.bool false), .v (.bool false), .v (.bool false), .v (.bool false), .v (.bool false), .v (.bool false), .v (.bool false), .v (.bool false), .v (.bool false), .v (.bool false), .v (.bool false), .v (.bool false), .v (.bool false), .v (.bool false), .v (.bool false), .v (.bool false), .v (.bool false), .v (.bool false), .v (.bool false), .v (.bool false), .v (.bool false), .v (.bool false), .v (.bool false), .v (.bool false), .v (.bool false), .v (.bool false), .v (.bool false), .v (.bool false), .v (.bool false), .v (.bool false), .v (.bool false), .v (.bool false), .v (.bool false), .v (.bool false), .v (.bool false), .v (.bool false), .v (.bool false), .v (.bool false), .v (.bool false), .v (.bool false), .v (.bool false), .v (.bool false), .v (.bool false), .v (.bool false), .v (.bool false), .v (.bool false), .v (.bool false), .v (.bool false), .v (.bool false), .v (.bool false), .v (.bool false), .v (.bool false), .v (.bool false), .v (.bool false), .v (.bool false), .v (.bool false), .v (.bool false), .v (.bool false), .v (.bool false), .v (.bool false), .v (.bool false), .v (.bool false), .v (.bool false), .v (.bool false), .v (.bool false), .v (.bool false), .v (.bool false), .v (.bool false), .v (.bool false), .v (.bool false), .v (.bool false), .v (.bool false), .v (.bool false), .v (.bool false), .v (.bool false), .v (.bool false), .v (.bool false), .v (.bool false), .v (.bool false), .v (.bool false), .v (.bool false), .v (.bool false), .v (.bool false), .v (.bool false), .v (.bool false), .v (.bool false), .v (.bool false), .v (.bool false), .v (.bool false), .v (.bool false)]),
  oV 3 (rmv (.const (.bool false)))]
noncomputable abbrev c108_1 : RC := .ops [oV 4 (rmv (K 0))]
noncomputable abbrev c108_2 : RC := .ops [oV 6 (rmv (T 4)),
  oV 7 (rmv (T 0)),
  oV 8 (rlenS (T 7)),
  oV 9 (rbin env .lss 3 false false (T 6) (T 8))]
noncomputable abbrev c108_3 : RC := .cond (rX 9) .skip (.exit 0)
noncomputable abbrev c108_4 : RC := .seq c108_2 c108_3
noncomputable abbrev c108_5 : RC := .ops [oV 12 (rmv (T 0)),
  oV 13 (rmv (T 4)),
  oV 14 (ridxS (T 12) (T 13)),
  oV 5 (rmv (T 14))]
noncomputable abbrev c108_6 : RC := .ops [oV 15 (rmv (T 5)),
  oV 16 (rbin env .geq 5 false true (T 15) (.const (.int .u8 128)))]
noncomputable abbrev c108_7 : RC := .ops [oV 17 (rload true 256 (T 2)),
  oS (rstore 256 (T 2) (T 17)),
  oV 3 (rmv (.const (.bool false)))]
noncomputable abbrev c108_8 : RC := .seq c108_7 .ret
noncomputable abbrev c108_9 : RC := .cond (rX 16) c108_8 .skip
noncomputable abbrev c108_10 : RC := .seq c108_6 c108_9
noncomputable abbrev c108_11 : RC := .ops [oV 18 (rmv (T 5)),
  oV 19 (riaddrA 256 1 (T 2) (T 18)),
  oS (rstore 1 (T 19) (.const (.bool true)))]
noncomputable abbrev c108_12 : RC := .seq c108_10 c108_11
noncomputable abbrev c108_13 : RC := .seq c108_5 c108_12
noncomputable abbrev c108_14 : RC := .block 1 c108_13
noncomputable abbrev c108_15 : RC := .ops [oV 10 (rmv (T 4)),
  oV 11 (rbin env .add 3 false true (T 10) (K 1)),
  oV 4 (rmv (T 11))]
noncomputable abbrev c108_16 : RC := .seq c108_14 c108_15
noncomputable abbrev c108_17 : RC := .seq c108_4 c108_16
noncomputable abbrev c108_18 : RC := .loop c108_17
noncomputable abbrev c108_19 : RC := .block 0 c108_18
noncomputable abbrev c108_20 : RC := .seq c108_1 c108_19
noncomputable abbrev c108_21 : RC := .ops [oV 20 (rload true 256 (T 2)),
  oS (rstore 256 (T 2) (T 20)),
  oV 3 (rmv (.const (.bool true)))]
noncomputable abbrev c108_22 : RC := .seq c108_21 .ret
noncomputable abbrev c108_23 : RC := .seq c108_20 c108_22
noncomputable abbrev c108_24 : RC := .seq c108_0 c108_23
theorem fn108 : env.fn 108 = some ⟨21, [.cell 2 160, .tmp 3], body108⟩ := by kernel_rfl
theorem comp108 : comp env body108 = c108_24 := by kernel_rfl
noncomputable def body109 : Code := match Tryd.f109.body with | some c => c | none => .skip
noncomputable abbrev c109_0 : RC := .ops [oV 4 (rmv (.const (.string ⟨#[]⟩)))]
noncomputable abbrev c109_1 : RC := .ops [oV 5 (rmv (T 0)),
  oV 6 (rlenS (T 5)),
  oV 7 (rbin env .gtr 3 false true (T 6) (K 0))]
noncomputable abbrev c109_2 : RC := .cond (rX 7) .skip (.exit 0)
noncomputable abbrev c109_3 : RC := .seq c109_1 c109_2
noncomputable abbrev c109_4 : RC := .ops [oV 8 (rmv (T 1)),
  oV 9 (rmv (T 0)),
  oV 10 (ridxS (T 9) (K 0)),
  oC 11 (.func 117) [(T 8), (T 10)],
  oV 12 (run' .not (T 11))]
noncomputable abbrev c109_5 : RC := .cond (rX 12) (.exit 0) .skip
noncomputable abbrev c109_6 : RC := .seq c109_4 c109_5
noncomputable abbrev c109_7 : RC := .ops [oV 13 (rmv (T 0)),
  oV 14 (rsliceS (T 13) (some (K 1)) none),
  oV 0 (rmv (T 14))]
noncomputable abbrev c109_8 : RC := .seq c109_6 c109_7
noncomputable abbrev c109_9 : RC := .block 1 c109_8
noncomputable abbrev c109_10 : RC := .seq c109_3 c109_9
noncomputable abbrev c109_11 : RC := .loop c109_10
noncomputable abbrev c109_12 : RC := .block 0 c109_11
noncomputable abbrev c109_13 : RC := .ops [oV 15 (rmv (T 0)),
  oV 4 (rmv (T 15))]
noncomputable abbrev c109_14 : RC := .seq c109_13 .ret
noncomputable abbrev c109_15 : RC := .seq c109_12 c109_14
noncomputable abbrev c109_16 : RC := .seq c109_0 c109_15
theorem fn109 : env.fn 109 = some ⟨16, [.tmp 4], body109⟩ := by kernel_rfl
theorem comp109 : comp env body109 = c109_16 := by kernel_rfl
noncomputable def body110 : Code := match Tryd.f110.body with | some c => c | none => .skip
noncomputable abbrev c110_0 : RC := .ops [oV 4 (rmv (.const (.string ⟨#[]⟩)))]
noncomputable abbrev c110_1 : RC := .ops [oV 5 (rmv (T 0)),
  oV 6 (rlenS (T 5)),
  oV 7 (rbin env .gtr 3 false true (T 6) (K 0))]
noncomputable abbrev c110_2 : RC := .cond (rX 7) .skip (.exit 0)
noncomputable abbrev c110_3 : RC := .seq c110_1 c110_2
noncomputable abbrev c110_4 : RC := .ops [oV 8 (rmv (T 1)),
  oV 9 (rmv (T 0)),
  oV 10 (rmv (T 0)),
  oV 11 (rlenS (T 10)),
  oV 12 (rbin env .sub 3 false true (T 11) (K 1)),
  oV 13 (ridxS (T 9) (T 12)),
  oC 14 (.func 117) [(T 8), (T 13)],
  oV 15 (run' .not (T 14))]
noncomputable abbrev c110_5 : RC := .cond (rX 15) (.exit 0) .skip
noncomputable abbrev c110_6 : RC := .seq c110_4 c110_5
noncomputable abbrev c110_7 : RC := .ops [oV 16 (rmv (T 0)),
  oV 17 (rmv (T 0)),
  oV 18 (rlenS (T 17)),
  oV 19 (rbin env .sub 3 false true (T 18) (K 1)),
  oV 20 (rsliceS (T 16) none (some (T 19))),
  oV 0 (rmv (T 20))]
noncomputable abbrev c110_8 : RC := .seq c110_6 c110_7
noncomputable abbrev c110_9 : RC := .block 1 c110_8
noncomputable abbrev c110_10 : RC := .seq c110_3 c110_9
noncomputable abbrev c110_11 : RC := .loop c110_10
noncomputable abbrev c110_12 : RC := .block 0 c110_11
noncomputable abbrev c110_13 : RC := .ops [oV 21 (rmv (T 0)),
  oV 4 (rmv (T 21))]
noncomputable abbrev c110_14 : RC := .seq c110_13 .ret
noncomputable abbrev c110_15 : RC := .seq c110_12 c110_14
noncomputable abbrev c110_16 : RC := .seq c110_0 c110_15
theorem fn110 : env.fn 110 = some ⟨22, [.tmp 4], body110⟩ := by kernel_rfl
theorem comp110 : comp env body110 = c110_16 := by kernel_rfl
noncomputable def body113 : Code := match Tryd.f113.body with | some c => c | none => .skip
noncomputable abbrev c113_0 : RC := .ops [oV 4 (rmv (K 0))]
noncomputable abbrev c113_1 : RC := .ops [oV 5 (rmv (T 0)),
  oV 6 (rmv (T 1)),
  oC 7 (.func 119) [(T 5), (T 6), (.const (.bool true))],
  oV 4 (rmv (T 7))]
noncomputable abbrev c113_2 : RC := .seq c113_1 .ret
noncomputable abbrev c113_3 : RC := .seq c113_0 c113_2
theorem fn113 : env.fn 113 = some ⟨8, [.tmp 4], body113⟩ := by kernel_rfl
theorem comp113 : comp env body113 = c113_3 := by kernel_rfl
noncomputable def body114 : Code := match Tryd.f114.body with | some c => c | none => .skip
noncomputable abbrev c114_0 : RC := .ops [oV 4 (rmv (K 0))]
noncomputable abbrev c114_1 : RC := .ops [oV 161 (rmv (T 1)),
  oV 162 (rbin env .leq 21 true false (.const (.int .i32 0)) (T 161)),
  oV 163 (rmv (T 162)),
  oG 164 163 true (rmv (T 1)),
  oG 165 163 true (rbin env .lss 21 false true (T 164) (.const (.int .i32 128))),
  oV 166 (rpick (T 163) (T 165) (.const (.bool false))),
  oV 160 (rmv (T 166))]
noncomputable abbrev c114_2 : RC := .ops [oV 167 (rmv (T 0)),
  oV 168 (rmv (T 1)),
  oU 169 (rconvI .u8 (T 168)),
  oC 170 (.func 120) [(T 167), (T 169)],
  oV 4 (rmv (T 170))]
noncomputable abbrev c114_3 : RC := .seq c114_2 .ret
noncomputable abbrev c114_4 : RC := .ops [oV 172 (rmv (T 1)),
  oV 173 (rbin env .eql 21 false true (T 172) (.const (.int .i32 65533))),
  oV 171 (rmv (T 173))]
noncomputable abbrev c114_5 : RC := .ops [oV 174 (rmv (T 0)),
  oU 175 (rrange (T 174))]
noncomputable abbrev c114_6 : RC := .ops [oU 176 (rnext (T 175)),
  oV 177 (rext (T 176) 0)]
noncomputable abbrev c114_7 : RC := .cond (rX 177) .skip (.exit 9)
noncomputable abbrev c114_8 : RC := .ops [oV 178 (rext (T 176) 1),
  oV 179 (rext (T 176) 2),
  oV 5 (rmv (T 178)),
  oV 6 (rmv (T 179))]
noncomputable abbrev c114_9 : RC := .ops [oV 180 (rmv (T 6)),
  oV 181 (rbin env .eql 21 false true (T 180) (.const (.int .i32 65533)))]
noncomputable abbrev c114_10 : RC := .ops [oV 182 (rmv (T 5)),
  oV 4 (rmv (T 182))]
noncomputable abbrev c114_11 : RC := .seq c114_10 .ret
noncomputable abbrev c114_12 : RC := .cond (rX 181) c114_11 .skip
noncomputable abbrev c114_13 : RC := .seq c114_9 c114_12
noncomputable abbrev c114_14 : RC := .seq c114_8 c114_13
noncomputable abbrev c114_15 : RC := .block 10 c114_14
noncomputable abbrev c114_16 : RC := .seq c114_7 c114_15
noncomputable abbrev c114_17 : RC := .seq c114_6 c114_16
noncomputable abbrev c114_18 : RC := .loop c114_17
noncomputable abbrev c114_19 : RC := .block 9 c114_18
noncomputable abbrev c114_20 : RC := .seq c114_5 c114_19
noncomputable abbrev c114_21 : RC := .ops [oV 4 (rmv (K (-1)))]
noncomputable abbrev c114_22 : RC := .seq c114_21 .ret
noncomputable abbrev c114_23 : RC := .seq c114_20 c114_22
noncomputable abbrev c114_24 : RC := .ops [oV 184 (rmv (T 1)),
  oC 185 (.func 121) [(T 184)],
  oV 186 (run' .not (T 185)),
  oV 183 (rmv (T 186))]
noncomputable abbrev c114_25 : RC := .ops [oV 4 (rmv (K (-1)))]
noncomputable abbrev c114_26 : RC := .seq c114_25 .ret
noncomputable abbrev c114_133 : RC := .scope (subc [1, 0, 1, 1, 1, 1, 1, 1, 0] body114)
noncomputable abbrev c114_134 : RC := .cond (rX 183) c114_26 c114_133
noncomputable abbrev c114_135 : RC := .seq c114_24 c114_134
noncomputable abbrev c114_136 : RC := .cond (rX 171) c114_23 c114_135
noncomputable abbrev c114_137 : RC := .seq c114_4 c114_136
noncomputable abbrev c114_138 : RC := .cond (rX 160) c114_3 c114_137
noncomputable abbrev c114_139 : RC := .seq c114_1 c114_138
noncomputable abbrev c114_140 : RC := .block 0 c114_139
noncomputable abbrev c114_141 : RC := .seq c114_0 c114_140
theorem fn114 : env.fn 114 = some ⟨187, [.tmp 4], body114⟩ := by kernel_rfl
theorem comp114 : comp env body114 = c114_141 := by kernel_rfl
noncomputable def body116 : Code := match Tryd.f116.body with | some c => c | none => .skip
noncomputable abbrev c116_0 : RC := .ops [oV 4 (rmv (K 0))]
noncomputable abbrev c116_1 : RC := .ops [oV 14 (rmv (T 1)),
  oV 15 (rlenS (T 14)),
  oV 5 (rmv (T 15))]
noncomputable abbrev c116_2 : RC := .ops [oV 17 (rmv (T 5)),
  oV 18 (rbin env .eql 3 false true (T 17) (K 0)),
  oV 19 (rmv (T 18)),
  oG 20 19 false (rmv (T 1)),
  oG 21 19 false (rmv (T 0)),
  oG 22 19 false (rbin env .eql 9 false false (T 20) (T 21)),
  oV 23 (rpick (T 19) (.const (.bool true)) (T 22)),
  oV 16 (rmv (T 23))]
noncomputable abbrev c116_3 : RC := .ops [oV 4 (rmv (K 0))]
noncomputable abbrev c116_4 : RC := .seq c116_3 .ret
noncomputable abbrev c116_5 : RC := .ops [oV 25 (rmv (T 5)),
  oV 26 (rbin env .eql 3 false true (T 25) (K 1)),
  oV 24 (rmv (T 26))]
noncomputable abbrev c116_6 : RC := .ops [oV 27 (rmv (T 0)),
  oV 28 (rmv (T 1)),
  oV 29 (ridxS (T 28) (K 0)),
  oC 30 (.func 124) [(T 27), (T 29)],
  oV 4 (rmv (T 30))]
noncomputable abbrev c116_7 : RC := .seq c116_6 .ret
noncomputable abbrev c116_8 : RC := .ops [oV 32 (rmv (T 5)),
  oV 33 (rmv (T 0)),
  oV 34 (rlenS (T 33)),
  oV 35 (rbin env .geq 3 false false (T 32) (T 34)),
  oV 31 (rmv (T 35))]
noncomputable abbrev c116_9 : RC := .ops [oV 4 (rmv (K (-1)))]
noncomputable abbrev c116_10 : RC := .seq c116_9 .ret
noncomputable abbrev c116_11 : RC := .ops [oV 37 (rmv (T 5)),
  oV 38 (rload false 1 (.global 2)),
  oV 39 (rbin env .leq 3 false false (T 37) (T 38)),
  oV 40 (rmv (T 39)),
  oG 41 40 true (rmv (T 0)),
  oG 42 40 true (rlenS (T 41)),
  oG 43 40 true (rbin env .leq 3 false true (T 42) (K 64)),
  oV 44 (rpick (T 40) (T 43) (.const (.bool false))),
  oV 36 (rmv (T 44))]
noncomputable abbrev c116_12 : RC := .ops [oV 45 (rmv (T 0)),
  oV 46 (rmv (T 1)),
  oC 47 (.func 123) [(T 45), (T 46)],
  oV 4 (rmv (T 47))]
noncomputable abbrev c116_13 : RC := .seq c116_12 .ret
noncomputable abbrev c116_14 : RC := .cond (rX 36) c116_13 .skip
noncomputable abbrev c116_15 : RC := .seq c116_11 c116_14
noncomputable abbrev c116_16 : RC := .cond (rX 31) c116_10 c116_15
noncomputable abbrev c116_17 : RC := .seq c116_8 c116_16
noncomputable abbrev c116_18 : RC := .cond (rX 24) c116_7 c116_17
noncomputable abbrev c116_19 : RC := .seq c116_5 c116_18
noncomputable abbrev c116_20 : RC := .cond (rX 16) c116_4 c116_19
noncomputable abbrev c116_21 : RC := .seq c116_2 c116_20
noncomputable abbrev c116_22 : RC := .block 0 c116_21
noncomputable abbrev c116_23 : RC := .ops [oV 48 (rmv (T 1)),
  oV 49 (ridxS (T 48) (K 0)),
  oV 6 (rmv (T 49))]
noncomputable abbrev c116_24 : RC := .ops [oV 50 (rmv (T 1)),
  oV 51 (ridxS (T 50) (K 1)),
  oV 7 (rmv (T 51))]
noncomputable abbrev c116_25 : RC := .ops [oV 8 (rmv (K 0))]
noncomputable abbrev c116_26 : RC := .ops [oV 52 (rmv (T 0)),
  oV 53 (rlenS (T 52)),
  oV 54 (rmv (T 5)),
  oV 55 (rbin env .sub 3 false false (T 53) (T 54)),
  oV 56 (rbin env .add 3 false true (T 55) (K 1)),
  oV 9 (rmv (T 56))]
noncomputable abbrev c116_27 : RC := .ops [oV 10 (rmv (K 0))]
noncomputable abbrev c116_28 : RC := .ops [oV 57 (rmv (T 8)),
  oV 58 (rmv (T 9)),
  oV 59 (rbin env .lss 3 false false (T 57) (T 58))]
noncomputable abbrev c116_29 : RC := .cond (rX 59) .skip (.exit 1)
noncomputable abbrev c116_30 : RC := .seq c116_28 c116_29
noncomputable abbrev c116_31 : RC := .ops [oV 60 (rmv (T 0)),
  oV 61 (rmv (T 8)),
  oV 62 (ridxS (T 60) (T 61)),
  oV 63 (rmv (T 6)),
  oV 64 (rbin env .neq 5 false false (T 62) (T 63))]
noncomputable abbrev c116_32 : RC := .ops [oV 65 (rmv (T 0)),
  oV 66 (rmv (T 8)),
  oV 67 (rbin env .add 3 false true (T 66) (K 1)),
  oV 68 (rmv (T 9)),
  oV 69 (rsliceS (T 65) (some (T 67)) (some (T 68))),
  oV 70 (rmv (T 6)),
  oC 71 (.func 124) [(T 69), (T 70)],
  oV 11 (rmv (T 71))]
noncomputable abbrev c116_33 : RC := .ops [oV 72 (rmv (T 11)),
  oV 73 (rbin env .lss 3 false true (T 72) (K 0))]
noncomputable abbrev c116_34 : RC := .ops [oV 4 (rmv (K (-1)))]
noncomputable abbrev c116_35 : RC := .seq c116_34 .ret
noncomputable abbrev c116_36 : RC := .cond (rX 73) c116_35 .skip
noncomputable abbrev c116_37 : RC := .seq c116_33 c116_36
noncomputable abbrev c116_38 : RC := .ops [oV 74 (rmv (T 8)),
  oV 75 (rmv (T 11)),
  oV 76 (rbin env .add 3 false true (T 75) (K 1)),
  oV 77 (rbin env .add 3 false false (T 74) (T 76)),
  oV 8 (rmv (T 77))]
noncomputable abbrev c116_39 : RC := .seq c116_37 c116_38
noncomputable abbrev c116_40 : RC := .seq c116_32 c116_39
noncomputable abbrev c116_41 : RC := .cond (rX 64) c116_40 .skip
noncomputable abbrev c116_42 : RC := .seq c116_31 c116_41
noncomputable abbrev c116_43 : RC := .ops [oV 78 (rmv (T 0)),
  oV 79 (rmv (T 8)),
  oV 80 (rbin env .add 3 false true (T 79) (K 1)),
  oV 81 (ridxS (T 78) (T 80)),
  oV 82 (rmv (T 7)),
  oV 83 (rbin env .eql 5 false false (T 81) (T 82)),
  oV 84 (rmv (T 83)),
  oG 85 84 true (rmv (T 0)),
  oG 86 84 true (rmv (T 8)),
  oG 87 84 true (rmv (T 8)),
  oG 88 84 true (rmv (T 5)),
  oG 89 84 true (rbin env .add 3 false false (T 87) (T 88)),
  oG 90 84 true (rsliceS (T 85) (some (T 86)) (some (T 89))),
  oG 91 84 true (rmv (T 1)),
  oG 92 84 true (rbin env .eql 9 false false (T 90) (T 91)),
  oV 93 (rpick (T 84) (T 92) (.const (.bool false)))]
noncomputable abbrev c116_44 : RC := .ops [oV 94 (rmv (T 8)),
  oV 4 (rmv (T 94))]
noncomputable abbrev c116_45 : RC := .seq c116_44 .ret
noncomputable abbrev c116_46 : RC := .cond (rX 93) c116_45 .skip
noncomputable abbrev c116_47 : RC := .seq c116_43 c116_46
noncomputable abbrev c116_48 : RC := .ops [oV 95 (rmv (T 8)),
  oV 96 (rbin env .add 3 false true (T 95) (K 1)),
  oV 8 (rmv (T 96))]
noncomputable abbrev c116_49 : RC := .ops [oV 97 (rmv (T 10)),
  oV 98 (rbin env .add 3 false true (T 97) (K 1)),
  oV 10 (rmv (T 98))]
noncomputable abbrev c116_50 : RC := .ops [oV 99 (rmv (T 5)),
  oV 100 (rload false 1 (.global 2)),
  oV 101 (rbin env .leq 3 false false (T 99) (T 100)),
  oV 102 (rmv (T 101)),
  oG 103 102 true (rmv (T 10)),
  oG 104 102 true (rmv (T 8)),
  oCG 105 102 true (.func 122) [(T 104)],
  oG 106 102 true (rbin env .gtr 3 false false (T 103) (T 105)),
  oV 107 (rpick (T 102) (T 106) (.const (.bool false)))]
noncomputable abbrev c116_51 : RC := .ops [oV 108 (rmv (T 0)),
  oV 109 (rmv (T 8)),
  oV 110 (rsliceS (T 108) (some (T 109)) none),
  oV 111 (rmv (T 1)),
  oC 112 (.func 123) [(T 110), (T 111)],
  oV 12 (rmv (T 112))]
noncomputable abbrev c116_52 : RC := .ops [oV 113 (rmv (T 12)),
  oV 114 (rbin env .geq 3 false true (T 113) (K 0))]
noncomputable abbrev c116_53 : RC := .ops [oV 115 (rmv (T 12)),
  oV 116 (rmv (T 8)),
  oV 117 (rbin env .add 3 false false (T 115) (T 116)),
  oV 4 (rmv (T 117))]
noncomputable abbrev c116_54 : RC := .seq c116_53 .ret
noncomputable abbrev c116_55 : RC := .cond (rX 114) c116_54 .skip
noncomputable abbrev c116_56 : RC := .seq c116_52 c116_55
noncomputable abbrev c116_57 : RC := .ops [oV 4 (rmv (K (-1)))]
noncomputable abbrev c116_58 : RC := .seq c116_57 .ret
noncomputable abbrev c116_59 : RC := .seq c116_56 c116_58
noncomputable abbrev c116_60 : RC := .seq c116_51 c116_59
noncomputable abbrev c116_61 : RC := .ops [oV 118 (rmv (T 5)),
  oV 119 (rload false 1 (.global 2)),
  oV 120 (rbin env .gtr 3 false false (T 118) (T 119)),
  oV 121 (rmv (T 120)),
  oG 122 121 true (rmv (T 10)),
  oG 123 121 true (rmv (T 8)),
  oG 124 121 true (rbin env .shr 3 false true (T 123) (.const (.int .u64 4))),
  oG 125 121 true (rbin env .add 3 true false (K 4) (T 124)),
  oG 126 121 true (rbin env .geq 3 false false (T 122) (T 125)),
  oV 127 (rpick (T 121) (T 126) (.const (.bool false))),
  oV 128 (rmv (T 127)),
  oG 129 128 true (rmv (T 8)),
  oG 130 128 true (rmv (T 9)),
  oG 131 128 true (rbin env .lss 3 false false (T 129) (T 130)),
  oV 132 (rpick (T 128) (T 131) (.const (.bool false)))]
noncomputable abbrev c116_62 : RC := .ops [oV 133 (rmv (T 0)),
  oV 134 (rmv (T 8)),
  oV 135 (rsliceS (T 133) (some (T 134)) none),
  oV 136 (rmv (T 1)),
  oC 137 (.func 125) [(T 135), (T 136)],
  oV 13 (rmv (T 137))]
noncomputable abbrev c116_63 : RC := .ops [oV 138 (rmv (T 13)),
  oV 139 (rbin env .lss 3 false true (T 138) (K 0))]
noncomputable abbrev c116_64 : RC := .ops [oV 4 (rmv (K (-1)))]
noncomputable abbrev c116_65 : RC := .seq c116_64 .ret
noncomputable abbrev c116_66 : RC := .cond (rX 139) c116_65 .skip
noncomputable abbrev c116_67 : RC := .seq c116_63 c116_66
noncomputable abbrev c116_68 : RC := .ops [oV 140 (rmv (T 8)),
  oV 141 (rmv (T 13)),
  oV 142 (rbin env .add 3 false false (T 140) (T 141)),
  oV 4 (rmv (T 142))]
noncomputable abbrev c116_69 : RC := .seq c116_68 .ret
noncomputable abbrev c116_70 : RC := .seq c116_67 c116_69
noncomputable abbrev c116_71 : RC := .seq c116_62 c116_70
noncomputable abbrev c116_72 : RC := .cond (rX 132) c116_71 .skip
noncomputable abbrev c116_73 : RC := .seq c116_61 c116_72
noncomputable abbrev c116_74 : RC := .cond (rX 107) c116_60 c116_73
noncomputable abbrev c116_75 : RC := .seq c116_50 c116_74
noncomputable abbrev c116_76 : RC := .seq c116_49 c116_75
noncomputable abbrev c116_77 : RC := .seq c116_48 c116_76
noncomputable abbrev c116_78 : RC := .seq c116_47 c116_77
noncomputable abbrev c116_79 : RC := .seq c116_42 c116_78
noncomputable abbrev c116_80 : RC := .block 2 c116_79
noncomputable abbrev c116_81 : RC := .seq c116_30 c116_80
noncomputable abbrev c116_82 : RC := .loop c116_81
noncomputable abbrev c116_83 : RC := .block 1 c116_82
noncomputable abbrev c116_84 : RC := .ops [oV 4 (rmv (K (-1)))]
noncomputable abbrev c116_85 : RC := .seq c116_84 .ret
noncomputable abbrev c116_86 : RC := .seq c116_83 c116_85
noncomputable abbrev c116_87 : RC := .seq c116_27 c116_86
noncomputable abbrev c116_88 : RC := .seq c116_26 c116_87
noncomputable abbrev c116_89 : RC := .seq c116_25 c116_88
noncomputable abbrev c116_90 : RC := .seq c116_24 c116_89
noncomputable abbrev c116_91 : RC := .seq c116_23 c116_90
noncomputable abbrev c116_92 : RC := .seq c116_22 c116_91
noncomputable abbrev c116_93 : RC := .seq c116_1 c116_92
noncomputable abbrev c116_94 : RC := .seq c116_0 c116_93
theorem fn116 : env.fn 116 = some ⟨143, [.tmp 4], body116⟩ := by kernel_rfl
theorem comp116 : comp env body116 = c116_94 := by kernel_rfl
noncomputable def body117 : Code := match Tryd.f117.body with | some c => c | none => .skip
noncomputable abbrev c117_0 : RC := .ops [oV 4 (rmv (.const (.bool false)))]
noncomputable abbrev c117_1 : RC := .ops [oV 5 (rmv (T 0)),
  oV 6 (rmv (T 1)),
  oV 7 (rnil (T 5)),
  oV 8 (riaddrA 256 1 (T 7) (T 6)),
  oV 9 (rload false 1 (T 8)),
  oV 4 (rmv (T 9))]
noncomputable abbrev c117_2 : RC := .seq c117_1 .ret
noncomputable abbrev c117_3 : RC := .seq c117_0 c117_2
theorem fn117 : env.fn 117 = some ⟨10, [.tmp 4], body117⟩ := by kernel_rfl
theorem comp117 : comp env body117 = c117_3 := by kernel_rfl
noncomputable def body119 : Code := match Tryd.f119.body with | some c => c | none => .skip
noncomputable abbrev c119_0 : RC := .ops [oV 6 (rmv (K 0))]
noncomputable abbrev c119_1 : RC := .ops [oV 9 (rmv (T 0)),
  oU 10 (rrange (T 9))]
noncomputable abbrev c119_2 : RC := .ops [oU 11 (rnext (T 10)),
  oV 12 (rext (T 11) 0)]
noncomputable abbrev c119_3 : RC := .cond (rX 12) .skip (.exit 0)
noncomputable abbrev c119_4 : RC := .ops [oV 13 (rext (T 11) 1),
  oV 14 (rext (T 11) 2),
  oV 7 (rmv (T 13)),
  oV 8 (rmv (T 14))]
noncomputable abbrev c119_5 : RC := .ops [oV 15 (rmv (T 1)),
  oV 16 (rmv (T 8)),
  oC 17 (T 15) [(T 16)],
  oV 18 (rmv (T 2)),
  oV 19 (rbin env .eql 4 false false (T 17) (T 18))]
noncomputable abbrev c119_6 : RC := .ops [oV 20 (rmv (T 7)),
  oV 6 (rmv (T 20))]
noncomputable abbrev c119_7 : RC := .seq c119_6 .ret
noncomputable abbrev c119_8 : RC := .cond (rX 19) c119_7 .skip
noncomputable abbrev c119_9 : RC := .seq c119_5 c119_8
noncomputable abbrev c119_10 : RC := .seq c119_4 c119_9
noncomputable abbrev c119_11 : RC := .block 1 c119_10
noncomputable abbrev c119_12 : RC := .seq c119_3 c119_11
noncomputable abbrev c119_13 : RC := .seq c119_2 c119_12
noncomputable abbrev c119_14 : RC := .loop c119_13
noncomputable abbrev c119_15 : RC := .block 0 c119_14
noncomputable abbrev c119_16 : RC := .seq c119_1 c119_15
noncomputable abbrev c119_17 : RC := .ops [oV 6 (rmv (K (-1)))]
noncomputable abbrev c119_18 : RC := .seq c119_17 .ret
noncomputable abbrev c119_19 : RC := .seq c119_16 c119_18
noncomputable abbrev c119_20 : RC := .seq c119_0 c119_19
theorem fn119 : env.fn 119 = some ⟨21, [.tmp 6], body119⟩ := by kernel_rfl
theorem comp119 : comp env body119 = c119_20 := by kernel_rfl
noncomputable def body120 : Code := match Tryd.f120.body with | some c => c | none => .skip
noncomputable abbrev c120_0 : RC := .ops [oV 4 (rmv (K 0))]
noncomputable abbrev c120_1 : RC := .ops [oV 5 (rmv (T 0)),
  oV 6 (rmv (T 1)),
  oC 7 (.func 124) [(T 5), (T 6)],
  oV 4 (rmv (T 7))]
noncomputable abbrev c120_2 : RC := .seq c120_1 .ret
noncomputable abbrev c120_3 : RC := .seq c120_0 c120_2
theorem fn120 : env.fn 120 = some ⟨8, [.tmp 4], body120⟩ := by kernel_rfl
theorem comp120 : comp env body120 = c120_3 := by kernel_rfl
noncomputable def body124 : Code := match Tryd.f124.body with | some c => c | none => .skip
noncomputable abbrev c124_0 : RC := .ops [oV 4 (rmv (K 0))]
noncomputable abbrev c124_1 : RC := .ops [oV 5 (rmv (T 0)),
  oV 6 (rmv (T 1)),
  oC 7 (.func 127) [(T 5), (T 6)],
  oV 4 (rmv (T 7))]
noncomputable abbrev c124_2 : RC := .seq c124_1 .ret
noncomputable abbrev c124_3 : RC := .seq c124_0 c124_2
theorem fn124 : env.fn 124 = some ⟨8, [.tmp 4], body124⟩ := by kernel_rfl
theorem comp124 : comp env body124 = c124_3 := by kernel_rfl
end Go.Proofs.YtmgmbdnhodicjaaDoor
end
