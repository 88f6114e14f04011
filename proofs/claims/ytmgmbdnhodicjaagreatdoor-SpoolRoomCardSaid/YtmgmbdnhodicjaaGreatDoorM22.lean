/- SpoolRoom: what waits never takes more than the quotas. Part 22 of 46; no condition. -/
import Derived.Test.YtmgmbdnhodicjaaGreatDoorM21
import Derived.ChangeArms
set_option linter.unusedVariables false
set_option linter.unusedSimpArgs false
section
set_option maxRecDepth 100000
namespace Go.Proofs.YtmgmbdnhodicjaaGreatDoor
open Go Go.Am Go.Pm
noncomputable def body4 : Code := match Tryz.f4.body with | some c => c | none => .skip
noncomputable abbrev c4_0 : RC := .ops [oV 6 (rmv (.const (.bool false)))]
noncomputable abbrev c4_1 : RC := .ops [oC 16 (.func 22) [],
  oV 7 (rmv (T 16))]
noncomputable abbrev c4_2 : RC := .ops [oV 17 (rmv (T 0)),
  oC 18 (.func 23) [(T 17), (K 3001)],
  oV 19 (rmv (T 1)),
  oC 20 (.func 23) [(T 19), (K 13)],
  oV 0 (rmv (T 18)),
  oV 1 (rmv (T 20))]
noncomputable abbrev c4_3 : RC := .ops [oV 22 (rmv (T 0)),
  oV 23 (rmv (T 1)),
  oC 24 (.func 12) [(T 22), (T 23)],
  oV 21 (rmv (T 24)),
  oV 25 (rext (T 21) 0),
  oV 26 (rext (T 21) 1),
  oV 8 (rmv (T 25)),
  oV 9 (rmv (T 26))]
noncomputable abbrev c4_4 : RC := .ops [oV 27 (rmv (T 9)),
  oV 28 (rbin env .neq 26 false true (T 27) (K 0)),
  oV 29 (rmv (T 28)),
  oG 30 29 false (rmv (T 8)),
  oG 31 29 false (rbin env .eql 25 false true (T 30) (.const (.pointer none))),
  oV 32 (rpick (T 29) (.const (.bool true)) (T 31))]
noncomputable abbrev c4_5 : RC := .ops [oV 6 (rmv (.const (.bool false)))]
noncomputable abbrev c4_6 : RC := .seq c4_5 .ret
noncomputable abbrev c4_7 : RC := .cond (rX 32) c4_6 .skip
noncomputable abbrev c4_8 : RC := .seq c4_4 c4_7
noncomputable abbrev c4_9 : RC := .ops [oV 33 (rmv (T 2)),
  oC 34 (.func 10) [(T 33)]]
noncomputable abbrev c4_10 : RC := .ops [oV 35 (rmv (T 7)),
  oV 6 (rmv (T 35))]
noncomputable abbrev c4_11 : RC := .seq c4_10 .ret
noncomputable abbrev c4_12 : RC := .cond (rX 34) c4_11 .skip
noncomputable abbrev c4_13 : RC := .seq c4_9 c4_12
noncomputable abbrev c4_14 : RC := .ops [oV 10 (rmv (.const (.slice none 0 0)))]
noncomputable abbrev c4_15 : RC := .ops [oV 11 (rmv (K 0))]
noncomputable abbrev c4_16 : RC := .ops [oV 36 (rmv (T 11)),
  oV 37 (rmv (T 2)),
  oV 38 (rlen (T 37)),
  oV 39 (rbin env .lss 3 false false (T 36) (T 38))]
noncomputable abbrev c4_17 : RC := .cond (rX 39) .skip (.exit 0)
noncomputable abbrev c4_18 : RC := .seq c4_16 c4_17
noncomputable abbrev c4_19 : RC := .ops [oV 42 (rmv (T 2)),
  oV 43 (rmv (T 11)),
  oV 44 (riaddr 8 (T 42) (T 43)),
  oV 45 (rfaddr 1 (T 44)),
  oV 46 (rload true 7 (T 45)),
  oU 12 (rnew [.v (.int .i64 0), .v (.int .i64 0), .v (.string ⟨#[]⟩), .v (.int .i64 0), .v (.int .i64 0), .lst .full 0 0 [], .lst .full 0 0 []]),
  oS (rstore 7 (T 12) (T 46))]
noncomputable abbrev c4_20 : RC := .ops [oV 47 (rmv (T 2)),
  oV 48 (rmv (T 11)),
  oV 49 (riaddr 8 (T 47) (T 48)),
  oV 50 (rfaddr 0 (T 49)),
  oV 51 (rload false 1 (T 50))]
noncomputable abbrev c4_21 : RC := .ops [oV 52 (rmv (T 8)),
  oV 53 (rfaddr 0 (T 12)),
  oV 54 (rload true 2 (T 53)),
  oC 55 (.func 14) [(T 52), (T 54)],
  oV 56 (rbin env .eql 26 false true (T 55) (K 0))]
noncomputable abbrev c4_22 : RC := .ops [oV 57 (rmv (T 10)),
  oV 58 (rfaddr 0 (T 12)),
  oV 59 (rload true 2 (T 58)),
  oC 60 (.func 24) [(T 57), (T 59)],
  oV 10 (rmv (T 60))]
noncomputable abbrev c4_23 : RC := .cond (rX 56) c4_22 .skip
noncomputable abbrev c4_24 : RC := .seq c4_21 c4_23
noncomputable abbrev c4_25 : RC := .ops [oV 61 (rmv (T 8)),
  oV 62 (rload true 7 (T 12)),
  oC 63 (.func 17) [(T 61), (T 62)],
  oV 13 (rmv (T 63))]
noncomputable abbrev c4_26 : RC := .ops [oV 64 (rmv (T 13)),
  oV 65 (rbin env .eql 26 false true (T 64) (K 0))]
noncomputable abbrev c4_27 : RC := .ops [oV 66 (rmv (T 10)),
  oV 67 (rload true 7 (T 12)),
  oU 68 (rbuildL 7 1 [.v (.int .i64 0), .v (.int .i64 0), .v (.string ⟨#[]⟩), .v (.int .i64 0), .v (.int .i64 0), .lst .full 0 0 [], .lst .full 0 0 []] [(0, (T 67))]),
  oA 69 7 96 7 (T 66) (T 68),
  oV 10 (rmv (T 69))]
noncomputable abbrev c4_28 : RC := .cond (rX 65) c4_27 .skip
noncomputable abbrev c4_29 : RC := .seq c4_26 c4_28
noncomputable abbrev c4_30 : RC := .ops [oV 70 (rmv (T 13)),
  oV 71 (rbin env .eql 26 false true (T 70) (K 8)),
  oV 72 (rmv (T 71)),
  oG 73 72 true (rload true 7 (T 12)),
  oCG 74 72 true (.func 25) [(T 73)],
  oG 75 72 true (rmv (T 0)),
  oG 76 72 true (rbin env .gtr 3 false false (T 74) (T 75)),
  oG 77 72 true (rmv (T 76)),
  oG 78 77 false (rmv (T 10)),
  oG 79 77 false (rlen (T 78)),
  oG 80 77 false (rbin env .eql 3 false true (T 79) (K 0)),
  oG 81 72 true (rpick (T 77) (.const (.bool true)) (T 80)),
  oV 82 (rpick (T 72) (T 81) (.const (.bool false))),
  oV 83 (rmv (T 82)),
  oG 84 83 false (rmv (T 13)),
  oG 85 83 false (rbin env .eql 26 false true (T 84) (K 3)),
  oG 86 83 false (rmv (T 85)),
  oG 87 86 true (rload true 7 (T 12)),
  oCG 88 86 true (.func 25) [(T 87)],
  oG 89 86 true (rmv (T 0)),
  oG 90 86 true (rbin env .leq 3 false false (T 88) (T 89)),
  oG 91 83 false (rpick (T 86) (T 90) (.const (.bool false))),
  oG 92 83 false (rmv (T 91)),
  oG 93 92 true (rmv (T 1)),
  oG 94 92 true (rbin env .gtr 3 false true (T 93) (K 0)),
  oG 95 83 false (rpick (T 92) (T 94) (.const (.bool false))),
  oV 96 (rpick (T 83) (.const (.bool true)) (T 95))]
noncomputable abbrev c4_31 : RC := .ops [oV 6 (rmv (.const (.bool false)))]
noncomputable abbrev c4_32 : RC := .seq c4_31 .ret
noncomputable abbrev c4_33 : RC := .cond (rX 96) c4_32 .skip
noncomputable abbrev c4_34 : RC := .seq c4_30 c4_33
noncomputable abbrev c4_35 : RC := .seq c4_29 c4_34
noncomputable abbrev c4_36 : RC := .seq c4_25 c4_35
noncomputable abbrev c4_37 : RC := .cond (rX 51) c4_24 c4_36
noncomputable abbrev c4_38 : RC := .seq c4_20 c4_37
noncomputable abbrev c4_39 : RC := .ops [oV 14 (rmv (K 0))]
noncomputable abbrev c4_40 : RC := .ops [oV 15 (rmv (K 0))]
noncomputable abbrev c4_41 : RC := .ops [oV 97 (rmv (T 15)),
  oV 98 (rmv (T 10)),
  oV 99 (rlen (T 98)),
  oV 100 (rbin env .lss 3 false false (T 97) (T 99))]
noncomputable abbrev c4_42 : RC := .cond (rX 100) .skip (.exit 2)
noncomputable abbrev c4_43 : RC := .seq c4_41 c4_42
noncomputable abbrev c4_44 : RC := .ops [oV 103 (rmv (T 14)),
  oV 104 (rmv (T 10)),
  oV 105 (rmv (T 15)),
  oV 106 (riaddr 7 (T 104) (T 105)),
  oV 107 (rload true 7 (T 106)),
  oC 108 (.func 25) [(T 107)],
  oV 109 (rbin env .add 3 false false (T 103) (T 108)),
  oV 14 (rmv (T 109))]
noncomputable abbrev c4_45 : RC := .block 3 c4_44
noncomputable abbrev c4_46 : RC := .ops [oV 101 (rmv (T 15)),
  oV 102 (rbin env .add 3 false true (T 101) (K 1)),
  oV 15 (rmv (T 102))]
noncomputable abbrev c4_47 : RC := .seq c4_45 c4_46
noncomputable abbrev c4_48 : RC := .seq c4_43 c4_47
noncomputable abbrev c4_49 : RC := .loop c4_48
noncomputable abbrev c4_50 : RC := .block 2 c4_49
noncomputable abbrev c4_51 : RC := .seq c4_40 c4_50
noncomputable abbrev c4_52 : RC := .ops [oV 110 (rmv (T 8)),
  oV 111 (rmv (T 14)),
  oV 112 (rmv (T 10)),
  oV 113 (rlen (T 112)),
  oC 114 (.func 26) [(T 110), (T 111), (T 113)],
  oV 115 (run' .not (T 114)),
  oV 116 (rmv (T 115)),
  oG 117 116 false (rmv (T 14)),
  oG 118 116 false (rmv (T 0)),
  oG 119 116 false (rbin env .gtr 3 false false (T 117) (T 118)),
  oV 120 (rpick (T 116) (.const (.bool true)) (T 119)),
  oV 121 (rmv (T 120)),
  oG 122 121 false (rmv (T 10)),
  oG 123 121 false (rlen (T 122)),
  oG 124 121 false (rmv (T 1)),
  oG 125 121 false (rbin env .gtr 3 false false (T 123) (T 124)),
  oV 126 (rpick (T 121) (.const (.bool true)) (T 125)),
  oV 127 (rmv (T 126)),
  oG 128 127 false (rmv (T 8)),
  oCG 129 127 false (.func 27) [(T 128)],
  oG 130 127 false (rmv (T 14)),
  oG 131 127 false (rbin env .lss 3 false false (T 129) (T 130)),
  oV 132 (rpick (T 127) (.const (.bool true)) (T 131)),
  oV 133 (rmv (T 132)),
  oG 134 133 false (rmv (T 8)),
  oCG 135 133 false (.func 27) [(T 134)],
  oG 136 133 false (rmv (T 0)),
  oG 137 133 false (rbin env .gtr 3 false false (T 135) (T 136)),
  oV 138 (rpick (T 133) (.const (.bool true)) (T 137)),
  oV 139 (rmv (T 138)),
  oG 140 139 false (rmv (T 8)),
  oCG 141 139 false (.func 29) [(T 140)],
  oG 142 139 false (rmv (T 10)),
  oCG 143 139 false (.func 28) [(T 141), (T 142)],
  oG 144 139 false (run' .not (T 143)),
  oV 145 (rpick (T 139) (.const (.bool true)) (T 144))]
noncomputable abbrev c4_53 : RC := .ops [oV 6 (rmv (.const (.bool false)))]
noncomputable abbrev c4_54 : RC := .seq c4_53 .ret
noncomputable abbrev c4_55 : RC := .cond (rX 145) c4_54 .skip
noncomputable abbrev c4_56 : RC := .seq c4_52 c4_55
noncomputable abbrev c4_57 : RC := .seq c4_51 c4_56
noncomputable abbrev c4_58 : RC := .seq c4_39 c4_57
noncomputable abbrev c4_59 : RC := .seq c4_38 c4_58
noncomputable abbrev c4_60 : RC := .seq c4_19 c4_59
noncomputable abbrev c4_61 : RC := .block 1 c4_60
noncomputable abbrev c4_62 : RC := .ops [oV 40 (rmv (T 11)),
  oV 41 (rbin env .add 3 false true (T 40) (K 1)),
  oV 11 (rmv (T 41))]
noncomputable abbrev c4_63 : RC := .seq c4_61 c4_62
noncomputable abbrev c4_64 : RC := .seq c4_18 c4_63
noncomputable abbrev c4_65 : RC := .loop c4_64
noncomputable abbrev c4_66 : RC := .block 0 c4_65
noncomputable abbrev c4_67 : RC := .seq c4_15 c4_66
noncomputable abbrev c4_68 : RC := .ops [oV 146 (rmv (T 7)),
  oV 6 (rmv (T 146))]
noncomputable abbrev c4_69 : RC := .seq c4_68 .ret
noncomputable abbrev c4_70 : RC := .seq c4_67 c4_69
noncomputable abbrev c4_71 : RC := .seq c4_14 c4_70
noncomputable abbrev c4_72 : RC := .seq c4_13 c4_71
noncomputable abbrev c4_73 : RC := .seq c4_8 c4_72
noncomputable abbrev c4_74 : RC := .seq c4_3 c4_73
noncomputable abbrev c4_75 : RC := .seq c4_2 c4_74
noncomputable abbrev c4_76 : RC := .seq c4_1 c4_75
noncomputable abbrev c4_77 : RC := .seq c4_0 c4_76
theorem fn4 : env.fn 4 = some ⟨147, [.tmp 6], body4⟩ := by kernel_rfl
theorem comp4 : comp env body4 = c4_77 := by kernel_rfl
noncomputable def body10 : Code := match Tryz.f10.body with | some c => c | none => .skip
noncomputable abbrev c10_0 : RC := .ops [oV 2 (rmv (.const (.bool false)))]
noncomputable abbrev c10_1 : RC := .ops [oV 3 (rmv (K 0))]
noncomputable abbrev c10_2 : RC := .ops [oV 4 (rmv (T 3)),
  oV 5 (rmv (T 0)),
  oV 6 (rlen (T 5)),
  oV 7 (rbin env .lss 3 false false (T 4) (T 6))]
noncomputable abbrev c10_3 : RC := .cond (rX 7) .skip (.exit 0)
noncomputable abbrev c10_4 : RC := .seq c10_2 c10_3
noncomputable abbrev c10_5 : RC := .ops [oV 10 (rmv (T 0)),
  oV 11 (rmv (T 3)),
  oV 12 (riaddr 8 (T 10) (T 11)),
  oV 13 (rfaddr 1 (T 12)),
  oV 14 (rload true 7 (T 13)),
  oU 15 (rbuildL 7 1 [.v (.int .i64 0), .v (.int .i64 0), .v (.string ⟨#[]⟩), .v (.int .i64 0), .v (.int .i64 0), .lst .full 0 0 [], .lst .full 0 0 []] [(0, (T 14))]),
  oC 16 (.func 30) [(T 15), (K 1)]]
noncomputable abbrev c10_6 : RC := .ops [oV 2 (rmv (.const (.bool true)))]
noncomputable abbrev c10_7 : RC := .seq c10_6 .ret
noncomputable abbrev c10_8 : RC := .cond (rX 16) c10_7 .skip
noncomputable abbrev c10_9 : RC := .seq c10_5 c10_8
noncomputable abbrev c10_10 : RC := .block 1 c10_9
noncomputable abbrev c10_11 : RC := .ops [oV 8 (rmv (T 3)),
  oV 9 (rbin env .add 3 false true (T 8) (K 1)),
  oV 3 (rmv (T 9))]
noncomputable abbrev c10_12 : RC := .seq c10_10 c10_11
noncomputable abbrev c10_13 : RC := .seq c10_4 c10_12
noncomputable abbrev c10_14 : RC := .loop c10_13
noncomputable abbrev c10_15 : RC := .block 0 c10_14
noncomputable abbrev c10_16 : RC := .seq c10_1 c10_15
noncomputable abbrev c10_17 : RC := .ops [oV 17 (rmv (T 0)),
  oV 18 (rlen (T 17)),
  oV 19 (rbin env .gtr 3 false true (T 18) (K 40)),
  oV 2 (rmv (T 19))]
noncomputable abbrev c10_18 : RC := .seq c10_17 .ret
noncomputable abbrev c10_19 : RC := .seq c10_16 c10_18
noncomputable abbrev c10_20 : RC := .seq c10_0 c10_19
theorem fn10 : env.fn 10 = some ⟨20, [.tmp 2], body10⟩ := by kernel_rfl
theorem comp10 : comp env body10 = c10_20 := by kernel_rfl
noncomputable def body12 : Code := match Tryz.f12.body with | some c => c | none => .skip
noncomputable abbrev c12_0 : RC := .ops [oV 4 (rmv (.const (.pointer none))),
  oV 5 (rmv (K 0))]
noncomputable abbrev c12_1 : RC := .ops [oV 6 (rmv (T 0)),
  oV 7 (rbin env .lss 3 false true (T 6) (K 0)),
  oV 8 (rmv (T 7)),
  oG 9 8 false (rmv (T 0)),
  oG 10 8 false (rbin env .gtr 3 false true (T 9) (K 10000000)),
  oV 11 (rpick (T 8) (.const (.bool true)) (T 10)),
  oV 12 (rmv (T 11)),
  oG 13 12 false (rmv (T 1)),
  oG 14 12 false (rbin env .lss 3 false true (T 13) (K 0)),
  oV 15 (rpick (T 12) (.const (.bool true)) (T 14)),
  oV 16 (rmv (T 15)),
  oG 17 16 false (rmv (T 1)),
  oG 18 16 false (rbin env .gtr 3 false true (T 17) (K 10000)),
  oV 19 (rpick (T 16) (.const (.bool true)) (T 18))]
noncomputable abbrev c12_2 : RC := .ops [oV 4 (rmv (.const (.pointer none))),
  oV 5 (rmv (K 2))]
noncomputable abbrev c12_3 : RC := .seq c12_2 .ret
noncomputable abbrev c12_4 : RC := .cond (rX 19) c12_3 .skip
noncomputable abbrev c12_5 : RC := .seq c12_1 c12_4
noncomputable abbrev c12_6 : RC := .ops [oV 20 (rmv (T 0)),
  oV 21 (rmv (T 1)),
  oV 22 (rbuild [.v (.bool false), .v (.int .i64 0), .v (.int .i64 0), .v (.pointer none), .v (.int .i64 0), .v (.int .i64 0), .v (.int .i64 0)] [(0, 1), (1, 1), (2, 1), (3, 1), (4, 1), (5, 1), (6, 1)] [(0, (.const (.bool true))), (1, (T 20)), (2, (T 21))]),
  oU 23 (rbox (T 22)),
  oV 4 (rmv (T 23)),
  oV 5 (rmv (K 0))]
noncomputable abbrev c12_7 : RC := .seq c12_6 .ret
noncomputable abbrev c12_8 : RC := .seq c12_5 c12_7
noncomputable abbrev c12_9 : RC := .seq c12_0 c12_8
theorem fn12 : env.fn 12 = some ⟨24, [.tmp 4, .tmp 5], body12⟩ := by kernel_rfl
theorem comp12 : comp env body12 = c12_9 := by kernel_rfl
noncomputable def body14 : Code := match Tryz.f14.body with | some c => c | none => .skip
noncomputable abbrev c14_0 : RC := .ops [oU 3 (rbox (T 1)),
  oV 4 (rmv (K 0))]
noncomputable abbrev c14_1 : RC := .ops [oV 6 (rmv (T 0)),
  oC 7 (.func 59) [(T 6)]]
noncomputable abbrev c14_2 : RC := .ops [oV 4 (rmv (K 1))]
noncomputable abbrev c14_3 : RC := .seq c14_2 .ret
noncomputable abbrev c14_4 : RC := .cond (rX 7) c14_3 .skip
noncomputable abbrev c14_5 : RC := .seq c14_1 c14_4
noncomputable abbrev c14_6 : RC := .ops [oV 8 (rmv (T 0)),
  oV 9 (rload true 2 (T 3)),
  oC 10 (.func 60) [(T 8), (T 9)],
  oV 5 (rmv (T 10))]
noncomputable abbrev c14_7 : RC := .ops [oV 11 (rmv (T 5)),
  oV 12 (rnil (T 11)),
  oV 13 (rload false 1 (T 12)),
  oV 14 (rbin env .eql 80 false true (T 13) (.const (.pointer none)))]
noncomputable abbrev c14_8 : RC := .ops [oV 4 (rmv (K 6))]
noncomputable abbrev c14_9 : RC := .seq c14_8 .ret
noncomputable abbrev c14_10 : RC := .cond (rX 14) c14_9 .skip
noncomputable abbrev c14_11 : RC := .seq c14_7 c14_10
noncomputable abbrev c14_12 : RC := .drawn true [dV 15 (rmv (T 0)),
  dV 16 (rnil (T 15)),
  dV 17 (rfaddr 4 (T 16)),
  dV 18 (rmv (T 5)),
  dV 19 (rnil (T 18)),
  dV 20 (rload false 1 (T 19)),
  dV 21 (rnil (T 20)),
  dV 22 (rfaddr 7 (T 21)),
  dV 23 (rload false 1 (T 22)),
  dV 24 (run' .neg (T 23)),
  dC true 25 (.func 61) [(T 17), (T 24)]]
noncomputable abbrev c14_13 : RC := .ops [oV 26 (rmv (T 0)),
  oV 27 (rnil (T 26)),
  oV 28 (rfaddr 5 (T 27)),
  oC 29 (.func 61) [(T 28), (K (-1))]]
noncomputable abbrev c14_14 : RC := .ops [oV 30 (rmv (T 5)),
  oV 31 (rmv (T 5)),
  oV 32 (rnil (T 31)),
  oV 33 (rload false 1 (T 32)),
  oV 34 (rnil (T 33)),
  oV 35 (rfaddr 8 (T 34)),
  oV 36 (rload false 1 (T 35)),
  oV 37 (rnil (T 30)),
  oS (rstore 1 (T 37) (T 36))]
noncomputable abbrev c14_15 : RC := .ops [oV 4 (rmv (K 0))]
noncomputable abbrev c14_16 : RC := .seq c14_15 .ret
noncomputable abbrev c14_17 : RC := .seq c14_14 c14_16
noncomputable abbrev c14_18 : RC := .seq c14_13 c14_17
noncomputable abbrev c14_19 : RC := .seq c14_12 c14_18
noncomputable abbrev c14_20 : RC := .seq c14_11 c14_19
noncomputable abbrev c14_21 : RC := .seq c14_6 c14_20
noncomputable abbrev c14_22 : RC := .seq c14_5 c14_21
noncomputable abbrev c14_23 : RC := .seq c14_0 c14_22
theorem fn14 : env.fn 14 = some ⟨38, [.tmp 4], body14⟩ := by kernel_rfl
theorem comp14 : comp env body14 = c14_23 := by kernel_rfl
noncomputable def body17 : Code := match Tryz.f17.body with | some c => c | none => .skip
noncomputable abbrev c17_0 : RC := .ops [oU 3 (rbox (T 1)),
  oV 4 (rmv (K 0))]
noncomputable abbrev c17_1 : RC := .ops [oV 9 (rmv (T 0)),
  oC 10 (.func 59) [(T 9)]]
noncomputable abbrev c17_2 : RC := .ops [oV 4 (rmv (K 1))]
noncomputable abbrev c17_3 : RC := .seq c17_2 .ret
noncomputable abbrev c17_4 : RC := .cond (rX 10) c17_3 .skip
noncomputable abbrev c17_5 : RC := .seq c17_1 c17_4
noncomputable abbrev c17_6 : RC := .ops [oV 11 (rload true 7 (T 3)),
  oC 12 (.func 25) [(T 11)],
  oV 5 (rmv (T 12))]
noncomputable abbrev c17_7 : RC := .ops [oV 13 (rmv (T 0)),
  oV 14 (rfaddr 0 (T 3)),
  oV 15 (rload true 2 (T 14)),
  oC 16 (.func 60) [(T 13), (T 15)],
  oV 6 (rmv (T 16))]
noncomputable abbrev c17_8 : RC := .ops [oV 18 (rmv (T 0)),
  oC 19 (.func 65) [(T 18)],
  oV 17 (rmv (T 19)),
  oV 20 (rext (T 17) 0),
  oV 21 (rext (T 17) 1),
  oV 7 (rmv (T 20)),
  oV 8 (rmv (T 21))]
noncomputable abbrev c17_9 : RC := .ops [oV 23 (rload true 7 (T 3)),
  oC 24 (.func 42) [(T 23)],
  oV 25 (rbin env .neq 26 false true (T 24) (K 0)),
  oV 22 (rmv (T 25))]
noncomputable abbrev c17_10 : RC := .ops [oV 4 (rmv (K 2))]
noncomputable abbrev c17_11 : RC := .seq c17_10 .ret
noncomputable abbrev c17_12 : RC := .ops [oV 27 (rmv (T 5)),
  oV 28 (rmv (T 0)),
  oV 29 (rnil (T 28)),
  oV 30 (rfaddr 1 (T 29)),
  oV 31 (rload false 1 (T 30)),
  oV 32 (rbin env .gtr 3 false false (T 27) (T 31)),
  oV 33 (rmv (T 32)),
  oG 34 33 false (rmv (T 0)),
  oG 35 33 false (rnil (T 34)),
  oG 36 33 false (rfaddr 2 (T 35)),
  oG 37 33 false (rload false 1 (T 36)),
  oG 38 33 false (rbin env .eql 3 false true (T 37) (K 0)),
  oV 39 (rpick (T 33) (.const (.bool true)) (T 38)),
  oV 26 (rmv (T 39))]
noncomputable abbrev c17_13 : RC := .ops [oV 4 (rmv (K 3))]
noncomputable abbrev c17_14 : RC := .seq c17_13 .ret
noncomputable abbrev c17_15 : RC := .ops [oV 41 (rmv (T 6)),
  oV 42 (rnil (T 41)),
  oV 43 (rload false 1 (T 42)),
  oV 44 (rbin env .neq 80 false true (T 43) (.const (.pointer none))),
  oV 40 (rmv (T 44))]
noncomputable abbrev c17_16 : RC := .ops [oV 4 (rmv (K 7))]
noncomputable abbrev c17_17 : RC := .seq c17_16 .ret
noncomputable abbrev c17_18 : RC := .ops [oV 46 (rmv (T 7)),
  oV 47 (rmv (T 5)),
  oV 48 (rbin env .add 3 false false (T 46) (T 47)),
  oV 49 (rmv (T 0)),
  oV 50 (rnil (T 49)),
  oV 51 (rfaddr 1 (T 50)),
  oV 52 (rload false 1 (T 51)),
  oV 53 (rbin env .gtr 3 false false (T 48) (T 52)),
  oV 54 (rmv (T 53)),
  oG 55 54 false (rmv (T 8)),
  oG 56 54 false (rbin env .add 3 false true (T 55) (K 1)),
  oG 57 54 false (rmv (T 0)),
  oG 58 54 false (rnil (T 57)),
  oG 59 54 false (rfaddr 2 (T 58)),
  oG 60 54 false (rload false 1 (T 59)),
  oG 61 54 false (rbin env .gtr 3 false false (T 56) (T 60)),
  oV 62 (rpick (T 54) (.const (.bool true)) (T 61)),
  oV 45 (rmv (T 62))]
noncomputable abbrev c17_19 : RC := .ops [oV 4 (rmv (K 8))]
noncomputable abbrev c17_20 : RC := .seq c17_19 .ret
noncomputable abbrev c17_21 : RC := .cond (rX 45) c17_20 .skip
noncomputable abbrev c17_22 : RC := .seq c17_18 c17_21
noncomputable abbrev c17_23 : RC := .cond (rX 40) c17_17 c17_22
noncomputable abbrev c17_24 : RC := .seq c17_15 c17_23
noncomputable abbrev c17_25 : RC := .cond (rX 26) c17_14 c17_24
noncomputable abbrev c17_26 : RC := .seq c17_12 c17_25
noncomputable abbrev c17_27 : RC := .cond (rX 22) c17_11 c17_26
noncomputable abbrev c17_28 : RC := .seq c17_9 c17_27
noncomputable abbrev c17_29 : RC := .block 0 c17_28
noncomputable abbrev c17_30 : RC := .ops [oV 63 (rmv (T 6)),
  oV 64 (rload true 7 (T 3)),
  oC 65 (.func 66) [(T 64)],
  oV 66 (rmv (T 5)),
  oV 67 (rbuild [.v (.int .i64 0), .v (.int .i64 0), .v (.string ⟨#[]⟩), .v (.int .i64 0), .v (.int .i64 0), .lst .full 0 0 [], .lst .full 0 0 [], .v (.int .i64 0), .v (.pointer none)] [(0, 7), (7, 1), (8, 1)] [(0, (T 65)), (1, (T 66))]),
  oU 68 (rbox (T 67)),
  oV 69 (rnil (T 63)),
  oS (rstore 1 (T 69) (T 68))]
noncomputable abbrev c17_31 : RC := .ops [oV 70 (rmv (T 0)),
  oV 71 (rnil (T 70)),
  oV 72 (rfaddr 5 (T 71)),
  oC 73 (.func 61) [(T 72), (K 1)]]
noncomputable abbrev c17_32 : RC := .drawn true [dV 74 (rmv (T 0)),
  dV 75 (rnil (T 74)),
  dV 76 (rfaddr 6 (T 75)),
  dV 77 (rmv (T 0)),
  dV 78 (rnil (T 77)),
  dV 79 (rfaddr 4 (T 78)),
  dV 80 (rmv (T 5)),
  dC true 81 (.func 61) [(T 79), (T 80)],
  dC true 82 (.func 67) [(T 76), (T 81)]]
noncomputable abbrev c17_33 : RC := .ops [oV 4 (rmv (K 0))]
noncomputable abbrev c17_34 : RC := .seq c17_33 .ret
noncomputable abbrev c17_35 : RC := .seq c17_32 c17_34
noncomputable abbrev c17_36 : RC := .seq c17_31 c17_35
noncomputable abbrev c17_37 : RC := .seq c17_30 c17_36
noncomputable abbrev c17_38 : RC := .seq c17_29 c17_37
noncomputable abbrev c17_39 : RC := .seq c17_8 c17_38
noncomputable abbrev c17_40 : RC := .seq c17_7 c17_39
noncomputable abbrev c17_41 : RC := .seq c17_6 c17_40
noncomputable abbrev c17_42 : RC := .seq c17_5 c17_41
noncomputable abbrev c17_43 : RC := .seq c17_0 c17_42
theorem fn17 : env.fn 17 = some ⟨83, [.tmp 4], body17⟩ := by kernel_rfl
theorem comp17 : comp env body17 = c17_43 := by kernel_rfl
noncomputable def body19 : Code := match Tryz.f19.body with | some c => c | none => .skip
noncomputable abbrev c19_0 : RC := .ops [oU 2 (rbox (T 0)),
  oU 3 (rbox (T 1)),
  oV 4 (rmv (.const (.bool false)))]
noncomputable abbrev c19_1 : RC := .ops [oV 5 (rfaddr 0 (T 2)),
  oV 6 (rload true 2 (T 5)),
  oV 7 (rfaddr 0 (T 3)),
  oV 8 (rload true 2 (T 7)),
  oV 9 (rbin env .eql 33 false false (T 6) (T 8)),
  oV 10 (rmv (T 9)),
  oG 11 10 true (rfaddr 2 (T 2)),
  oG 12 10 true (rload false 1 (T 11)),
  oG 13 10 true (rfaddr 2 (T 3)),
  oG 14 10 true (rload false 1 (T 13)),
  oG 15 10 true (rbin env .eql 9 false false (T 12) (T 14)),
  oV 16 (rpick (T 10) (T 15) (.const (.bool false))),
  oV 17 (rmv (T 16)),
  oG 18 17 true (rfaddr 3 (T 2)),
  oG 19 17 true (rload true 3 (T 18)),
  oG 20 17 true (rfaddr 3 (T 3)),
  oG 21 17 true (rload true 3 (T 20)),
  oCG 22 17 true (.func 69) [(T 19), (T 21)],
  oV 23 (rpick (T 17) (T 22) (.const (.bool false))),
  oV 24 (rmv (T 23)),
  oG 25 24 true (rfaddr 6 (T 2)),
  oG 26 24 true (rload false 1 (T 25)),
  oG 27 24 true (rfaddr 6 (T 3)),
  oG 28 24 true (rload false 1 (T 27)),
  oCG 29 24 true (.func 35) [(T 26), (T 28)],
  oV 30 (rpick (T 24) (T 29) (.const (.bool false))),
  oV 4 (rmv (T 30))]
noncomputable abbrev c19_2 : RC := .seq c19_1 .ret
noncomputable abbrev c19_3 : RC := .seq c19_0 c19_2
theorem fn19 : env.fn 19 = some ⟨31, [.tmp 4], body19⟩ := by kernel_rfl
theorem comp19 : comp env body19 = c19_3 := by kernel_rfl
noncomputable def body23 : Code := match Tryz.f23.body with | some c => c | none => .skip
noncomputable abbrev c23_0 : RC := .ops [oV 4 (rmv (K 0))]
noncomputable abbrev c23_1 : RC := .ops [oV 5 (rmv (T 1)),
  oV 6 (rbin env .lss 3 false true (T 5) (K 1))]
noncomputable abbrev c23_2 : RC := .ops [oV 4 (rmv (K 0))]
noncomputable abbrev c23_3 : RC := .seq c23_2 .ret
noncomputable abbrev c23_4 : RC := .cond (rX 6) c23_3 .skip
noncomputable abbrev c23_5 : RC := .seq c23_1 c23_4
noncomputable abbrev c23_6 : RC := .ops [oV 7 (rmv (T 0)),
  oV 8 (rmv (T 1)),
  oV 9 (rbin env .rem 3 false false (T 7) (T 8)),
  oV 10 (rmv (T 1)),
  oV 11 (rbin env .add 3 false false (T 9) (T 10)),
  oV 12 (rmv (T 1)),
  oV 13 (rbin env .rem 3 false false (T 11) (T 12)),
  oV 4 (rmv (T 13))]
noncomputable abbrev c23_7 : RC := .seq c23_6 .ret
noncomputable abbrev c23_8 : RC := .seq c23_5 c23_7
noncomputable abbrev c23_9 : RC := .seq c23_0 c23_8
theorem fn23 : env.fn 23 = some ⟨14, [.tmp 4], body23⟩ := by kernel_rfl
theorem comp23 : comp env body23 = c23_9 := by kernel_rfl
noncomputable def body24 : Code := match Tryz.f24.body with | some c => c | none => .skip
noncomputable abbrev c24_0 : RC := .ops [oU 3 (rbox (T 1)),
  oV 4 (rmv (.const (.slice none 0 0)))]
noncomputable abbrev c24_1 : RC := .ops [oV 5 (rmv (.const (.slice none 0 0)))]
noncomputable abbrev c24_2 : RC := .ops [oV 6 (rmv (K 0))]
noncomputable abbrev c24_3 : RC := .ops [oV 7 (rmv (T 6)),
  oV 8 (rmv (T 0)),
  oV 9 (rlen (T 8)),
  oV 10 (rbin env .lss 3 false false (T 7) (T 9))]
noncomputable abbrev c24_4 : RC := .cond (rX 10) .skip (.exit 0)
noncomputable abbrev c24_5 : RC := .seq c24_3 c24_4
noncomputable abbrev c24_6 : RC := .drawn true [dV 13 (rmv (T 0)),
  dV 14 (rmv (T 6)),
  dV 15 (riaddr 7 (T 13) (T 14)),
  dV 16 (rfaddr 0 (T 15)),
  dV 17 (rload true 2 (T 16)),
  dV 18 (rload true 2 (T 3)),
  dV 19 (rbin env .neq 33 false false (T 17) (T 18))]
noncomputable abbrev c24_7 : RC := .ops [oV 20 (rmv (T 5)),
  oV 21 (rmv (T 0)),
  oV 22 (rmv (T 6)),
  oV 23 (riaddr 7 (T 21) (T 22)),
  oV 24 (rload true 7 (T 23)),
  oU 25 (rbuildL 7 1 [.v (.int .i64 0), .v (.int .i64 0), .v (.string ⟨#[]⟩), .v (.int .i64 0), .v (.int .i64 0), .lst .full 0 0 [], .lst .full 0 0 []] [(0, (T 24))]),
  oA 26 7 96 7 (T 20) (T 25),
  oV 5 (rmv (T 26))]
noncomputable abbrev c24_8 : RC := .cond (rX 19) c24_7 .skip
noncomputable abbrev c24_9 : RC := .seq c24_6 c24_8
noncomputable abbrev c24_10 : RC := .block 1 c24_9
noncomputable abbrev c24_11 : RC := .ops [oV 11 (rmv (T 6)),
  oV 12 (rbin env .add 3 false true (T 11) (K 1)),
  oV 6 (rmv (T 12))]
noncomputable abbrev c24_12 : RC := .seq c24_10 c24_11
noncomputable abbrev c24_13 : RC := .seq c24_5 c24_12
noncomputable abbrev c24_14 : RC := .loop c24_13
noncomputable abbrev c24_15 : RC := .block 0 c24_14
noncomputable abbrev c24_16 : RC := .seq c24_2 c24_15
noncomputable abbrev c24_17 : RC := .ops [oV 27 (rmv (T 5)),
  oV 4 (rmv (T 27))]
noncomputable abbrev c24_18 : RC := .seq c24_17 .ret
noncomputable abbrev c24_19 : RC := .seq c24_16 c24_18
noncomputable abbrev c24_20 : RC := .seq c24_1 c24_19
noncomputable abbrev c24_21 : RC := .seq c24_0 c24_20
theorem fn24 : env.fn 24 = some ⟨28, [.tmp 4], body24⟩ := by kernel_rfl
theorem comp24 : comp env body24 = c24_21 := by kernel_rfl
noncomputable def body25 : Code := match Tryz.f25.body with | some c => c | none => .skip
noncomputable abbrev c25_0 : RC := .ops [oU 1 (rbox (T 0)),
  oV 2 (rmv (K 0))]
noncomputable abbrev c25_1 : RC := .ops [oV 6 (rload true 7 (T 1)),
  oC 7 (.func 39) [(T 6)],
  oV 5 (rmv (T 7)),
  oV 8 (rext (T 5) 0),
  oV 9 (rext (T 5) 1),
  oV 3 (rmv (T 8)),
  oV 4 (rmv (T 9))]
noncomputable abbrev c25_2 : RC := .ops [oV 10 (rmv (T 3)),
  oV 11 (rlen (T 10)),
  oV 2 (rmv (T 11))]
noncomputable abbrev c25_3 : RC := .seq c25_2 .ret
noncomputable abbrev c25_4 : RC := .seq c25_1 c25_3
noncomputable abbrev c25_5 : RC := .seq c25_0 c25_4
theorem fn25 : env.fn 25 = some ⟨12, [.tmp 2], body25⟩ := by kernel_rfl
theorem comp25 : comp env body25 = c25_5 := by kernel_rfl
noncomputable def body26 : Code := match Tryz.f26.body with | some c => c | none => .skip
noncomputable abbrev c26_0 : RC := .ops [oV 6 (rmv (.const (.bool false)))]
noncomputable abbrev c26_1 : RC := .ops [oV 10 (rmv (T 0)),
  oC 11 (.func 65) [(T 10)],
  oV 9 (rmv (T 11)),
  oV 12 (rext (T 9) 0),
  oV 13 (rext (T 9) 1),
  oV 7 (rmv (T 12)),
  oV 8 (rmv (T 13))]
noncomputable abbrev c26_2 : RC := .ops [oV 14 (rmv (T 7)),
  oV 15 (rmv (T 1)),
  oV 16 (rbin env .eql 3 false false (T 14) (T 15)),
  oV 17 (rmv (T 16)),
  oG 18 17 true (rmv (T 8)),
  oG 19 17 true (rmv (T 2)),
  oG 20 17 true (rbin env .eql 3 false false (T 18) (T 19)),
  oV 21 (rpick (T 17) (T 20) (.const (.bool false))),
  oV 6 (rmv (T 21))]
noncomputable abbrev c26_3 : RC := .seq c26_2 .ret
noncomputable abbrev c26_4 : RC := .seq c26_1 c26_3
noncomputable abbrev c26_5 : RC := .seq c26_0 c26_4
theorem fn26 : env.fn 26 = some ⟨22, [.tmp 6], body26⟩ := by kernel_rfl
theorem comp26 : comp env body26 = c26_5 := by kernel_rfl
noncomputable def body27 : Code := match Tryz.f27.body with | some c => c | none => .skip
noncomputable abbrev c27_0 : RC := .ops [oV 2 (rmv (K 0))]
noncomputable abbrev c27_1 : RC := .ops [oV 3 (rmv (T 0)),
  oC 4 (.func 59) [(T 3)]]
noncomputable abbrev c27_2 : RC := .ops [oV 2 (rmv (K 0))]
noncomputable abbrev c27_3 : RC := .seq c27_2 .ret
noncomputable abbrev c27_4 : RC := .cond (rX 4) c27_3 .skip
noncomputable abbrev c27_5 : RC := .seq c27_1 c27_4
noncomputable abbrev c27_6 : RC := .ops [oV 5 (rmv (T 0)),
  oV 6 (rnil (T 5)),
  oV 7 (rfaddr 6 (T 6)),
  oC 8 (.func 70) [(T 7)],
  oV 2 (rmv (T 8))]
noncomputable abbrev c27_7 : RC := .seq c27_6 .ret
noncomputable abbrev c27_8 : RC := .seq c27_5 c27_7
noncomputable abbrev c27_9 : RC := .seq c27_0 c27_8
theorem fn27 : env.fn 27 = some ⟨9, [.tmp 2], body27⟩ := by kernel_rfl
theorem comp27 : comp env body27 = c27_9 := by kernel_rfl
noncomputable def body28 : Code := match Tryz.f28.body with | some c => c | none => .skip
noncomputable abbrev c28_0 : RC := .ops [oV 4 (rmv (.const (.bool false)))]
noncomputable abbrev c28_1 : RC := .ops [oV 6 (rmv (T 0)),
  oV 7 (rlen (T 6)),
  oV 8 (rmv (T 1)),
  oV 9 (rlen (T 8)),
  oV 10 (rbin env .neq 3 false false (T 7) (T 9))]
noncomputable abbrev c28_2 : RC := .ops [oV 4 (rmv (.const (.bool false)))]
noncomputable abbrev c28_3 : RC := .seq c28_2 .ret
noncomputable abbrev c28_4 : RC := .cond (rX 10) c28_3 .skip
noncomputable abbrev c28_5 : RC := .seq c28_1 c28_4
noncomputable abbrev c28_6 : RC := .ops [oV 5 (rmv (K 0))]
noncomputable abbrev c28_7 : RC := .ops [oV 11 (rmv (T 5)),
  oV 12 (rmv (T 0)),
  oV 13 (rlen (T 12)),
  oV 14 (rbin env .lss 3 false false (T 11) (T 13))]
noncomputable abbrev c28_8 : RC := .cond (rX 14) .skip (.exit 0)
noncomputable abbrev c28_9 : RC := .seq c28_7 c28_8
noncomputable abbrev c28_10 : RC := .drawn true [dV 17 (rmv (T 0)),
  dV 18 (rmv (T 5)),
  dV 19 (riaddr 7 (T 17) (T 18)),
  dV 20 (rload true 7 (T 19)),
  dV 21 (rmv (T 1)),
  dV 22 (rmv (T 5)),
  dV 23 (riaddr 7 (T 21) (T 22)),
  dV 24 (rload true 7 (T 23)),
  dC true 25 (.func 19) [(T 20), (T 24)],
  dV 26 (run' .not (T 25))]
noncomputable abbrev c28_11 : RC := .ops [oV 4 (rmv (.const (.bool false)))]
noncomputable abbrev c28_12 : RC := .seq c28_11 .ret
noncomputable abbrev c28_13 : RC := .cond (rX 26) c28_12 .skip
noncomputable abbrev c28_14 : RC := .seq c28_10 c28_13
noncomputable abbrev c28_15 : RC := .block 1 c28_14
noncomputable abbrev c28_16 : RC := .ops [oV 15 (rmv (T 5)),
  oV 16 (rbin env .add 3 false true (T 15) (K 1)),
  oV 5 (rmv (T 16))]
noncomputable abbrev c28_17 : RC := .seq c28_15 c28_16
noncomputable abbrev c28_18 : RC := .seq c28_9 c28_17
noncomputable abbrev c28_19 : RC := .loop c28_18
noncomputable abbrev c28_20 : RC := .block 0 c28_19
noncomputable abbrev c28_21 : RC := .seq c28_6 c28_20
noncomputable abbrev c28_22 : RC := .ops [oV 4 (rmv (.const (.bool true)))]
noncomputable abbrev c28_23 : RC := .seq c28_22 .ret
noncomputable abbrev c28_24 : RC := .seq c28_21 c28_23
noncomputable abbrev c28_25 : RC := .seq c28_5 c28_24
noncomputable abbrev c28_26 : RC := .seq c28_0 c28_25
theorem fn28 : env.fn 28 = some ⟨27, [.tmp 4], body28⟩ := by kernel_rfl
theorem comp28 : comp env body28 = c28_26 := by kernel_rfl
noncomputable def body29 : Code := match Tryz.f29.body with | some c => c | none => .skip
noncomputable abbrev c29_0 : RC := .ops [oV 2 (rmv (.const (.slice none 0 0)))]
noncomputable abbrev c29_1 : RC := .ops [oV 5 (rmv (T 0)),
  oC 6 (.func 59) [(T 5)]]
noncomputable abbrev c29_2 : RC := .ops [oV 2 (rmv (.const (.slice none 0 0)))]
noncomputable abbrev c29_3 : RC := .seq c29_2 .ret
noncomputable abbrev c29_4 : RC := .cond (rX 6) c29_3 .skip
noncomputable abbrev c29_5 : RC := .seq c29_1 c29_4
noncomputable abbrev c29_6 : RC := .ops [oU 3 (rnew [.lst .full 0 0 []])]
noncomputable abbrev c29_7 : RC := .ops [oV 7 (rmv (T 0)),
  oC 8 (.func 71) [(T 7)]]
noncomputable abbrev c29_8 : RC := .ops [oV 4 (rmv (T 9))]
noncomputable abbrev c29_9 : RC := .ops [oV 10 (rmv (T 4)),
  oV 11 (rnil (T 10)),
  oV 12 (rload false 1 (T 11)),
  oV 13 (rbin env .neq 80 false true (T 12) (.const (.pointer none)))]
noncomputable abbrev c29_10 : RC := .drawn true [dV 14 (rload false 1 (T 3)),
  dV 15 (rmv (T 4)),
  dV 16 (rnil (T 15)),
  dV 17 (rload false 1 (T 16)),
  dV 18 (rnil (T 17)),
  dV 19 (rfaddr 0 (T 18)),
  dV 20 (rload true 7 (T 19)),
  dC false 21 (.func 66) [(T 20)],
  dU 22 (rbuildL 7 1 [.v (.int .i64 0), .v (.int .i64 0), .v (.string ⟨#[]⟩), .v (.int .i64 0), .v (.int .i64 0), .lst .full 0 0 [], .lst .full 0 0 []] [(0, (T 21))]),
  dU 23 (rappend 7 96 7 (T 14) (T 22)),
  dS (rstore 1 (T 3) (T 23))]
noncomputable abbrev c29_11 : RC := .cond (rX 13) c29_10 .skip
noncomputable abbrev c29_12 : RC := .seq c29_9 c29_11
noncomputable abbrev c29_13 : RC := .block 1 c29_12
noncomputable abbrev c29_14 : RC := .range (fun s => pev s.tm (T 8)) [9] (subc [1, 1, 1, 0, 1, 0, 0] body29) (subc [1, 1, 1, 0, 1, 0, 1] body29)
noncomputable abbrev c29_15 : RC := .block 0 c29_14
noncomputable abbrev c29_16 : RC := .seq c29_7 c29_15
noncomputable abbrev c29_17 : RC := .ops [oV 24 (rload false 1 (T 3)),
  oV 2 (rmv (T 24))]
noncomputable abbrev c29_18 : RC := .seq c29_17 .ret
noncomputable abbrev c29_19 : RC := .seq c29_16 c29_18
noncomputable abbrev c29_20 : RC := .seq c29_6 c29_19
noncomputable abbrev c29_21 : RC := .seq c29_5 c29_20
noncomputable abbrev c29_22 : RC := .seq c29_0 c29_21
theorem fn29 : env.fn 29 = some ⟨25, [.tmp 2], body29⟩ := by kernel_rfl
theorem comp29 : comp env body29 = c29_22 := by kernel_rfl
theorem piece29_1 : comp env (subc [1, 1, 1, 0, 1, 0, 0] body29) = c29_8 := by kernel_rfl
theorem piece29_2 : comp env (subc [1, 1, 1, 0, 1, 0, 1] body29) = c29_13 := by kernel_rfl
noncomputable def body30 : Code := match Tryz.f30.body with | some c => c | none => .skip
noncomputable abbrev c30_0 : RC := .ops [oV 4 (rmv (.const (.bool false)))]
noncomputable abbrev c30_1 : RC := .ops [oV 5 (rmv (K 0))]
noncomputable abbrev c30_2 : RC := .ops [oV 6 (rmv (T 5)),
  oV 7 (rmv (T 0)),
  oV 8 (rlen (T 7)),
  oV 9 (rbin env .lss 3 false false (T 6) (T 8)),
  oV 10 (rmv (T 9)),
  oG 11 10 true (rmv (T 5)),
  oG 12 10 true (rmv (T 1)),
  oG 13 10 true (rbin env .leq 3 false false (T 11) (T 12)),
  oV 14 (rpick (T 10) (T 13) (.const (.bool false)))]
noncomputable abbrev c30_3 : RC := .cond (rX 14) .skip (.exit 0)
noncomputable abbrev c30_4 : RC := .seq c30_2 c30_3
noncomputable abbrev c30_5 : RC := .ops [oV 17 (rmv (T 0)),
  oV 18 (rmv (T 5)),
  oV 19 (riaddr 7 (T 17) (T 18)),
  oV 20 (rfaddr 2 (T 19)),
  oV 21 (rload false 1 (T 20)),
  oV 22 (rlenS (T 21)),
  oV 23 (rbin env .gtr 3 false true (T 22) (K 100)),
  oV 24 (rmv (T 23)),
  oG 25 24 false (rmv (T 0)),
  oG 26 24 false (rmv (T 5)),
  oG 27 24 false (riaddr 7 (T 25) (T 26)),
  oG 28 24 false (rfaddr 3 (T 27)),
  oG 29 24 false (rload true 3 (T 28)),
  oCG 30 24 false (.func 72) [(T 29)],
  oV 31 (rpick (T 24) (.const (.bool true)) (T 30)),
  oV 32 (rmv (T 31)),
  oG 33 32 false (rmv (T 0)),
  oG 34 32 false (rmv (T 5)),
  oG 35 32 false (riaddr 7 (T 33) (T 34)),
  oG 36 32 false (rfaddr 6 (T 35)),
  oG 37 32 false (rload false 1 (T 36)),
  oG 38 32 false (rlen (T 37)),
  oG 39 32 false (rbin env .gtr 3 false true (T 38) (K 100)),
  oV 40 (rpick (T 32) (.const (.bool true)) (T 39))]
noncomputable abbrev c30_6 : RC := .ops [oV 4 (rmv (.const (.bool true)))]
noncomputable abbrev c30_7 : RC := .seq c30_6 .ret
noncomputable abbrev c30_8 : RC := .cond (rX 40) c30_7 .skip
noncomputable abbrev c30_9 : RC := .seq c30_5 c30_8
noncomputable abbrev c30_10 : RC := .block 1 c30_9
noncomputable abbrev c30_11 : RC := .ops [oV 15 (rmv (T 5)),
  oV 16 (rbin env .add 3 false true (T 15) (K 1)),
  oV 5 (rmv (T 16))]
noncomputable abbrev c30_12 : RC := .seq c30_10 c30_11
noncomputable abbrev c30_13 : RC := .seq c30_4 c30_12
noncomputable abbrev c30_14 : RC := .loop c30_13
noncomputable abbrev c30_15 : RC := .block 0 c30_14
noncomputable abbrev c30_16 : RC := .seq c30_1 c30_15
noncomputable abbrev c30_17 : RC := .ops [oV 41 (rmv (T 0)),
  oV 42 (rlen (T 41)),
  oV 43 (rmv (T 1)),
  oV 44 (rbin env .gtr 3 false false (T 42) (T 43)),
  oV 4 (rmv (T 44))]
noncomputable abbrev c30_18 : RC := .seq c30_17 .ret
noncomputable abbrev c30_19 : RC := .seq c30_16 c30_18
noncomputable abbrev c30_20 : RC := .seq c30_0 c30_19
theorem fn30 : env.fn 30 = some ⟨45, [.tmp 4], body30⟩ := by kernel_rfl
theorem comp30 : comp env body30 = c30_20 := by kernel_rfl
noncomputable def body35 : Code := match Tryz.f35.body with | some c => c | none => .skip
noncomputable abbrev c35_0 : RC := .ops [oV 4 (rmv (.const (.bool false)))]
noncomputable abbrev c35_1 : RC := .ops [oV 6 (rmv (T 0)),
  oV 7 (rlen (T 6)),
  oV 8 (rmv (T 1)),
  oV 9 (rlen (T 8)),
  oV 10 (rbin env .neq 3 false false (T 7) (T 9))]
noncomputable abbrev c35_2 : RC := .ops [oV 4 (rmv (.const (.bool false)))]
noncomputable abbrev c35_3 : RC := .seq c35_2 .ret
noncomputable abbrev c35_4 : RC := .cond (rX 10) c35_3 .skip
noncomputable abbrev c35_5 : RC := .seq c35_1 c35_4
noncomputable abbrev c35_6 : RC := .ops [oV 5 (rmv (K 0))]
noncomputable abbrev c35_7 : RC := .ops [oV 11 (rmv (T 5)),
  oV 12 (rmv (T 0)),
  oV 13 (rlen (T 12)),
  oV 14 (rbin env .lss 3 false false (T 11) (T 13))]
noncomputable abbrev c35_8 : RC := .cond (rX 14) .skip (.exit 0)
noncomputable abbrev c35_9 : RC := .seq c35_7 c35_8
noncomputable abbrev c35_10 : RC := .drawn true [dV 17 (rmv (T 0)),
  dV 18 (rmv (T 5)),
  dV 19 (riaddr 3 (T 17) (T 18)),
  dV 20 (rload true 3 (T 19)),
  dV 21 (rmv (T 1)),
  dV 22 (rmv (T 5)),
  dV 23 (riaddr 3 (T 21) (T 22)),
  dV 24 (rload true 3 (T 23)),
  dV 25 (rbin env .neq 76 false false (T 20) (T 24))]
noncomputable abbrev c35_11 : RC := .ops [oV 4 (rmv (.const (.bool false)))]
noncomputable abbrev c35_12 : RC := .seq c35_11 .ret
noncomputable abbrev c35_13 : RC := .cond (rX 25) c35_12 .skip
noncomputable abbrev c35_14 : RC := .seq c35_10 c35_13
noncomputable abbrev c35_15 : RC := .block 1 c35_14
noncomputable abbrev c35_16 : RC := .ops [oV 15 (rmv (T 5)),
  oV 16 (rbin env .add 3 false true (T 15) (K 1)),
  oV 5 (rmv (T 16))]
noncomputable abbrev c35_17 : RC := .seq c35_15 c35_16
noncomputable abbrev c35_18 : RC := .seq c35_9 c35_17
noncomputable abbrev c35_19 : RC := .loop c35_18
noncomputable abbrev c35_20 : RC := .block 0 c35_19
noncomputable abbrev c35_21 : RC := .seq c35_6 c35_20
noncomputable abbrev c35_22 : RC := .ops [oV 4 (rmv (.const (.bool true)))]
noncomputable abbrev c35_23 : RC := .seq c35_22 .ret
noncomputable abbrev c35_24 : RC := .seq c35_21 c35_23
noncomputable abbrev c35_25 : RC := .seq c35_5 c35_24
noncomputable abbrev c35_26 : RC := .seq c35_0 c35_25
theorem fn35 : env.fn 35 = some ⟨26, [.tmp 4], body35⟩ := by kernel_rfl
theorem comp35 : comp env body35 = c35_26 := by kernel_rfl
noncomputable def body39 : Code := match Tryz.f39.body with | some c => c | none => .skip
noncomputable abbrev c39_0 : RC := .ops [oU 1 (rbox (T 0)),
  oV 2 (rmv (.const (.slice none 0 0))),
  oV 3 (rmv (K 0))]
noncomputable abbrev c39_1 : RC := .ops [oV 10 (rload true 7 (T 1)),
  oC 11 (.func 42) [(T 10)],
  oV 4 (rmv (T 11))]
noncomputable abbrev c39_2 : RC := .ops [oV 12 (rmv (T 4)),
  oV 13 (rbin env .neq 26 false true (T 12) (K 0))]
noncomputable abbrev c39_3 : RC := .ops [oV 14 (rmv (T 4)),
  oV 2 (rmv (.const (.slice none 0 0))),
  oV 3 (rmv (T 14))]
noncomputable abbrev c39_4 : RC := .seq c39_3 .ret
noncomputable abbrev c39_5 : RC := .cond (rX 13) c39_4 .skip
noncomputable abbrev c39_6 : RC := .seq c39_2 c39_5
noncomputable abbrev c39_7 : RC := .seq c39_1 c39_6
noncomputable abbrev c39_8 : RC := .ops [oV 16 (rfaddr 3 (T 1)),
  oV 17 (rload true 3 (T 16)),
  oC 18 (.func 79) [(T 17)],
  oV 15 (rmv (T 18)),
  oV 19 (rext (T 15) 0),
  oV 20 (rext (T 15) 1),
  oV 5 (rmv (T 19)),
  oV 6 (rmv (T 20))]
noncomputable abbrev c39_9 : RC := .ops [oV 22 (rfaddr 6 (T 1)),
  oV 23 (rload false 1 (T 22)),
  oC 24 (.func 80) [(T 23)],
  oV 21 (rmv (T 24)),
  oV 25 (rext (T 21) 0),
  oV 26 (rext (T 21) 1),
  oV 7 (rmv (T 25)),
  oV 8 (rmv (T 26))]
noncomputable abbrev c39_10 : RC := .ops [oC 27 (.func 81) [],
  oV 9 (rmv (T 27))]
noncomputable abbrev c39_11 : RC := .ops [oV 28 (rmv (T 9)),
  oV 29 (rfaddr 0 (T 1)),
  oV 30 (rfaddr 0 (T 29)),
  oV 31 (rload false 1 (T 30)),
  oC 32 (.func 82) [(T 28), (T 31)]]
noncomputable abbrev c39_12 : RC := .ops [oV 33 (rmv (T 9)),
  oV 34 (rfaddr 0 (T 1)),
  oV 35 (rfaddr 1 (T 34)),
  oV 36 (rload false 1 (T 35)),
  oC 37 (.func 82) [(T 33), (T 36)]]
noncomputable abbrev c39_13 : RC := .ops [oV 38 (rmv (T 9)),
  oV 39 (rfaddr 2 (T 1)),
  oV 40 (rload false 1 (T 39)),
  oC 41 (.func 83) [(T 38), (T 40)]]
noncomputable abbrev c39_14 : RC := .ops [oV 42 (rmv (T 9)),
  oV 43 (rmv (T 5)),
  oC 44 (.func 84) [(T 42), (T 43)]]
noncomputable abbrev c39_15 : RC := .ops [oV 45 (rmv (T 9)),
  oV 46 (rmv (T 7)),
  oC 47 (.func 84) [(T 45), (T 46)]]
noncomputable abbrev c39_16 : RC := .ops [oV 48 (rmv (T 9)),
  oC 49 (.func 85) [(T 48)],
  oV 50 (rext (T 49) 0),
  oV 51 (rext (T 49) 1),
  oV 2 (rmv (T 50)),
  oV 3 (rmv (T 51))]
noncomputable abbrev c39_17 : RC := .seq c39_16 .ret
noncomputable abbrev c39_18 : RC := .seq c39_15 c39_17
noncomputable abbrev c39_19 : RC := .seq c39_14 c39_18
noncomputable abbrev c39_20 : RC := .seq c39_13 c39_19
noncomputable abbrev c39_21 : RC := .seq c39_12 c39_20
noncomputable abbrev c39_22 : RC := .seq c39_11 c39_21
noncomputable abbrev c39_23 : RC := .seq c39_10 c39_22
noncomputable abbrev c39_24 : RC := .seq c39_9 c39_23
noncomputable abbrev c39_25 : RC := .seq c39_8 c39_24
noncomputable abbrev c39_26 : RC := .seq c39_7 c39_25
noncomputable abbrev c39_27 : RC := .seq c39_0 c39_26
theorem fn39 : env.fn 39 = some ⟨52, [.tmp 2, .tmp 3], body39⟩ := by kernel_rfl
theorem comp39 : comp env body39 = c39_27 := by kernel_rfl
noncomputable def body41 : Code := match Tryz.f41.body with | some c => c | none => .skip
noncomputable abbrev c41_0 : RC := .ops [oV 4 (rmv (.const (.bool false)))]
noncomputable abbrev c41_1 : RC := .ops [oV 5 (rmv (T 0)),
  oU 6 (rconvB (T 5)),
  oV 7 (rmv (T 1)),
  oU 8 (rconvB (T 7)),
  oV 9 (rbin env .eql 9 false false (T 6) (T 8)),
  oV 4 (rmv (T 9))]
noncomputable abbrev c41_2 : RC := .seq c41_1 .ret
noncomputable abbrev c41_3 : RC := .seq c41_0 c41_2
theorem fn41 : env.fn 41 = some ⟨10, [.tmp 4], body41⟩ := by kernel_rfl
theorem comp41 : comp env body41 = c41_3 := by kernel_rfl
noncomputable def body42 : Code := match Tryz.f42.body with | some c => c | none => .skip
noncomputable abbrev c42_0 : RC := .ops [oU 1 (rbox (T 0)),
  oV 2 (rmv (K 0))]
noncomputable abbrev c42_1 : RC := .ops [oV 6 (rload true 7 (T 1)),
  oV 7 (rbuild [.v (.int .i64 0), .v (.int .i64 0), .v (.string ⟨#[]⟩), .v (.int .i64 0), .v (.int .i64 0), .lst .full 0 0 [], .lst .full 0 0 []] [(0, 7)] [(0, (T 6))]),
  oU 3 (rnew [.v (.int .i64 0), .v (.int .i64 0), .v (.string ⟨#[]⟩), .v (.int .i64 0), .v (.int .i64 0), .lst .full 0 0 [], .lst .full 0 0 []]),
  oS (rstore 7 (T 3) (T 7))]
noncomputable abbrev c42_2 : RC := .ops [oV 8 (rload true 7 (T 3)),
  oV 9 (rfn 92 [(T 8)] []),
  oV 10 (rload true 7 (T 3)),
  oV 11 (rfn 93 [(T 10)] []),
  oV 12 (rload true 7 (T 3)),
  oV 13 (rfn 94 [(T 12)] []),
  oV 14 (rload true 7 (T 3)),
  oV 15 (rfn 95 [(T 14)] []),
  oV 16 (rload true 7 (T 3)),
  oV 17 (rfn 96 [(T 16)] []),
  oU 18 (rbuildL 1 5 [.v (.nilFunc), .v (.nilFunc), .v (.nilFunc), .v (.nilFunc), .v (.nilFunc)] [(0, (T 9)), (1, (T 11)), (2, (T 13)), (3, (T 15)), (4, (T 17))]),
  oV 19 (rlen (T 18)),
  oV 20 (rmv (K 0))]
noncomputable abbrev c42_3 : RC := .ops [oV 21 (rbin env .lss 3 false false (T 20) (T 19))]
noncomputable abbrev c42_4 : RC := .cond (rX 21) .skip (.exit 0)
noncomputable abbrev c42_5 : RC := .ops [oV 22 (riaddr 1 (T 18) (T 20)),
  oV 23 (rload false 1 (T 22)),
  oV 5 (rmv (T 23))]
noncomputable abbrev c42_6 : RC := .ops [oV 24 (rmv (T 5)),
  oC 25 (T 24) [],
  oV 26 (run' .not (T 25))]
noncomputable abbrev c42_7 : RC := .ops [oV 2 (rmv (K 2))]
noncomputable abbrev c42_8 : RC := .seq c42_7 .ret
noncomputable abbrev c42_9 : RC := .cond (rX 26) c42_8 .skip
noncomputable abbrev c42_10 : RC := .seq c42_6 c42_9
noncomputable abbrev c42_11 : RC := .seq c42_5 c42_10
noncomputable abbrev c42_12 : RC := .block 1 c42_11
noncomputable abbrev c42_13 : RC := .ops [oV 27 (rbin env .add 3 false true (T 20) (K 1)),
  oV 20 (rmv (T 27))]
noncomputable abbrev c42_14 : RC := .seq c42_12 c42_13
noncomputable abbrev c42_15 : RC := .seq c42_4 c42_14
noncomputable abbrev c42_16 : RC := .seq c42_3 c42_15
noncomputable abbrev c42_17 : RC := .loop c42_16
noncomputable abbrev c42_18 : RC := .block 0 c42_17
noncomputable abbrev c42_19 : RC := .seq c42_2 c42_18
noncomputable abbrev c42_20 : RC := .ops [oV 2 (rmv (K 0))]
noncomputable abbrev c42_21 : RC := .seq c42_20 .ret
noncomputable abbrev c42_22 : RC := .seq c42_19 c42_21
noncomputable abbrev c42_23 : RC := .seq c42_1 c42_22
noncomputable abbrev c42_24 : RC := .seq c42_0 c42_23
theorem fn42 : env.fn 42 = some ⟨28, [.tmp 2], body42⟩ := by kernel_rfl
theorem comp42 : comp env body42 = c42_24 := by kernel_rfl
noncomputable def body59 : Code := match Tryz.f59.body with | some c => c | none => .skip
noncomputable abbrev c59_0 : RC := .ops [oV 2 (rmv (.const (.bool false)))]
noncomputable abbrev c59_1 : RC := .ops [oV 3 (rmv (T 0)),
  oV 4 (rbin env .eql 25 false true (T 3) (.const (.pointer none))),
  oV 5 (rmv (T 4)),
  oG 6 5 false (rmv (T 0)),
  oG 7 5 false (rnil (T 6)),
  oG 8 5 false (rfaddr 0 (T 7)),
  oG 9 5 false (rload false 1 (T 8)),
  oG 10 5 false (run' .not (T 9)),
  oV 11 (rpick (T 5) (.const (.bool true)) (T 10)),
  oV 2 (rmv (T 11))]
noncomputable abbrev c59_2 : RC := .seq c59_1 .ret
noncomputable abbrev c59_3 : RC := .seq c59_0 c59_2
theorem fn59 : env.fn 59 = some ⟨12, [.tmp 2], body59⟩ := by kernel_rfl
theorem comp59 : comp env body59 = c59_3 := by kernel_rfl
noncomputable def body60 : Code := match Tryz.f60.body with | some c => c | none => .skip
noncomputable abbrev c60_0 : RC := .ops [oU 3 (rbox (T 1)),
  oV 4 (rmv (.const (.pointer none)))]
noncomputable abbrev c60_1 : RC := .ops [oU 5 (rnew [.v (.pointer none)])]
noncomputable abbrev c60_2 : RC := .ops [oV 7 (rmv (T 0)),
  oC 8 (.func 71) [(T 7)]]
noncomputable abbrev c60_3 : RC := .ops [oV 6 (rmv (T 9))]
noncomputable abbrev c60_4 : RC := .ops [oV 10 (rmv (T 6)),
  oS (rstore 1 (T 5) (T 10))]
noncomputable abbrev c60_5 : RC := .drawn true [dV 11 (rmv (T 6)),
  dV 12 (rnil (T 11)),
  dV 13 (rload false 1 (T 12)),
  dV 14 (rbin env .neq 80 false true (T 13) (.const (.pointer none))),
  dV 15 (rmv (T 14)),
  dG 16 15 true (rmv (T 6)),
  dG 17 15 true (rnil (T 16)),
  dG 18 15 true (rload false 1 (T 17)),
  dG 19 15 true (rnil (T 18)),
  dG 20 15 true (rfaddr 0 (T 19)),
  dG 21 15 true (rfaddr 0 (T 20)),
  dG 22 15 true (rload true 2 (T 21)),
  dG 23 15 true (rload true 2 (T 3)),
  dG 24 15 true (rbin env .eql 33 false false (T 22) (T 23)),
  dV 25 (rpick (T 15) (T 24) (.const (.bool false)))]
noncomputable abbrev c60_6 : RC := .cond (rX 25) (.exit 0) .skip
noncomputable abbrev c60_7 : RC := .seq c60_5 c60_6
noncomputable abbrev c60_8 : RC := .seq c60_4 c60_7
noncomputable abbrev c60_9 : RC := .block 1 c60_8
noncomputable abbrev c60_10 : RC := .range (fun s => pev s.tm (T 8)) [9] (subc [1, 1, 0, 1, 0, 0] body60) (subc [1, 1, 0, 1, 0, 1] body60)
noncomputable abbrev c60_11 : RC := .block 0 c60_10
noncomputable abbrev c60_12 : RC := .seq c60_2 c60_11
noncomputable abbrev c60_13 : RC := .ops [oV 26 (rload false 1 (T 5)),
  oV 4 (rmv (T 26))]
noncomputable abbrev c60_14 : RC := .seq c60_13 .ret
noncomputable abbrev c60_15 : RC := .seq c60_12 c60_14
noncomputable abbrev c60_16 : RC := .seq c60_1 c60_15
noncomputable abbrev c60_17 : RC := .seq c60_0 c60_16
theorem fn60 : env.fn 60 = some ⟨27, [.tmp 4], body60⟩ := by kernel_rfl
theorem comp60 : comp env body60 = c60_17 := by kernel_rfl
theorem piece60_1 : comp env (subc [1, 1, 0, 1, 0, 0] body60) = c60_3 := by kernel_rfl
theorem piece60_2 : comp env (subc [1, 1, 0, 1, 0, 1] body60) = c60_9 := by kernel_rfl
noncomputable def body61 : Code := match Tryz.f61.body with | some c => c | none => .skip
noncomputable abbrev c61_0 : RC := .ops [oV 4 (rmv (K 0))]
noncomputable abbrev c61_1 : RC := .ops [oV 5 (rmv (T 0)),
  oV 6 (rnil (T 5)),
  oV 7 (rfaddr 0 (T 6)),
  oV 8 (rmv (T 1)),
  oC 9 (.func 123) [(T 7), (T 8)],
  oV 4 (rmv (T 9))]
noncomputable abbrev c61_2 : RC := .seq c61_1 .ret
noncomputable abbrev c61_3 : RC := .seq c61_0 c61_2
theorem fn61 : env.fn 61 = some ⟨10, [.tmp 4], body61⟩ := by kernel_rfl
theorem comp61 : comp env body61 = c61_3 := by kernel_rfl
noncomputable def body65 : Code := match Tryz.f65.body with | some c => c | none => .skip
noncomputable abbrev c65_0 : RC := .ops [oV 2 (rmv (K 0)),
  oV 3 (rmv (K 0))]
noncomputable abbrev c65_1 : RC := .ops [oV 4 (rmv (T 0)),
  oC 5 (.func 59) [(T 4)]]
noncomputable abbrev c65_2 : RC := .ops [oV 2 (rmv (K 0)),
  oV 3 (rmv (K 0))]
noncomputable abbrev c65_3 : RC := .seq c65_2 .ret
noncomputable abbrev c65_4 : RC := .cond (rX 5) c65_3 .skip
noncomputable abbrev c65_5 : RC := .seq c65_1 c65_4
noncomputable abbrev c65_6 : RC := .drawn true [dV 6 (rmv (T 0)),
  dV 7 (rnil (T 6)),
  dV 8 (rfaddr 4 (T 7)),
  dV 10 (rmv (T 0)),
  dV 11 (rnil (T 10)),
  dV 12 (rfaddr 5 (T 11)),
  dC true 9 (.func 70) [(T 8)],
  dC true 13 (.func 70) [(T 12)],
  dV 2 (rmv (T 9)),
  dV 3 (rmv (T 13))]
noncomputable abbrev c65_7 : RC := .seq c65_6 .ret
noncomputable abbrev c65_8 : RC := .seq c65_5 c65_7
noncomputable abbrev c65_9 : RC := .seq c65_0 c65_8
theorem fn65 : env.fn 65 = some ⟨14, [.tmp 2, .tmp 3], body65⟩ := by kernel_rfl
theorem comp65 : comp env body65 = c65_9 := by kernel_rfl
noncomputable def body66 : Code := match Tryz.f66.body with | some c => c | none => .skip
noncomputable abbrev c66_0 : RC := .ops [oU 1 (rbox (T 0)),
  oU 2 (rnew [.v (.int .i64 0), .v (.int .i64 0), .v (.string ⟨#[]⟩), .v (.int .i64 0), .v (.int .i64 0), .lst .full 0 0 [], .lst .full 0 0 []])]
noncomputable abbrev c66_1 : RC := .ops [oV 3 (rfaddr 3 (T 1)),
  oV 4 (rfaddr 2 (T 3)),
  oV 5 (rload false 1 (T 4)),
  oC 6 (.func 124) [(T 5)],
  oV 7 (rfaddr 3 (T 1)),
  oV 8 (rfaddr 2 (T 7)),
  oS (rstore 1 (T 8) (T 6))]
noncomputable abbrev c66_2 : RC := .ops [oV 9 (rfaddr 6 (T 1)),
  oV 10 (rload false 1 (T 9)),
  oC 11 (.func 125) [(T 10)],
  oV 12 (rfaddr 6 (T 1)),
  oS (rstore 1 (T 12) (T 11))]
noncomputable abbrev c66_3 : RC := .ops [oV 13 (rload true 7 (T 1)),
  oS (rstore 7 (T 2) (T 13))]
noncomputable abbrev c66_4 : RC := .seq c66_3 .ret
noncomputable abbrev c66_5 : RC := .seq c66_2 c66_4
noncomputable abbrev c66_6 : RC := .seq c66_1 c66_5
noncomputable abbrev c66_7 : RC := .seq c66_0 c66_6
theorem fn66 : env.fn 66 = some ⟨14, [.cell 2 39], body66⟩ := by kernel_rfl
theorem comp66 : comp env body66 = c66_7 := by kernel_rfl
noncomputable def body67 : Code := match Tryz.f67.body with | some c => c | none => .skip
noncomputable abbrev c67_0 : RC := .ops [oV 5 (rmv (T 0)),
  oC 6 (.func 70) [(T 5)],
  oV 4 (rmv (T 6))]
noncomputable abbrev c67_1 : RC := .ops [oV 7 (rmv (T 4)),
  oV 8 (rmv (T 1)),
  oV 9 (rbin env .geq 2 false false (T 7) (T 8)),
  oV 10 (rmv (T 9)),
  oG 11 10 false (rmv (T 0)),
  oG 12 10 false (rmv (T 4)),
  oG 13 10 false (rmv (T 1)),
  oCG 14 10 false (.func 126) [(T 11), (T 12), (T 13)],
  oV 15 (rpick (T 10) (.const (.bool true)) (T 14))]
noncomputable abbrev c67_2 : RC := .cond (rX 15) .ret .skip
noncomputable abbrev c67_3 : RC := .seq c67_1 c67_2
noncomputable abbrev c67_4 : RC := .seq c67_0 c67_3
noncomputable abbrev c67_5 : RC := .block 1 c67_4
noncomputable abbrev c67_6 : RC := .loop c67_5
noncomputable abbrev c67_7 : RC := .block 0 c67_6
theorem fn67 : env.fn 67 = some ⟨16, [], body67⟩ := by kernel_rfl
theorem comp67 : comp env body67 = c67_7 := by kernel_rfl
noncomputable def body69 : Code := match Tryz.f69.body with | some c => c | none => .skip
noncomputable abbrev c69_0 : RC := .ops [oU 2 (rbox (T 0)),
  oU 3 (rbox (T 1)),
  oV 4 (rmv (.const (.bool false)))]
noncomputable abbrev c69_1 : RC := .ops [oV 5 (rfaddr 0 (T 2)),
  oV 6 (rload false 1 (T 5)),
  oV 7 (rfaddr 0 (T 3)),
  oV 8 (rload false 1 (T 7)),
  oV 9 (rbin env .eql 3 false false (T 6) (T 8)),
  oV 10 (rmv (T 9)),
  oG 11 10 true (rfaddr 1 (T 2)),
  oG 12 10 true (rload false 1 (T 11)),
  oG 13 10 true (rfaddr 1 (T 3)),
  oG 14 10 true (rload false 1 (T 13)),
  oG 15 10 true (rbin env .eql 3 false false (T 12) (T 14)),
  oV 16 (rpick (T 10) (T 15) (.const (.bool false))),
  oV 17 (rmv (T 16)),
  oG 18 17 true (rfaddr 2 (T 2)),
  oG 19 17 true (rload false 1 (T 18)),
  oG 20 17 true (rfaddr 2 (T 3)),
  oG 21 17 true (rload false 1 (T 20)),
  oCG 22 17 true (.func 41) [(T 19), (T 21)],
  oV 23 (rpick (T 17) (T 22) (.const (.bool false))),
  oV 4 (rmv (T 23))]
noncomputable abbrev c69_2 : RC := .seq c69_1 .ret
noncomputable abbrev c69_3 : RC := .seq c69_0 c69_2
theorem fn69 : env.fn 69 = some ⟨24, [.tmp 4], body69⟩ := by kernel_rfl
theorem comp69 : comp env body69 = c69_3 := by kernel_rfl
noncomputable def body70 : Code := match Tryz.f70.body with | some c => c | none => .skip
noncomputable abbrev c70_0 : RC := .ops [oV 2 (rmv (K 0))]
noncomputable abbrev c70_1 : RC := .ops [oV 3 (rmv (T 0)),
  oV 4 (rnil (T 3)),
  oV 5 (rfaddr 0 (T 4)),
  oC 6 (.func 127) [(T 5)],
  oV 2 (rmv (T 6))]
noncomputable abbrev c70_2 : RC := .seq c70_1 .ret
noncomputable abbrev c70_3 : RC := .seq c70_0 c70_2
theorem fn70 : env.fn 70 = some ⟨7, [.tmp 2], body70⟩ := by kernel_rfl
theorem comp70 : comp env body70 = c70_3 := by kernel_rfl
noncomputable def body71 : Code := match Tryz.f71.body with | some c => c | none => .skip
noncomputable abbrev c71_0 : RC := .ops [oU 1 (rbox (T 0)),
  oV 2 (rmv (.const (.nilFunc)))]
noncomputable abbrev c71_1 : RC := .ops [oV 3 (rfn 128 [] [(T 1)]),
  oV 2 (rmv (T 3))]
noncomputable abbrev c71_2 : RC := .seq c71_1 .ret
noncomputable abbrev c71_3 : RC := .seq c71_0 c71_2
theorem fn71 : env.fn 71 = some ⟨4, [.tmp 2], body71⟩ := by kernel_rfl
theorem comp71 : comp env body71 = c71_3 := by kernel_rfl
noncomputable def body72 : Code := match Tryz.f72.body with | some c => c | none => .skip
noncomputable abbrev c72_0 : RC := .ops [oU 1 (rbox (T 0)),
  oV 2 (rmv (.const (.bool false)))]
noncomputable abbrev c72_1 : RC := .ops [oV 3 (rfaddr 2 (T 1)),
  oV 4 (rload false 1 (T 3)),
  oV 5 (rlen (T 4)),
  oV 6 (rbin env .gtr 3 false true (T 5) (K 1200)),
  oV 2 (rmv (T 6))]
noncomputable abbrev c72_2 : RC := .seq c72_1 .ret
noncomputable abbrev c72_3 : RC := .seq c72_0 c72_2
theorem fn72 : env.fn 72 = some ⟨7, [.tmp 2], body72⟩ := by kernel_rfl
theorem comp72 : comp env body72 = c72_3 := by kernel_rfl
noncomputable def body79 : Code := match Tryz.f79.body with | some c => c | none => .skip
noncomputable abbrev c79_0 : RC := .ops [oU 1 (rbox (T 0)),
  oV 2 (rmv (.const (.slice none 0 0))),
  oV 3 (rmv (K 0))]
noncomputable abbrev c79_1 : RC := .ops [oV 6 (rload true 3 (T 1)),
  oC 7 (.func 136) [(T 6)],
  oV 4 (rmv (T 7))]
noncomputable abbrev c79_2 : RC := .ops [oV 8 (rmv (T 4)),
  oV 9 (rbin env .neq 26 false true (T 8) (K 0))]
noncomputable abbrev c79_3 : RC := .ops [oV 10 (rmv (T 4)),
  oV 2 (rmv (.const (.slice none 0 0))),
  oV 3 (rmv (T 10))]
noncomputable abbrev c79_4 : RC := .seq c79_3 .ret
noncomputable abbrev c79_5 : RC := .cond (rX 9) c79_4 .skip
noncomputable abbrev c79_6 : RC := .seq c79_2 c79_5
noncomputable abbrev c79_7 : RC := .seq c79_1 c79_6
noncomputable abbrev c79_8 : RC := .ops [oC 11 (.func 81) [],
  oV 5 (rmv (T 11))]
noncomputable abbrev c79_9 : RC := .ops [oV 12 (rmv (T 5)),
  oV 13 (rfaddr 0 (T 1)),
  oV 14 (rload false 1 (T 13)),
  oC 15 (.func 82) [(T 12), (T 14)]]
noncomputable abbrev c79_10 : RC := .ops [oV 16 (rmv (T 5)),
  oV 17 (rfaddr 1 (T 1)),
  oV 18 (rload false 1 (T 17)),
  oC 19 (.func 82) [(T 16), (T 18)]]
noncomputable abbrev c79_11 : RC := .ops [oV 20 (rmv (T 5)),
  oV 21 (rfaddr 2 (T 1)),
  oV 22 (rload false 1 (T 21)),
  oC 23 (.func 84) [(T 20), (T 22)]]
noncomputable abbrev c79_12 : RC := .ops [oV 24 (rmv (T 5)),
  oC 25 (.func 85) [(T 24)],
  oV 26 (rext (T 25) 0),
  oV 27 (rext (T 25) 1),
  oV 2 (rmv (T 26)),
  oV 3 (rmv (T 27))]
noncomputable abbrev c79_13 : RC := .seq c79_12 .ret
noncomputable abbrev c79_14 : RC := .seq c79_11 c79_13
noncomputable abbrev c79_15 : RC := .seq c79_10 c79_14
noncomputable abbrev c79_16 : RC := .seq c79_9 c79_15
noncomputable abbrev c79_17 : RC := .seq c79_8 c79_16
noncomputable abbrev c79_18 : RC := .seq c79_7 c79_17
noncomputable abbrev c79_19 : RC := .seq c79_0 c79_18
theorem fn79 : env.fn 79 = some ⟨28, [.tmp 2, .tmp 3], body79⟩ := by kernel_rfl
theorem comp79 : comp env body79 = c79_19 := by kernel_rfl
noncomputable def body80 : Code := match Tryz.f80.body with | some c => c | none => .skip
noncomputable abbrev c80_0 : RC := .ops [oV 2 (rmv (.const (.slice none 0 0))),
  oV 3 (rmv (K 0))]
noncomputable abbrev c80_1 : RC := .ops [oV 8 (rmv (T 0)),
  oC 9 (.func 131) [(T 8)],
  oV 4 (rmv (T 9))]
noncomputable abbrev c80_2 : RC := .ops [oV 10 (rmv (T 4)),
  oV 11 (rbin env .neq 26 false true (T 10) (K 0))]
noncomputable abbrev c80_3 : RC := .ops [oV 12 (rmv (T 4)),
  oV 2 (rmv (.const (.slice none 0 0))),
  oV 3 (rmv (T 12))]
noncomputable abbrev c80_4 : RC := .seq c80_3 .ret
noncomputable abbrev c80_5 : RC := .cond (rX 11) c80_4 .skip
noncomputable abbrev c80_6 : RC := .seq c80_2 c80_5
noncomputable abbrev c80_7 : RC := .seq c80_1 c80_6
noncomputable abbrev c80_8 : RC := .ops [oV 13 (rmv (T 0)),
  oV 14 (rlen (T 13)),
  oC 15 (.func 137) [(T 14)],
  oV 16 (rsliceL 1 (T 15) (some (K 2)) none none),
  oV 5 (rmv (T 16))]
noncomputable abbrev c80_9 : RC := .ops [oV 17 (rmv (T 0)),
  oV 18 (rlen (T 17)),
  oV 19 (rmv (K 0))]
noncomputable abbrev c80_10 : RC := .ops [oV 20 (rbin env .lss 3 false false (T 19) (T 18))]
noncomputable abbrev c80_11 : RC := .cond (rX 20) .skip (.exit 0)
noncomputable abbrev c80_12 : RC := .ops [oV 21 (riaddr 3 (T 17) (T 19)),
  oV 22 (rload true 3 (T 21)),
  oU 7 (rnew [.v (.int .i64 0), .v (.int .i64 0), .v (.int .i64 0)]),
  oS (rstore 3 (T 7) (T 22))]
noncomputable abbrev c80_13 : RC := .drawn true [dV 23 (rmv (T 5)),
  dV 24 (rfaddr 0 (T 7)),
  dV 25 (rload false 1 (T 24)),
  dU 26 (rconvI .u8 (T 25)),
  dU 27 (rbuildL 1 1 [.v (.int .u8 0)] [(0, (T 26))]),
  dV 28 (rfaddr 1 (T 7)),
  dV 29 (rload false 1 (T 28)),
  dV 31 (rfaddr 2 (T 7)),
  dV 32 (rload false 1 (T 31)),
  dC false 30 (.func 137) [(T 29)],
  dC false 33 (.func 137) [(T 32)],
  dU 34 (rbuildL 1 4 [.lst .full 0 0 [], .lst .full 0 0 [], .lst .full 0 0 [], .lst .full 0 0 []] [(0, (T 23)), (1, (T 27)), (2, (T 30)), (3, (T 33))]),
  dC true 35 (.func 138) [(T 34)],
  dV 5 (rmv (T 35))]
noncomputable abbrev c80_14 : RC := .seq c80_12 c80_13
noncomputable abbrev c80_15 : RC := .block 1 c80_14
noncomputable abbrev c80_16 : RC := .ops [oV 36 (rbin env .add 3 false true (T 19) (K 1)),
  oV 19 (rmv (T 36))]
noncomputable abbrev c80_17 : RC := .seq c80_15 c80_16
noncomputable abbrev c80_18 : RC := .seq c80_11 c80_17
noncomputable abbrev c80_19 : RC := .seq c80_10 c80_18
noncomputable abbrev c80_20 : RC := .loop c80_19
noncomputable abbrev c80_21 : RC := .block 0 c80_20
noncomputable abbrev c80_22 : RC := .seq c80_9 c80_21
noncomputable abbrev c80_23 : RC := .ops [oV 37 (rmv (T 5)),
  oV 2 (rmv (T 37)),
  oV 3 (rmv (K 0))]
noncomputable abbrev c80_24 : RC := .seq c80_23 .ret
noncomputable abbrev c80_25 : RC := .seq c80_22 c80_24
noncomputable abbrev c80_26 : RC := .seq c80_8 c80_25
noncomputable abbrev c80_27 : RC := .seq c80_7 c80_26
noncomputable abbrev c80_28 : RC := .seq c80_0 c80_27
theorem fn80 : env.fn 80 = some ⟨38, [.tmp 2, .tmp 3], body80⟩ := by kernel_rfl
theorem comp80 : comp env body80 = c80_28 := by kernel_rfl
noncomputable def body81 : Code := match Tryz.f81.body with | some c => c | none => .skip
noncomputable abbrev c81_0 : RC := .ops [oV 0 (rmv (.const (.pointer none)))]
noncomputable abbrev c81_1 : RC := .ops [oV 1 (rbuild [.v (.bool false), .lst .full 0 0 [], .v (.int .i64 0)] [(0, 1), (1, 1), (2, 1)] [(0, (.const (.bool true)))]),
  oU 2 (rbox (T 1)),
  oV 0 (rmv (T 2))]
noncomputable abbrev c81_2 : RC := .seq c81_1 .ret
noncomputable abbrev c81_3 : RC := .seq c81_0 c81_2
theorem fn81 : env.fn 81 = some ⟨3, [.tmp 0], body81⟩ := by kernel_rfl
theorem comp81 : comp env body81 = c81_3 := by kernel_rfl
noncomputable def body82 : Code := match Tryz.f82.body with | some c => c | none => .skip
noncomputable abbrev c82_0 : RC := .ops [oV 4 (rmv (T 0)),
  oV 5 (rbin env .eql 112 false true (T 4) (.const (.pointer none))),
  oV 6 (rmv (T 5)),
  oG 7 6 false (rmv (T 0)),
  oG 8 6 false (rnil (T 7)),
  oG 9 6 false (rfaddr 0 (T 8)),
  oG 10 6 false (rload false 1 (T 9)),
  oG 11 6 false (run' .not (T 10)),
  oV 12 (rpick (T 6) (.const (.bool true)) (T 11)),
  oV 13 (rmv (T 12)),
  oG 14 13 false (rmv (T 0)),
  oG 15 13 false (rnil (T 14)),
  oG 16 13 false (rfaddr 2 (T 15)),
  oG 17 13 false (rload false 1 (T 16)),
  oG 18 13 false (rbin env .neq 26 false true (T 17) (K 0)),
  oV 19 (rpick (T 13) (.const (.bool true)) (T 18))]
noncomputable abbrev c82_1 : RC := .cond (rX 19) .ret .skip
noncomputable abbrev c82_2 : RC := .seq c82_0 c82_1
noncomputable abbrev c82_3 : RC := .ops [oV 20 (rmv (T 1)),
  oV 21 (rbin env .lss 3 false true (T 20) (K 0)),
  oV 22 (rmv (T 21)),
  oG 23 22 false (rmv (T 1)),
  oG 24 22 false (rbin env .gtr 3 false true (T 23) (K 4611686018427387903)),
  oV 25 (rpick (T 22) (.const (.bool true)) (T 24))]
noncomputable abbrev c82_4 : RC := .ops [oV 26 (rmv (T 0)),
  oV 27 (rnil (T 26)),
  oV 28 (rfaddr 2 (T 27)),
  oS (rstore 1 (T 28) (K 5))]
noncomputable abbrev c82_5 : RC := .seq c82_4 .ret
noncomputable abbrev c82_6 : RC := .cond (rX 25) c82_5 .skip
noncomputable abbrev c82_7 : RC := .seq c82_3 c82_6
noncomputable abbrev c82_8 : RC := .ops [oV 29 (rmv (T 0)),
  oV 30 (rmv (T 1)),
  oC 31 (.func 140) [(T 30)],
  oU 32 (rbuildL 1 1 [.lst .full 0 0 []] [(0, (T 31))]),
  oC 33 (.func 139) [(T 29), (T 32)]]
noncomputable abbrev c82_9 : RC := .seq c82_7 c82_8
noncomputable abbrev c82_10 : RC := .seq c82_2 c82_9
theorem fn82 : env.fn 82 = some ⟨34, [], body82⟩ := by kernel_rfl
theorem comp82 : comp env body82 = c82_10 := by kernel_rfl
noncomputable def body83 : Code := match Tryz.f83.body with | some c => c | none => .skip
noncomputable abbrev c83_0 : RC := .ops [oV 4 (rmv (T 0)),
  oV 5 (rmv (T 1)),
  oU 6 (rbytes (T 5)),
  oC 7 (.func 84) [(T 4), (T 6)]]
theorem fn83 : env.fn 83 = some ⟨8, [], body83⟩ := by kernel_rfl
theorem comp83 : comp env body83 = c83_0 := by kernel_rfl
noncomputable def body84 : Code := match Tryz.f84.body with | some c => c | none => .skip
noncomputable abbrev c84_0 : RC := .ops [oV 5 (rmv (T 0)),
  oV 6 (rfn 139 [(T 5)] []),
  oV 4 (rmv (T 6))]
noncomputable abbrev c84_1 : RC := .ops [oV 7 (rmv (T 4)),
  oV 8 (rmv (T 1)),
  oV 9 (rlen (T 8)),
  oC 10 (.func 140) [(T 9)],
  oV 11 (rmv (T 1)),
  oU 12 (rbuildL 1 2 [.lst .full 0 0 [], .lst .full 0 0 []] [(0, (T 10)), (1, (T 11))]),
  oC 13 (T 7) [(T 12)]]
noncomputable abbrev c84_2 : RC := .seq c84_0 c84_1
theorem fn84 : env.fn 84 = some ⟨14, [], body84⟩ := by kernel_rfl
theorem comp84 : comp env body84 = c84_2 := by kernel_rfl
noncomputable def body85 : Code := match Tryz.f85.body with | some c => c | none => .skip
noncomputable abbrev c85_0 : RC := .ops [oV 2 (rmv (.const (.slice none 0 0))),
  oV 3 (rmv (K 0))]
noncomputable abbrev c85_1 : RC := .ops [oV 5 (rmv (T 0)),
  oV 6 (rbin env .eql 112 false true (T 5) (.const (.pointer none))),
  oV 7 (rmv (T 6)),
  oG 8 7 false (rmv (T 0)),
  oG 9 7 false (rnil (T 8)),
  oG 10 7 false (rfaddr 0 (T 9)),
  oG 11 7 false (rload false 1 (T 10)),
  oG 12 7 false (run' .not (T 11)),
  oV 13 (rpick (T 7) (.const (.bool true)) (T 12)),
  oV 4 (rmv (T 13))]
noncomputable abbrev c85_2 : RC := .ops [oV 2 (rmv (.const (.slice none 0 0))),
  oV 3 (rmv (K 1))]
noncomputable abbrev c85_3 : RC := .seq c85_2 .ret
noncomputable abbrev c85_4 : RC := .ops [oV 15 (rmv (T 0)),
  oV 16 (rnil (T 15)),
  oV 17 (rfaddr 2 (T 16)),
  oV 18 (rload false 1 (T 17)),
  oV 19 (rbin env .neq 26 false true (T 18) (K 0)),
  oV 14 (rmv (T 19))]
noncomputable abbrev c85_5 : RC := .drawn true [dV 20 (rmv (T 0)),
  dV 21 (rnil (T 20)),
  dV 22 (rfaddr 2 (T 21)),
  dV 23 (rload false 1 (T 22)),
  dV 2 (rmv (.const (.slice none 0 0))),
  dV 3 (rmv (T 23))]
noncomputable abbrev c85_6 : RC := .seq c85_5 .ret
noncomputable abbrev c85_7 : RC := .cond (rX 14) c85_6 .skip
noncomputable abbrev c85_8 : RC := .seq c85_4 c85_7
noncomputable abbrev c85_9 : RC := .cond (rX 4) c85_3 c85_8
noncomputable abbrev c85_10 : RC := .seq c85_1 c85_9
noncomputable abbrev c85_11 : RC := .block 0 c85_10
noncomputable abbrev c85_12 : RC := .ops [oV 24 (rmv (T 0)),
  oV 25 (rnil (T 24)),
  oV 26 (rfaddr 1 (T 25)),
  oV 27 (rload false 1 (T 26)),
  oC 28 (.func 141) [(T 27)],
  oV 2 (rmv (T 28)),
  oV 3 (rmv (K 0))]
noncomputable abbrev c85_13 : RC := .seq c85_12 .ret
noncomputable abbrev c85_14 : RC := .seq c85_11 c85_13
noncomputable abbrev c85_15 : RC := .seq c85_0 c85_14
theorem fn85 : env.fn 85 = some ⟨29, [.tmp 2, .tmp 3], body85⟩ := by kernel_rfl
theorem comp85 : comp env body85 = c85_15 := by kernel_rfl
noncomputable def body92 : Code := match Tryz.f92.body with | some c => c | none => .skip
noncomputable abbrev c92_0 : RC := .ops [oU 1 (rbox (T 0)),
  oV 2 (rmv (.const (.bool false)))]
noncomputable abbrev c92_1 : RC := .ops [oV 3 (rfaddr 0 (T 1)),
  oV 4 (rfaddr 0 (T 3)),
  oV 5 (rload true 2 (T 4)),
  oC 6 (.func 132) [(T 5)],
  oV 7 (rbin env .eql 26 false true (T 6) (K 0)),
  oV 2 (rmv (T 7))]
noncomputable abbrev c92_2 : RC := .seq c92_1 .ret
noncomputable abbrev c92_3 : RC := .seq c92_0 c92_2
theorem fn92 : env.fn 92 = some ⟨8, [.tmp 2], body92⟩ := by kernel_rfl
theorem comp92 : comp env body92 = c92_3 := by kernel_rfl
noncomputable def body93 : Code := match Tryz.f93.body with | some c => c | none => .skip
noncomputable abbrev c93_0 : RC := .ops [oU 1 (rbox (T 0)),
  oV 2 (rmv (.const (.bool false)))]
noncomputable abbrev c93_1 : RC := .ops [oV 3 (rfaddr 0 (T 1)),
  oV 4 (rfaddr 2 (T 3)),
  oV 5 (rload false 1 (T 4)),
  oC 6 (.func 144) [(T 5)],
  oV 7 (rbin env .eql 26 false true (T 6) (K 0)),
  oV 2 (rmv (T 7))]
noncomputable abbrev c93_2 : RC := .seq c93_1 .ret
noncomputable abbrev c93_3 : RC := .seq c93_0 c93_2
theorem fn93 : env.fn 93 = some ⟨8, [.tmp 2], body93⟩ := by kernel_rfl
theorem comp93 : comp env body93 = c93_3 := by kernel_rfl
noncomputable def body94 : Code := match Tryz.f94.body with | some c => c | none => .skip
noncomputable abbrev c94_0 : RC := .ops [oU 1 (rbox (T 0)),
  oV 2 (rmv (.const (.bool false)))]
noncomputable abbrev c94_1 : RC := .ops [oV 3 (rfaddr 0 (T 1)),
  oV 4 (rfaddr 3 (T 3)),
  oV 5 (rload true 3 (T 4)),
  oC 6 (.func 136) [(T 5)],
  oV 7 (rbin env .eql 26 false true (T 6) (K 0)),
  oV 2 (rmv (T 7))]
noncomputable abbrev c94_2 : RC := .seq c94_1 .ret
noncomputable abbrev c94_3 : RC := .seq c94_0 c94_2
theorem fn94 : env.fn 94 = some ⟨8, [.tmp 2], body94⟩ := by kernel_rfl
theorem comp94 : comp env body94 = c94_3 := by kernel_rfl
noncomputable def body95 : Code := match Tryz.f95.body with | some c => c | none => .skip
noncomputable abbrev c95_0 : RC := .ops [oU 1 (rbox (T 0)),
  oV 2 (rmv (.const (.bool false)))]
noncomputable abbrev c95_1 : RC := .ops [oV 3 (rfaddr 0 (T 1)),
  oV 4 (rfaddr 6 (T 3)),
  oV 5 (rload false 1 (T 4)),
  oC 6 (.func 131) [(T 5)],
  oV 7 (rbin env .eql 26 false true (T 6) (K 0)),
  oV 2 (rmv (T 7))]
noncomputable abbrev c95_2 : RC := .seq c95_1 .ret
noncomputable abbrev c95_3 : RC := .seq c95_0 c95_2
theorem fn95 : env.fn 95 = some ⟨8, [.tmp 2], body95⟩ := by kernel_rfl
theorem comp95 : comp env body95 = c95_3 := by kernel_rfl
noncomputable def body96 : Code := match Tryz.f96.body with | some c => c | none => .skip
noncomputable abbrev c96_0 : RC := .ops [oU 1 (rbox (T 0)),
  oV 2 (rmv (.const (.bool false)))]
noncomputable abbrev c96_1 : RC := .drawn true [dV 3 (rfaddr 0 (T 1)),
  dV 4 (rfaddr 6 (T 3)),
  dV 5 (rload false 1 (T 4)),
  dV 6 (rfaddr 0 (T 1)),
  dV 7 (rfaddr 0 (T 6)),
  dV 8 (rfaddr 0 (T 7)),
  dV 9 (rload false 1 (T 8)),
  dV 11 (rfaddr 0 (T 1)),
  dV 12 (rfaddr 0 (T 11)),
  dV 13 (rfaddr 1 (T 12)),
  dV 14 (rload false 1 (T 13)),
  dC false 10 (.func 145) [(T 5), (T 9)],
  dV 15 (rbin env .lss 3 false false (T 10) (T 14)),
  dV 2 (rmv (T 15))]
noncomputable abbrev c96_2 : RC := .seq c96_1 .ret
noncomputable abbrev c96_3 : RC := .seq c96_0 c96_2
theorem fn96 : env.fn 96 = some ⟨16, [.tmp 2], body96⟩ := by kernel_rfl
theorem comp96 : comp env body96 = c96_3 := by kernel_rfl
noncomputable def body124 : Code := match Tryz.f124.body with | some c => c | none => .skip
noncomputable abbrev c124_0 : RC := .ops [oV 2 (rmv (.const (.slice none 0 0)))]
noncomputable abbrev c124_1 : RC := .ops [oV 3 (rmv (T 0)),
  oL 4 false (T 3)]
noncomputable abbrev c124_2 : RC := .ops [oV 2 (rmv (.const (.slice none 0 0)))]
noncomputable abbrev c124_3 : RC := .seq c124_2 .ret
noncomputable abbrev c124_4 : RC := .cond (rX 4) c124_3 .skip
noncomputable abbrev c124_5 : RC := .seq c124_1 c124_4
noncomputable abbrev c124_6 : RC := .ops [oU 5 (rbuildL 1 0 [] []),
  oV 6 (rmv (T 0)),
  oA 7 1 1 1 (T 5) (T 6),
  oV 2 (rmv (T 7))]
noncomputable abbrev c124_7 : RC := .seq c124_6 .ret
noncomputable abbrev c124_8 : RC := .seq c124_5 c124_7
noncomputable abbrev c124_9 : RC := .seq c124_0 c124_8
theorem fn124 : env.fn 124 = some ⟨8, [.tmp 2], body124⟩ := by kernel_rfl
theorem comp124 : comp env body124 = c124_9 := by kernel_rfl
noncomputable def body125 : Code := match Tryz.f125.body with | some c => c | none => .skip
noncomputable abbrev c125_0 : RC := .ops [oV 2 (rmv (.const (.slice none 0 0)))]
noncomputable abbrev c125_1 : RC := .ops [oV 3 (rmv (T 0)),
  oL 4 false (T 3)]
noncomputable abbrev c125_2 : RC := .ops [oV 2 (rmv (.const (.slice none 0 0)))]
noncomputable abbrev c125_3 : RC := .seq c125_2 .ret
noncomputable abbrev c125_4 : RC := .cond (rX 4) c125_3 .skip
noncomputable abbrev c125_5 : RC := .seq c125_1 c125_4
noncomputable abbrev c125_6 : RC := .ops [oU 5 (rbuildL 3 0 [] []),
  oV 6 (rmv (T 0)),
  oA 7 3 24 3 (T 5) (T 6),
  oV 2 (rmv (T 7))]
noncomputable abbrev c125_7 : RC := .seq c125_6 .ret
noncomputable abbrev c125_8 : RC := .seq c125_5 c125_7
noncomputable abbrev c125_9 : RC := .seq c125_0 c125_8
theorem fn125 : env.fn 125 = some ⟨8, [.tmp 2], body125⟩ := by kernel_rfl
theorem comp125 : comp env body125 = c125_9 := by kernel_rfl
noncomputable def body126 : Code := match Tryz.f126.body with | some c => c | none => .skip
noncomputable abbrev c126_0 : RC := .ops [oV 6 (rmv (.const (.bool false)))]
noncomputable abbrev c126_1 : RC := .ops [oV 7 (rmv (T 0)),
  oV 8 (rnil (T 7)),
  oV 9 (rfaddr 0 (T 8)),
  oV 10 (rmv (T 1)),
  oV 11 (rmv (T 2)),
  oC 12 (.func 157) [(T 9), (T 10), (T 11)],
  oV 6 (rmv (T 12))]
noncomputable abbrev c126_2 : RC := .seq c126_1 .ret
noncomputable abbrev c126_3 : RC := .seq c126_0 c126_2
theorem fn126 : env.fn 126 = some ⟨13, [.tmp 6], body126⟩ := by kernel_rfl
theorem comp126 : comp env body126 = c126_3 := by kernel_rfl
noncomputable def body128 : Code := match Tryz.f128.body with | some c => c | none => .skip
noncomputable abbrev c128_0 : RC := .ops [oV 4 (rload false 1 (T 1)),
  oV 5 (rnil (T 4)),
  oV 6 (rfaddr 3 (T 5)),
  oV 3 (rmv (T 6))]
noncomputable abbrev c128_1 : RC := .ops [oV 7 (rmv (T 0)),
  oV 8 (rmv (T 3)),
  oC 9 (T 7) [(T 8)],
  oV 10 (rmv (T 9)),
  oG 11 10 true (rmv (T 3)),
  oG 12 10 true (rnil (T 11)),
  oG 13 10 true (rload false 1 (T 12)),
  oG 14 10 true (rbin env .neq 80 false true (T 13) (.const (.pointer none))),
  oV 15 (rpick (T 10) (T 14) (.const (.bool false)))]
noncomputable abbrev c128_2 : RC := .cond (rX 15) .skip (.exit 0)
noncomputable abbrev c128_3 : RC := .seq c128_1 c128_2
noncomputable abbrev c128_4 : RC := .ops [oV 16 (rmv (T 3)),
  oV 17 (rnil (T 16)),
  oV 18 (rload false 1 (T 17)),
  oV 19 (rnil (T 18)),
  oV 20 (rfaddr 8 (T 19)),
  oV 3 (rmv (T 20))]
noncomputable abbrev c128_5 : RC := .block 1 c128_4
noncomputable abbrev c128_6 : RC := .seq c128_3 c128_5
noncomputable abbrev c128_7 : RC := .loop c128_6
noncomputable abbrev c128_8 : RC := .block 0 c128_7
noncomputable abbrev c128_9 : RC := .seq c128_0 c128_8
theorem fn128 : env.fn 128 = some ⟨21, [], body128⟩ := by kernel_rfl
theorem comp128 : comp env body128 = c128_9 := by kernel_rfl
noncomputable def body131 : Code := match Tryz.f131.body with | some c => c | none => .skip
noncomputable abbrev c131_0 : RC := .ops [oV 2 (rmv (K 0))]
noncomputable abbrev c131_1 : RC := .ops [oV 5 (rmv (T 0)),
  oV 6 (rlen (T 5)),
  oV 7 (rbin env .gtr 3 false true (T 6) (K 4000))]
noncomputable abbrev c131_2 : RC := .ops [oV 2 (rmv (K 2))]
noncomputable abbrev c131_3 : RC := .seq c131_2 .ret
noncomputable abbrev c131_4 : RC := .cond (rX 7) c131_3 .skip
noncomputable abbrev c131_5 : RC := .seq c131_1 c131_4
noncomputable abbrev c131_6 : RC := .ops [oV 8 (rmv (T 0)),
  oV 9 (rlen (T 8)),
  oV 10 (rmv (K 0))]
noncomputable abbrev c131_7 : RC := .ops [oV 11 (rbin env .lss 3 false false (T 10) (T 9))]
noncomputable abbrev c131_8 : RC := .cond (rX 11) .skip (.exit 0)
noncomputable abbrev c131_9 : RC := .ops [oV 12 (rmv (T 10)),
  oV 13 (riaddr 3 (T 8) (T 10)),
  oV 14 (rload true 3 (T 13)),
  oU 4 (rnew [.v (.int .i64 0), .v (.int .i64 0), .v (.int .i64 0)]),
  oV 3 (rmv (T 12)),
  oS (rstore 3 (T 4) (T 14))]
noncomputable abbrev c131_10 : RC := .ops [oV 16 (rfaddr 0 (T 4)),
  oV 17 (rload false 1 (T 16)),
  oV 18 (rbin env .lss 3 false true (T 17) (K 1)),
  oV 19 (rmv (T 18)),
  oG 20 19 false (rfaddr 0 (T 4)),
  oG 21 19 false (rload false 1 (T 20)),
  oG 22 19 false (rbin env .gtr 3 false true (T 21) (K 200)),
  oV 23 (rpick (T 19) (.const (.bool true)) (T 22)),
  oV 24 (rmv (T 23)),
  oG 25 24 false (rfaddr 1 (T 4)),
  oG 26 24 false (rload false 1 (T 25)),
  oG 27 24 false (rbin env .lss 3 false true (T 26) (K 1)),
  oV 28 (rpick (T 24) (.const (.bool true)) (T 27)),
  oV 29 (rmv (T 28)),
  oG 30 29 false (rfaddr 1 (T 4)),
  oG 31 29 false (rload false 1 (T 30)),
  oG 32 29 false (rfaddr 2 (T 4)),
  oG 33 29 false (rload false 1 (T 32)),
  oG 34 29 false (rbin env .gtr 3 false false (T 31) (T 33)),
  oV 35 (rpick (T 29) (.const (.bool true)) (T 34)),
  oV 36 (rmv (T 35)),
  oG 37 36 false (rfaddr 2 (T 4)),
  oG 38 36 false (rload false 1 (T 37)),
  oG 39 36 false (rbin env .gtr 3 false true (T 38) (K 2147483647)),
  oV 40 (rpick (T 36) (.const (.bool true)) (T 39)),
  oV 15 (rmv (T 40))]
noncomputable abbrev c131_11 : RC := .ops [oV 2 (rmv (K 2))]
noncomputable abbrev c131_12 : RC := .seq c131_11 .ret
noncomputable abbrev c131_13 : RC := .drawn true [dV 42 (rmv (T 3)),
  dV 43 (rbin env .gtr 3 false true (T 42) (K 0)),
  dV 44 (rmv (T 43)),
  dG 45 44 true (rfaddr 0 (T 4)),
  dG 46 44 true (rload false 1 (T 45)),
  dG 47 44 true (rmv (T 0)),
  dG 48 44 true (rmv (T 3)),
  dG 49 44 true (rbin env .sub 3 false true (T 48) (K 1)),
  dG 50 44 true (riaddr 3 (T 47) (T 49)),
  dG 51 44 true (rfaddr 0 (T 50)),
  dG 52 44 true (rload false 1 (T 51)),
  dG 53 44 true (rbin env .lss 3 false false (T 46) (T 52)),
  dG 54 44 true (rmv (T 53)),
  dG 55 54 false (rfaddr 0 (T 4)),
  dG 56 54 false (rload false 1 (T 55)),
  dG 57 54 false (rmv (T 0)),
  dG 58 54 false (rmv (T 3)),
  dG 59 54 false (rbin env .sub 3 false true (T 58) (K 1)),
  dG 60 54 false (riaddr 3 (T 57) (T 59)),
  dG 61 54 false (rfaddr 0 (T 60)),
  dG 62 54 false (rload false 1 (T 61)),
  dG 63 54 false (rbin env .eql 3 false false (T 56) (T 62)),
  dG 64 54 false (rmv (T 63)),
  dG 65 64 true (rfaddr 1 (T 4)),
  dG 66 64 true (rload false 1 (T 65)),
  dG 67 64 true (rmv (T 0)),
  dG 68 64 true (rmv (T 3)),
  dG 69 64 true (rbin env .sub 3 false true (T 68) (K 1)),
  dG 70 64 true (riaddr 3 (T 67) (T 69)),
  dG 71 64 true (rfaddr 2 (T 70)),
  dG 72 64 true (rload false 1 (T 71)),
  dG 73 64 true (rbin env .add 3 false true (T 72) (K 1)),
  dG 74 64 true (rbin env .leq 3 false false (T 66) (T 73)),
  dG 75 54 false (rpick (T 64) (T 74) (.const (.bool false))),
  dG 76 44 true (rpick (T 54) (.const (.bool true)) (T 75)),
  dV 77 (rpick (T 44) (T 76) (.const (.bool false))),
  dV 41 (rmv (T 77))]
noncomputable abbrev c131_14 : RC := .ops [oV 2 (rmv (K 2))]
noncomputable abbrev c131_15 : RC := .seq c131_14 .ret
noncomputable abbrev c131_16 : RC := .cond (rX 41) c131_15 .skip
noncomputable abbrev c131_17 : RC := .seq c131_13 c131_16
noncomputable abbrev c131_18 : RC := .cond (rX 15) c131_12 c131_17
noncomputable abbrev c131_19 : RC := .seq c131_10 c131_18
noncomputable abbrev c131_20 : RC := .block 2 c131_19
noncomputable abbrev c131_21 : RC := .seq c131_9 c131_20
noncomputable abbrev c131_22 : RC := .block 1 c131_21
noncomputable abbrev c131_23 : RC := .ops [oV 78 (rbin env .add 3 false true (T 10) (K 1)),
  oV 10 (rmv (T 78))]
noncomputable abbrev c131_24 : RC := .seq c131_22 c131_23
noncomputable abbrev c131_25 : RC := .seq c131_8 c131_24
noncomputable abbrev c131_26 : RC := .seq c131_7 c131_25
noncomputable abbrev c131_27 : RC := .loop c131_26
noncomputable abbrev c131_28 : RC := .block 0 c131_27
noncomputable abbrev c131_29 : RC := .seq c131_6 c131_28
noncomputable abbrev c131_30 : RC := .ops [oV 2 (rmv (K 0))]
noncomputable abbrev c131_31 : RC := .seq c131_30 .ret
noncomputable abbrev c131_32 : RC := .seq c131_29 c131_31
noncomputable abbrev c131_33 : RC := .seq c131_5 c131_32
noncomputable abbrev c131_34 : RC := .seq c131_0 c131_33
theorem fn131 : env.fn 131 = some ⟨79, [.tmp 2], body131⟩ := by kernel_rfl
theorem comp131 : comp env body131 = c131_34 := by kernel_rfl
noncomputable def body132 : Code := match Tryz.f132.body with | some c => c | none => .skip
noncomputable abbrev c132_0 : RC := .ops [oU 1 (rbox (T 0)),
  oV 2 (rmv (K 0))]
noncomputable abbrev c132_1 : RC := .ops [oV 3 (rfaddr 0 (T 1)),
  oV 4 (rload false 1 (T 3)),
  oV 5 (rbin env .lss 3 false true (T 4) (K 1)),
  oV 6 (rmv (T 5)),
  oG 7 6 false (rfaddr 0 (T 1)),
  oG 8 6 false (rload false 1 (T 7)),
  oG 9 6 false (rbin env .gtr 3 false true (T 8) (K 200)),
  oV 10 (rpick (T 6) (.const (.bool true)) (T 9)),
  oV 11 (rmv (T 10)),
  oG 12 11 false (rfaddr 1 (T 1)),
  oG 13 11 false (rload false 1 (T 12)),
  oG 14 11 false (rbin env .lss 3 false true (T 13) (K 1)),
  oV 15 (rpick (T 11) (.const (.bool true)) (T 14)),
  oV 16 (rmv (T 15)),
  oG 17 16 false (rfaddr 1 (T 1)),
  oG 18 16 false (rload false 1 (T 17)),
  oG 19 16 false (rbin env .gtr 3 false true (T 18) (K 2147483647)),
  oV 20 (rpick (T 16) (.const (.bool true)) (T 19))]
noncomputable abbrev c132_2 : RC := .ops [oV 2 (rmv (K 2))]
noncomputable abbrev c132_3 : RC := .seq c132_2 .ret
noncomputable abbrev c132_4 : RC := .cond (rX 20) c132_3 .skip
noncomputable abbrev c132_5 : RC := .seq c132_1 c132_4
noncomputable abbrev c132_6 : RC := .ops [oV 2 (rmv (K 0))]
noncomputable abbrev c132_7 : RC := .seq c132_6 .ret
noncomputable abbrev c132_8 : RC := .seq c132_5 c132_7
noncomputable abbrev c132_9 : RC := .seq c132_0 c132_8
theorem fn132 : env.fn 132 = some ⟨21, [.tmp 2], body132⟩ := by kernel_rfl
theorem comp132 : comp env body132 = c132_9 := by kernel_rfl
noncomputable def body136 : Code := match Tryz.f136.body with | some c => c | none => .skip
noncomputable abbrev c136_0 : RC := .ops [oU 1 (rbox (T 0)),
  oV 2 (rmv (K 0))]
noncomputable abbrev c136_1 : RC := .ops [oV 4 (rfaddr 0 (T 1)),
  oV 5 (rload false 1 (T 4)),
  oV 6 (rbin env .lss 3 false true (T 5) (K 1)),
  oV 7 (rmv (T 6)),
  oG 8 7 false (rfaddr 0 (T 1)),
  oG 9 7 false (rload false 1 (T 8)),
  oG 10 7 false (rbin env .gtr 3 false true (T 9) (K 3)),
  oV 11 (rpick (T 7) (.const (.bool true)) (T 10))]
noncomputable abbrev c136_2 : RC := .ops [oV 2 (rmv (K 2))]
noncomputable abbrev c136_3 : RC := .seq c136_2 .ret
noncomputable abbrev c136_4 : RC := .cond (rX 11) c136_3 .skip
noncomputable abbrev c136_5 : RC := .seq c136_1 c136_4
noncomputable abbrev c136_6 : RC := .drawn true [dV 13 (rfaddr 0 (T 1)),
  dV 14 (rload false 1 (T 13)),
  dU 3 (rnew [.v (.int .i64 0), .v (.int .i64 0)]),
  dC false 12 (.func 161) [],
  dV 15 (ridxA 4 true 2 (T 12) (T 14)),
  dS (rstore 2 (T 3) (T 15))]
noncomputable abbrev c136_7 : RC := .ops [oV 16 (rfaddr 1 (T 1)),
  oV 17 (rload false 1 (T 16)),
  oV 18 (rbin env .lss 3 false true (T 17) (K 0)),
  oV 19 (rmv (T 18)),
  oG 20 19 false (rfaddr 1 (T 1)),
  oG 21 19 false (rload false 1 (T 20)),
  oG 22 19 false (rfaddr 0 (T 3)),
  oG 23 19 false (rload false 1 (T 22)),
  oG 24 19 false (rbin env .gtr 3 false false (T 21) (T 23)),
  oV 25 (rpick (T 19) (.const (.bool true)) (T 24)),
  oV 26 (rmv (T 25)),
  oG 27 26 false (rfaddr 2 (T 1)),
  oG 28 26 false (rload false 1 (T 27)),
  oG 29 26 false (rlen (T 28)),
  oG 30 26 false (rfaddr 1 (T 3)),
  oG 31 26 false (rload false 1 (T 30)),
  oG 32 26 false (rbin env .gtr 3 false false (T 29) (T 31)),
  oV 33 (rpick (T 26) (.const (.bool true)) (T 32))]
noncomputable abbrev c136_8 : RC := .ops [oV 2 (rmv (K 2))]
noncomputable abbrev c136_9 : RC := .seq c136_8 .ret
noncomputable abbrev c136_10 : RC := .cond (rX 33) c136_9 .skip
noncomputable abbrev c136_11 : RC := .seq c136_7 c136_10
noncomputable abbrev c136_12 : RC := .seq c136_6 c136_11
noncomputable abbrev c136_13 : RC := .ops [oV 2 (rmv (K 0))]
noncomputable abbrev c136_14 : RC := .seq c136_13 .ret
noncomputable abbrev c136_15 : RC := .seq c136_12 c136_14
noncomputable abbrev c136_16 : RC := .seq c136_5 c136_15
noncomputable abbrev c136_17 : RC := .seq c136_0 c136_16
theorem fn136 : env.fn 136 = some ⟨34, [.tmp 2], body136⟩ := by kernel_rfl
theorem comp136 : comp env body136 = c136_17 := by kernel_rfl
noncomputable def body137 : Code := match Tryz.f137.body with | some c => c | none => .skip
noncomputable abbrev c137_0 : RC := .ops [oV 2 (rmv (.const (.slice none 0 0)))]
noncomputable abbrev c137_1 : RC := .ops [oV 3 (rmv (T 0)),
  oV 4 (rbin env .shr 3 false true (T 3) (.const (.int .u64 24))),
  oU 5 (rconvI .u8 (T 4)),
  oV 6 (rmv (T 0)),
  oV 7 (rbin env .shr 3 false true (T 6) (.const (.int .u64 16))),
  oU 8 (rconvI .u8 (T 7)),
  oV 9 (rmv (T 0)),
  oV 10 (rbin env .shr 3 false true (T 9) (.const (.int .u64 8))),
  oU 11 (rconvI .u8 (T 10)),
  oV 12 (rmv (T 0)),
  oU 13 (rconvI .u8 (T 12)),
  oU 14 (rbuildL 1 4 [.v (.int .u8 0), .v (.int .u8 0), .v (.int .u8 0), .v (.int .u8 0)] [(0, (T 5)), (1, (T 8)), (2, (T 11)), (3, (T 13))]),
  oV 2 (rmv (T 14))]
noncomputable abbrev c137_2 : RC := .seq c137_1 .ret
noncomputable abbrev c137_3 : RC := .seq c137_0 c137_2
theorem fn137 : env.fn 137 = some ⟨15, [.tmp 2], body137⟩ := by kernel_rfl
theorem comp137 : comp env body137 = c137_3 := by kernel_rfl
noncomputable def body138 : Code := match Tryz.f138.body with | some c => c | none => .skip
noncomputable abbrev c138_0 : RC := .ops [oV 2 (rmv (.const (.slice none 0 0)))]
noncomputable abbrev c138_1 : RC := .ops [oV 3 (rmv (K 0))]
noncomputable abbrev c138_2 : RC := .ops [oV 9 (rmv (T 0)),
  oV 10 (rlen (T 9)),
  oV 11 (rmv (K 0))]
noncomputable abbrev c138_3 : RC := .ops [oV 12 (rbin env .lss 3 false false (T 11) (T 10))]
noncomputable abbrev c138_4 : RC := .cond (rX 12) .skip (.exit 0)
noncomputable abbrev c138_5 : RC := .ops [oV 13 (riaddr 1 (T 9) (T 11)),
  oV 14 (rload false 1 (T 13)),
  oV 5 (rmv (T 14))]
noncomputable abbrev c138_6 : RC := .ops [oV 15 (rmv (T 3)),
  oV 16 (rmv (T 5)),
  oV 17 (rlen (T 16)),
  oV 18 (rbin env .add 3 false false (T 15) (T 17)),
  oV 3 (rmv (T 18))]
noncomputable abbrev c138_7 : RC := .ops [oV 19 (rmv (T 3)),
  oV 20 (rbin env .lss 3 false true (T 19) (K 0))]
noncomputable abbrev c138_8 : RC := comp env (subc [1, 1, 0, 1, 0, 0, 1, 1, 0, 0, 1, 1, 1, 0] body138)
noncomputable abbrev c138_9 : RC := .cond (rX 20) c138_8 .skip
noncomputable abbrev c138_10 : RC := .seq c138_7 c138_9
noncomputable abbrev c138_11 : RC := .seq c138_6 c138_10
noncomputable abbrev c138_12 : RC := .seq c138_5 c138_11
noncomputable abbrev c138_13 : RC := .block 1 c138_12
noncomputable abbrev c138_14 : RC := .ops [oV 22 (rbin env .add 3 false true (T 11) (K 1)),
  oV 11 (rmv (T 22))]
noncomputable abbrev c138_15 : RC := .seq c138_13 c138_14
noncomputable abbrev c138_16 : RC := .seq c138_4 c138_15
noncomputable abbrev c138_17 : RC := .seq c138_3 c138_16
noncomputable abbrev c138_18 : RC := .loop c138_17
noncomputable abbrev c138_19 : RC := .block 0 c138_18
noncomputable abbrev c138_20 : RC := .seq c138_2 c138_19
noncomputable abbrev c138_21 : RC := .ops [oV 23 (rmv (T 3)),
  oC 24 (.func 162) [(.const (.slice none 0 0)), (T 23)],
  oV 6 (rmv (T 24))]
noncomputable abbrev c138_22 : RC := .ops [oV 25 (rmv (T 0)),
  oV 26 (rlen (T 25)),
  oV 27 (rmv (K 0))]
noncomputable abbrev c138_23 : RC := .ops [oV 28 (rbin env .lss 3 false false (T 27) (T 26))]
noncomputable abbrev c138_24 : RC := .cond (rX 28) .skip (.exit 2)
noncomputable abbrev c138_25 : RC := .ops [oV 29 (riaddr 1 (T 25) (T 27)),
  oV 30 (rload false 1 (T 29)),
  oV 8 (rmv (T 30))]
noncomputable abbrev c138_26 : RC := .ops [oV 31 (rmv (T 6)),
  oV 32 (rmv (T 8)),
  oA 33 1 1 1 (T 31) (T 32),
  oV 6 (rmv (T 33))]
noncomputable abbrev c138_27 : RC := .seq c138_25 c138_26
noncomputable abbrev c138_28 : RC := .block 3 c138_27
noncomputable abbrev c138_29 : RC := .ops [oV 34 (rbin env .add 3 false true (T 27) (K 1)),
  oV 27 (rmv (T 34))]
noncomputable abbrev c138_30 : RC := .seq c138_28 c138_29
noncomputable abbrev c138_31 : RC := .seq c138_24 c138_30
noncomputable abbrev c138_32 : RC := .seq c138_23 c138_31
noncomputable abbrev c138_33 : RC := .loop c138_32
noncomputable abbrev c138_34 : RC := .block 2 c138_33
noncomputable abbrev c138_35 : RC := .seq c138_22 c138_34
noncomputable abbrev c138_36 : RC := .ops [oV 35 (rmv (T 6)),
  oV 2 (rmv (T 35))]
noncomputable abbrev c138_37 : RC := .seq c138_36 .ret
noncomputable abbrev c138_38 : RC := .seq c138_35 c138_37
noncomputable abbrev c138_39 : RC := .seq c138_21 c138_38
noncomputable abbrev c138_40 : RC := .seq c138_20 c138_39
noncomputable abbrev c138_41 : RC := .seq c138_1 c138_40
noncomputable abbrev c138_42 : RC := .seq c138_0 c138_41
theorem fn138 : env.fn 138 = some ⟨36, [.tmp 2], body138⟩ := by kernel_rfl
theorem comp138 : comp env body138 = c138_42 := by kernel_rfl
noncomputable def body139 : Code := match Tryz.f139.body with | some c => c | none => .skip
noncomputable abbrev c139_0 : RC := .ops [oV 9 (rmv (T 0)),
  oV 10 (rbin env .eql 112 false true (T 9) (.const (.pointer none))),
  oV 11 (rmv (T 10)),
  oG 12 11 false (rmv (T 0)),
  oG 13 11 false (rnil (T 12)),
  oG 14 11 false (rfaddr 0 (T 13)),
  oG 15 11 false (rload false 1 (T 14)),
  oG 16 11 false (run' .not (T 15)),
  oV 17 (rpick (T 11) (.const (.bool true)) (T 16)),
  oV 18 (rmv (T 17)),
  oG 19 18 false (rmv (T 0)),
  oG 20 18 false (rnil (T 19)),
  oG 21 18 false (rfaddr 2 (T 20)),
  oG 22 18 false (rload false 1 (T 21)),
  oG 23 18 false (rbin env .neq 26 false true (T 22) (K 0)),
  oV 24 (rpick (T 18) (.const (.bool true)) (T 23))]
noncomputable abbrev c139_1 : RC := .cond (rX 24) .ret .skip
noncomputable abbrev c139_2 : RC := .seq c139_0 c139_1
noncomputable abbrev c139_3 : RC := .ops [oV 25 (rmv (T 0)),
  oV 26 (rnil (T 25)),
  oV 27 (rfaddr 1 (T 26)),
  oV 28 (rload false 1 (T 27)),
  oV 29 (rlen (T 28)),
  oV 4 (rmv (T 29))]
noncomputable abbrev c139_4 : RC := .ops [oV 30 (rmv (T 1)),
  oV 31 (rlen (T 30)),
  oV 32 (rmv (K 0))]
noncomputable abbrev c139_5 : RC := .ops [oV 33 (rbin env .lss 3 false false (T 32) (T 31))]
noncomputable abbrev c139_6 : RC := .cond (rX 33) .skip (.exit 0)
noncomputable abbrev c139_7 : RC := .ops [oV 34 (riaddr 1 (T 30) (T 32)),
  oV 35 (rload false 1 (T 34)),
  oV 6 (rmv (T 35))]
noncomputable abbrev c139_8 : RC := .ops [oV 36 (rmv (T 4)),
  oV 37 (rmv (T 6)),
  oV 38 (rlen (T 37)),
  oV 39 (rbin env .add 3 false false (T 36) (T 38)),
  oV 4 (rmv (T 39))]
noncomputable abbrev c139_9 : RC := .seq c139_7 c139_8
noncomputable abbrev c139_10 : RC := .block 1 c139_9
noncomputable abbrev c139_11 : RC := .ops [oV 40 (rbin env .add 3 false true (T 32) (K 1)),
  oV 32 (rmv (T 40))]
noncomputable abbrev c139_12 : RC := .seq c139_10 c139_11
noncomputable abbrev c139_13 : RC := .seq c139_6 c139_12
noncomputable abbrev c139_14 : RC := .seq c139_5 c139_13
noncomputable abbrev c139_15 : RC := .loop c139_14
noncomputable abbrev c139_16 : RC := .block 0 c139_15
noncomputable abbrev c139_17 : RC := .seq c139_4 c139_16
noncomputable abbrev c139_18 : RC := .ops [oV 41 (rmv (T 4)),
  oV 42 (rbin env .gtr 3 false true (T 41) (K 1048576))]
noncomputable abbrev c139_19 : RC := .ops [oV 43 (rmv (T 0)),
  oV 44 (rnil (T 43)),
  oV 45 (rfaddr 2 (T 44)),
  oS (rstore 1 (T 45) (K 3))]
noncomputable abbrev c139_20 : RC := .seq c139_19 .ret
noncomputable abbrev c139_21 : RC := .cond (rX 42) c139_20 .skip
noncomputable abbrev c139_22 : RC := .seq c139_18 c139_21
noncomputable abbrev c139_23 : RC := .ops [oV 46 (rmv (T 1)),
  oV 47 (rlen (T 46)),
  oV 48 (rmv (K 0))]
noncomputable abbrev c139_24 : RC := .ops [oV 49 (rbin env .lss 3 false false (T 48) (T 47))]
noncomputable abbrev c139_25 : RC := .cond (rX 49) .skip (.exit 2)
noncomputable abbrev c139_26 : RC := .ops [oV 50 (riaddr 1 (T 46) (T 48)),
  oV 51 (rload false 1 (T 50)),
  oV 8 (rmv (T 51))]
noncomputable abbrev c139_27 : RC := .ops [oV 52 (rmv (T 0)),
  oV 53 (rmv (T 0)),
  oV 54 (rnil (T 53)),
  oV 55 (rfaddr 1 (T 54)),
  oV 56 (rload false 1 (T 55)),
  oV 57 (rmv (T 8)),
  oA 58 1 1 1 (T 56) (T 57),
  oV 59 (rnil (T 52)),
  oV 60 (rfaddr 1 (T 59)),
  oS (rstore 1 (T 60) (T 58))]
noncomputable abbrev c139_28 : RC := .seq c139_26 c139_27
noncomputable abbrev c139_29 : RC := .block 3 c139_28
noncomputable abbrev c139_30 : RC := .ops [oV 61 (rbin env .add 3 false true (T 48) (K 1)),
  oV 48 (rmv (T 61))]
noncomputable abbrev c139_31 : RC := .seq c139_29 c139_30
noncomputable abbrev c139_32 : RC := .seq c139_25 c139_31
noncomputable abbrev c139_33 : RC := .seq c139_24 c139_32
noncomputable abbrev c139_34 : RC := .loop c139_33
noncomputable abbrev c139_35 : RC := .block 2 c139_34
noncomputable abbrev c139_36 : RC := .seq c139_23 c139_35
noncomputable abbrev c139_37 : RC := .seq c139_22 c139_36
noncomputable abbrev c139_38 : RC := .seq c139_17 c139_37
noncomputable abbrev c139_39 : RC := .seq c139_3 c139_38
noncomputable abbrev c139_40 : RC := .seq c139_2 c139_39
theorem fn139 : env.fn 139 = some ⟨62, [], body139⟩ := by kernel_rfl
theorem comp139 : comp env body139 = c139_40 := by kernel_rfl
noncomputable def body140 : Code := match Tryz.f140.body with | some c => c | none => .skip
noncomputable abbrev c140_0 : RC := .ops [oV 2 (rmv (.const (.slice none 0 0)))]
noncomputable abbrev c140_1 : RC := .ops [oV 6 (rmv (T 0)),
  oU 7 (rconvI .u64 (T 6)),
  oC 8 (.func 163) [(T 7)],
  oV 9 (rbin env .add 3 false true (T 8) (K 7)),
  oV 10 (rbin env .quo 3 false true (T 9) (K 8)),
  oV 3 (rmv (T 10))]
noncomputable abbrev c140_2 : RC := .ops [oV 11 (rmv (T 3)),
  oU 12 (rconvI .u8 (T 11)),
  oU 13 (rbuildL 1 1 [.v (.int .u8 0)] [(0, (T 12))]),
  oV 4 (rmv (T 13))]
noncomputable abbrev c140_3 : RC := .ops [oV 14 (rmv (T 3)),
  oV 5 (rmv (T 14))]
noncomputable abbrev c140_4 : RC := .ops [oV 15 (rmv (T 5)),
  oV 16 (rbin env .gtr 3 false true (T 15) (K 0))]
noncomputable abbrev c140_5 : RC := .cond (rX 16) .skip (.exit 0)
noncomputable abbrev c140_6 : RC := .seq c140_4 c140_5
noncomputable abbrev c140_7 : RC := .ops [oV 19 (rmv (T 4)),
  oV 20 (rmv (T 0)),
  oV 21 (rmv (T 5)),
  oV 22 (rbin env .sub 3 false true (T 21) (K 1)),
  oV 23 (rbin env .mul 3 true false (K 8) (T 22)),
  oV 24 (rbin env .shr 3 false false (T 20) (T 23)),
  oU 25 (rconvI .u8 (T 24)),
  oU 26 (rbuildL 1 1 [.v (.int .u8 0)] [(0, (T 25))]),
  oA 27 1 1 1 (T 19) (T 26),
  oV 4 (rmv (T 27))]
noncomputable abbrev c140_8 : RC := .block 1 c140_7
noncomputable abbrev c140_9 : RC := .ops [oV 17 (rmv (T 5)),
  oV 18 (rbin env .sub 3 false true (T 17) (K 1)),
  oV 5 (rmv (T 18))]
noncomputable abbrev c140_10 : RC := .seq c140_8 c140_9
noncomputable abbrev c140_11 : RC := .seq c140_6 c140_10
noncomputable abbrev c140_12 : RC := .loop c140_11
noncomputable abbrev c140_13 : RC := .block 0 c140_12
noncomputable abbrev c140_14 : RC := .seq c140_3 c140_13
noncomputable abbrev c140_15 : RC := .ops [oV 28 (rmv (T 4)),
  oV 2 (rmv (T 28))]
noncomputable abbrev c140_16 : RC := .seq c140_15 .ret
noncomputable abbrev c140_17 : RC := .seq c140_14 c140_16
noncomputable abbrev c140_18 : RC := .seq c140_2 c140_17
noncomputable abbrev c140_19 : RC := .seq c140_1 c140_18
noncomputable abbrev c140_20 : RC := .seq c140_0 c140_19
theorem fn140 : env.fn 140 = some ⟨29, [.tmp 2], body140⟩ := by kernel_rfl
theorem comp140 : comp env body140 = c140_20 := by kernel_rfl
noncomputable def body141 : Code := match Tryz.f141.body with | some c => c | none => .skip
noncomputable abbrev c141_0 : RC := .ops [oV 2 (rmv (.const (.slice none 0 0)))]
noncomputable abbrev c141_1 : RC := .ops [oV 3 (rmv (T 0)),
  oL 4 false (T 3)]
noncomputable abbrev c141_2 : RC := .ops [oV 2 (rmv (.const (.slice none 0 0)))]
noncomputable abbrev c141_3 : RC := .seq c141_2 .ret
noncomputable abbrev c141_4 : RC := .cond (rX 4) c141_3 .skip
noncomputable abbrev c141_5 : RC := .seq c141_1 c141_4
noncomputable abbrev c141_6 : RC := .ops [oU 5 (rbuildL 1 0 [] []),
  oV 6 (rmv (T 0)),
  oA 7 1 1 1 (T 5) (T 6),
  oV 2 (rmv (T 7))]
noncomputable abbrev c141_7 : RC := .seq c141_6 .ret
noncomputable abbrev c141_8 : RC := .seq c141_5 c141_7
noncomputable abbrev c141_9 : RC := .seq c141_0 c141_8
theorem fn141 : env.fn 141 = some ⟨8, [.tmp 2], body141⟩ := by kernel_rfl
theorem comp141 : comp env body141 = c141_9 := by kernel_rfl
noncomputable def body144 : Code := match Tryz.f144.body with | some c => c | none => .skip
noncomputable abbrev c144_0 : RC := .ops [oV 2 (rmv (K 0))]
noncomputable abbrev c144_1 : RC := .ops [oU 3 (rnew [.v (.int .i64 0)]),
  oU 4 (rnew [.v (.int .i64 0)]),
  oS (rstore 1 (T 3) (K 0)),
  oS (rstore 1 (T 4) (K 0))]
noncomputable abbrev c144_2 : RC := .ops [oV 6 (rmv (T 0)),
  oC 7 (.func 164) [(T 6), (.const (.string ⟨#[47]⟩))]]
noncomputable abbrev c144_3 : RC := .ops [oV 5 (rmv (T 8))]
noncomputable abbrev c144_4 : RC := .ops [oV 9 (rload false 1 (T 3)),
  oV 10 (rbin env .add 3 false true (T 9) (K 1)),
  oS (rstore 1 (T 3) (T 10))]
noncomputable abbrev c144_5 : RC := .ops [oV 12 (rload false 1 (T 3)),
  oV 13 (rbin env .gtr 3 false true (T 12) (K 6)),
  oV 11 (rmv (T 13))]
noncomputable abbrev c144_6 : RC := .ops [oV 14 (rmv (T 5)),
  oC 15 (.func 165) [(T 14)],
  oV 16 (run' .not (T 15)),
  oV 11 (rmv (T 16))]
noncomputable abbrev c144_7 : RC := .cond (rX 11) .skip c144_6
noncomputable abbrev c144_8 : RC := .seq c144_5 c144_7
noncomputable abbrev c144_9 : RC := .ops [oS (rstore 1 (T 4) (K 2))]
noncomputable abbrev c144_10 : RC := .seq c144_9 (.exit 0)
noncomputable abbrev c144_11 : RC := .cond (rX 11) c144_10 .skip
noncomputable abbrev c144_12 : RC := .seq c144_8 c144_11
noncomputable abbrev c144_13 : RC := .block 2 c144_12
noncomputable abbrev c144_14 : RC := .seq c144_4 c144_13
noncomputable abbrev c144_15 : RC := .block 1 c144_14
noncomputable abbrev c144_16 : RC := .range (fun s => pev s.tm (T 7)) [8] (subc [1, 0, 1, 1, 0, 1, 0, 0] body144) (subc [1, 0, 1, 1, 0, 1, 0, 1] body144)
noncomputable abbrev c144_17 : RC := .block 0 c144_16
noncomputable abbrev c144_18 : RC := .seq c144_2 c144_17
noncomputable abbrev c144_19 : RC := .ops [oV 17 (rload false 1 (T 4)),
  oV 2 (rmv (T 17))]
noncomputable abbrev c144_20 : RC := .seq c144_19 .ret
noncomputable abbrev c144_21 : RC := .seq c144_18 c144_20
noncomputable abbrev c144_22 : RC := .seq .skip c144_21
noncomputable abbrev c144_23 : RC := .seq c144_1 c144_22
noncomputable abbrev c144_24 : RC := .scope (subc [1, 0] body144)
noncomputable abbrev c144_25 : RC := .seq c144_0 c144_24
theorem fn144 : env.fn 144 = some ⟨18, [.tmp 2], body144⟩ := by kernel_rfl
theorem comp144 : comp env body144 = c144_25 := by kernel_rfl
theorem piece144_1 : comp env (subc [1, 0, 1, 1, 0, 1, 0, 0] body144) = c144_3 := by kernel_rfl
theorem piece144_2 : comp env (subc [1, 0, 1, 1, 0, 1, 0, 1] body144) = c144_15 := by kernel_rfl
theorem piece144_3 : comp env (subc [1, 0] body144) = c144_23 := by kernel_rfl
noncomputable def body145 : Code := match Tryz.f145.body with | some c => c | none => .skip
noncomputable abbrev c145_0 : RC := .ops [oU 3 (rbox (T 1)),
  oV 4 (rmv (K 0))]
noncomputable abbrev c145_1 : RC := .ops [oV 5 (rmv (T 0)),
  oV 6 (rfn 167 [] [(T 3)]),
  oC 7 (.func 166) [(T 5), (T 6)],
  oV 4 (rmv (T 7))]
noncomputable abbrev c145_2 : RC := .seq c145_1 .ret
noncomputable abbrev c145_3 : RC := .seq c145_0 c145_2
theorem fn145 : env.fn 145 = some ⟨8, [.tmp 4], body145⟩ := by kernel_rfl
theorem comp145 : comp env body145 = c145_3 := by kernel_rfl
noncomputable def body161 : Code := match Tryz.f161.body with | some c => c | none => .skip
noncomputable abbrev c161_0 : RC := .ops [oU 0 (rnew [.v (.int .i64 0), .v (.int .i64 0), .v (.int .i64 0), .v (.int .i64 0), .v (.int .i64 0), .v (.int .i64 0), .v (.int .i64 0), .v (.int .i64 0)])]
noncomputable abbrev c161_1 : RC := .ops [oV 1 (rbuild [.v (.int .i64 0), .v (.int .i64 0)] [(0, 1), (1, 1)] [(0, (K 511)), (1, (K 1000))]),
  oV 2 (rbuild [.v (.int .i64 0), .v (.int .i64 0)] [(0, 1), (1, 1)] [(0, (K 511))]),
  oV 3 (rbuild [.v (.int .i64 0), .v (.int .i64 0)] [(0, 1), (1, 1)] []),
  oV 4 (rbuildA 2 [.v (.int .i64 0), .v (.int .i64 0), .v (.int .i64 0), .v (.int .i64 0), .v (.int .i64 0), .v (.int .i64 0), .v (.int .i64 0), .v (.int .i64 0)] [(1, (T 1)), (2, (T 2)), (3, (T 3))]),
  oS (rstore 8 (T 0) (T 4))]
noncomputable abbrev c161_2 : RC := .seq c161_1 .ret
noncomputable abbrev c161_3 : RC := .seq c161_0 c161_2
theorem fn161 : env.fn 161 = some ⟨5, [.cell 0 178], body161⟩ := by kernel_rfl
theorem comp161 : comp env body161 = c161_3 := by kernel_rfl
noncomputable def body162 : Code := match Tryz.f162.body with | some c => c | none => .skip
noncomputable abbrev c162_0 : RC := .ops [oV 4 (rmv (.const (.slice none 0 0)))]
noncomputable abbrev c162_1 : RC := .ops [oV 5 (rmv (T 1)),
  oV 6 (rbin env .lss 3 false true (T 5) (K 0))]
noncomputable abbrev c162_2 : RC := comp env (subc [1, 0, 1, 0] body162)
noncomputable abbrev c162_3 : RC := .cond (rX 6) c162_2 .skip
noncomputable abbrev c162_4 : RC := .seq c162_1 c162_3
noncomputable abbrev c162_5 : RC := .ops [oV 8 (rmv (T 1)),
  oV 9 (rmv (T 0)),
  oV 10 (rcap (T 9)),
  oV 11 (rmv (T 0)),
  oV 12 (rlen (T 11)),
  oV 13 (rbin env .sub 3 false false (T 10) (T 12)),
  oV 14 (rbin env .sub 3 false false (T 8) (T 13)),
  oV 1 (rmv (T 14))]
noncomputable abbrev c162_6 : RC := .ops [oV 15 (rmv (T 1)),
  oV 16 (rbin env .gtr 3 false true (T 15) (K 0))]
noncomputable abbrev c162_7 : RC := .ops [oV 17 (rmv (T 0)),
  oV 18 (rmv (T 0)),
  oV 19 (rcap (T 18)),
  oV 20 (rsliceL 1 (T 17) none (some (T 19)) none),
  oV 21 (rmv (T 1)),
  oZ 22 1 1 [.v (.int .u8 0)] (T 20) (T 21),
  oV 23 (rmv (T 0)),
  oV 24 (rlen (T 23)),
  oV 25 (rsliceL 1 (T 22) none (some (T 24)) none),
  oV 0 (rmv (T 25))]
noncomputable abbrev c162_8 : RC := .cond (rX 16) c162_7 .skip
noncomputable abbrev c162_9 : RC := .seq c162_6 c162_8
noncomputable abbrev c162_10 : RC := .seq c162_5 c162_9
noncomputable abbrev c162_11 : RC := .ops [oV 26 (rmv (T 0)),
  oV 4 (rmv (T 26))]
noncomputable abbrev c162_12 : RC := .seq c162_11 .ret
noncomputable abbrev c162_13 : RC := .seq c162_10 c162_12
noncomputable abbrev c162_14 : RC := .seq c162_4 c162_13
noncomputable abbrev c162_15 : RC := .seq c162_0 c162_14
theorem fn162 : env.fn 162 = some ⟨27, [.tmp 4], body162⟩ := by kernel_rfl
theorem comp162 : comp env body162 = c162_15 := by kernel_rfl
noncomputable def body163 : Code := match Tryz.f163.body with | some c => c | none => .skip
noncomputable abbrev c163_0 : RC := .ops [oV 2 (rmv (K 0))]
noncomputable abbrev c163_1 : RC := .ops [oV 3 (rmv (T 0)),
  oV 4 (rbin env .geq 164 false true (T 3) (.const (.int .u64 4294967296)))]
noncomputable abbrev c163_2 : RC := .ops [oV 5 (rmv (T 0)),
  oV 6 (rbin env .shr 164 false true (T 5) (.const (.int .u64 32))),
  oV 0 (rmv (T 6))]
noncomputable abbrev c163_3 : RC := .ops [oV 2 (rmv (K 32))]
noncomputable abbrev c163_4 : RC := .seq c163_2 c163_3
noncomputable abbrev c163_5 : RC := .cond (rX 4) c163_4 .skip
noncomputable abbrev c163_6 : RC := .seq c163_1 c163_5
noncomputable abbrev c163_7 : RC := .ops [oV 7 (rmv (T 0)),
  oV 8 (rbin env .geq 164 false true (T 7) (.const (.int .u64 65536)))]
noncomputable abbrev c163_8 : RC := .ops [oV 9 (rmv (T 0)),
  oV 10 (rbin env .shr 164 false true (T 9) (.const (.int .u64 16))),
  oV 0 (rmv (T 10))]
noncomputable abbrev c163_9 : RC := .ops [oV 11 (rmv (T 2)),
  oV 12 (rbin env .add 3 false true (T 11) (K 16)),
  oV 2 (rmv (T 12))]
noncomputable abbrev c163_10 : RC := .seq c163_8 c163_9
noncomputable abbrev c163_11 : RC := .cond (rX 8) c163_10 .skip
noncomputable abbrev c163_12 : RC := .seq c163_7 c163_11
noncomputable abbrev c163_13 : RC := .ops [oV 13 (rmv (T 0)),
  oV 14 (rbin env .geq 164 false true (T 13) (.const (.int .u64 256)))]
noncomputable abbrev c163_14 : RC := .ops [oV 15 (rmv (T 0)),
  oV 16 (rbin env .shr 164 false true (T 15) (.const (.int .u64 8))),
  oV 0 (rmv (T 16))]
noncomputable abbrev c163_15 : RC := .ops [oV 17 (rmv (T 2)),
  oV 18 (rbin env .add 3 false true (T 17) (K 8)),
  oV 2 (rmv (T 18))]
noncomputable abbrev c163_16 : RC := .seq c163_14 c163_15
noncomputable abbrev c163_17 : RC := .cond (rX 14) c163_16 .skip
noncomputable abbrev c163_18 : RC := .seq c163_13 c163_17
noncomputable abbrev c163_19 : RC := .ops [oV 19 (rmv (T 2)),
  oV 20 (rmv (T 0)),
  oU 21 (rconvI .u8 (T 20)),
  oV 22 (ridxS (.const (.string ⟨#[0, 1, 2, 2, 3, 3, 3, 3, 4, 4, 4, 4, 4, 4, 4, 4, 5, 5, 5, 5, 5, 5, 5, 5, 5, 5, 5, 5, 5, 5, 5, 5, 6, 6, 6, 6, 6, 6, 6, 6, 6, 6, 6, 6, 6, 6, 6, 6, 6, 6, 6, 6, 6, 6, 6, 6, 6, 6, 6, 6, 6, 6, 6, 6, 7, 7, 7, 7, 7, 7, 7, 7, 7, 7, 7, 7, 7, 7, 7, 7, 7, 7, 7, 7, 7, 7, 7, 7, 7, 7, 7, 7, 7, 7, 7, 7, 7, 7, 7, 7, 7, 7, 7, 7, 7, 7, 7, 7, 7, 7, 7, 7, 7, 7, 7, 7, 7, 7, 7, 7, 7, 7, 7, 7, 7, 7, 7, 7, 8, 8, 8, 8, 8, 8, 8, 8, 8, 8, 8, 8, 8, 8, 8, 8, 8, 8, 8, 8, 8, 8, 8, 8, 8, 8, 8, 8, 8, 8, 8, 8, 8, 8, 8, 8, 8, 8, 8, 8, 8, 8, 8, 8, 8, 8, 8, 8, 8, 8, 8, 8, 8, 8, 8, 8, 8, 8, 8, 8, 8, 8, 8, 8, 8, 8, 8, 8, 8, 8, 8, 8, 8, 8, 8, 8, 8, 8, 8, 8, 8, 8, 8, 8, 8, 8, 8, 8, 8, 8, 8, 8, 8, 8, 8, 8, 8, 8, 8, 8, 8, 8, 8, 8, 8, 8, 8, 8, 8, 8, 8, 8, 8, 8, 8, 8, 8, 8, 8, 8, 8, 8, 8, 8, 8, 8, 8, 8]⟩)) (T 21)),
  oU 23 (rconvI .i64 (T 22)),
  oV 24 (rbin env .add 3 false false (T 19) (T 23)),
  oV 2 (rmv (T 24))]
noncomputable abbrev c163_20 : RC := .seq c163_19 .ret
noncomputable abbrev c163_21 : RC := .seq c163_18 c163_20
noncomputable abbrev c163_22 : RC := .seq c163_12 c163_21
noncomputable abbrev c163_23 : RC := .seq c163_6 c163_22
noncomputable abbrev c163_24 : RC := .seq c163_0 c163_23
theorem fn163 : env.fn 163 = some ⟨25, [.tmp 2], body163⟩ := by kernel_rfl
theorem comp163 : comp env body163 = c163_24 := by kernel_rfl
noncomputable def body164 : Code := match Tryz.f164.body with | some c => c | none => .skip
noncomputable abbrev c164_0 : RC := .ops [oV 4 (rmv (.const (.nilFunc)))]
noncomputable abbrev c164_1 : RC := .ops [oV 5 (rmv (T 0)),
  oV 6 (rmv (T 1)),
  oC 7 (.func 176) [(T 5), (T 6), (K 0)],
  oV 4 (rmv (T 7))]
noncomputable abbrev c164_2 : RC := .seq c164_1 .ret
noncomputable abbrev c164_3 : RC := .seq c164_0 c164_2
theorem fn164 : env.fn 164 = some ⟨8, [.tmp 4], body164⟩ := by kernel_rfl
theorem comp164 : comp env body164 = c164_3 := by kernel_rfl
noncomputable def body165 : Code := match Tryz.f165.body with | some c => c | none => .skip
noncomputable abbrev c165_0 : RC := .ops [oV 2 (rmv (.const (.bool false)))]
noncomputable abbrev c165_1 : RC := .ops [oV 3 (rmv (T 0)),
  oV 4 (rbin env .neq 9 false true (T 3) (.const (.string ⟨#[]⟩))),
  oV 5 (rmv (T 4)),
  oG 6 5 true (rmv (T 0)),
  oG 7 5 true (rlenS (T 6)),
  oG 8 5 true (rbin env .leq 3 false true (T 7) (K 12)),
  oV 9 (rpick (T 5) (T 8) (.const (.bool false))),
  oV 10 (rmv (T 9)),
  oG 11 10 true (rmv (T 0)),
  oG 12 10 true (rbin env .neq 9 false true (T 11) (.const (.string ⟨#[46]⟩))),
  oV 13 (rpick (T 10) (T 12) (.const (.bool false))),
  oV 14 (rmv (T 13)),
  oG 15 14 true (rmv (T 0)),
  oG 16 14 true (rbin env .neq 9 false true (T 15) (.const (.string ⟨#[46, 46]⟩))),
  oV 17 (rpick (T 14) (T 16) (.const (.bool false))),
  oV 18 (rmv (T 17)),
  oG 19 18 true (rmv (T 0)),
  oCG 20 18 true (.func 177) [(T 19), (.const (.string ⟨#[97, 98, 99, 100, 101, 102, 103, 104, 105, 106, 107, 108, 109, 110, 111, 112, 113, 114, 115, 116, 117, 118, 119, 120, 121, 122, 48, 49, 50, 51, 52, 53, 54, 55, 56, 57, 46, 95, 45]⟩))],
  oG 21 18 true (rbin env .eql 9 false true (T 20) (.const (.string ⟨#[]⟩))),
  oV 22 (rpick (T 18) (T 21) (.const (.bool false))),
  oV 23 (rmv (T 22)),
  oG 24 23 true (rmv (T 0)),
  oCG 25 23 true (.func 178) [(T 24), (.func 179)],
  oG 26 23 true (run' .not (T 25)),
  oV 27 (rpick (T 23) (T 26) (.const (.bool false))),
  oV 2 (rmv (T 27))]
noncomputable abbrev c165_2 : RC := .seq c165_1 .ret
noncomputable abbrev c165_3 : RC := .seq c165_0 c165_2
theorem fn165 : env.fn 165 = some ⟨28, [.tmp 2], body165⟩ := by kernel_rfl
theorem comp165 : comp env body165 = c165_3 := by kernel_rfl
noncomputable def body166 : Code := match Tryz.f166.body with | some c => c | none => .skip
noncomputable abbrev c166_0 : RC := .ops [oV 4 (rmv (K 0))]
noncomputable abbrev c166_1 : RC := .ops [oV 5 (rmv (K 0))]
noncomputable abbrev c166_2 : RC := .ops [oV 8 (rmv (T 0)),
  oC 9 (.func 131) [(T 8)],
  oV 10 (rbin env .neq 26 false true (T 9) (K 0))]
noncomputable abbrev c166_3 : RC := .ops [oV 11 (rmv (T 5)),
  oV 4 (rmv (T 11))]
noncomputable abbrev c166_4 : RC := .seq c166_3 .ret
noncomputable abbrev c166_5 : RC := .cond (rX 10) c166_4 .skip
noncomputable abbrev c166_6 : RC := .seq c166_2 c166_5
noncomputable abbrev c166_7 : RC := .ops [oV 12 (rmv (T 0)),
  oV 13 (rlen (T 12)),
  oV 14 (rmv (K 0))]
noncomputable abbrev c166_8 : RC := .ops [oV 15 (rbin env .lss 3 false false (T 14) (T 13))]
noncomputable abbrev c166_9 : RC := .cond (rX 15) .skip (.exit 0)
noncomputable abbrev c166_10 : RC := .ops [oV 16 (riaddr 3 (T 12) (T 14)),
  oV 17 (rload true 3 (T 16)),
  oU 7 (rnew [.v (.int .i64 0), .v (.int .i64 0), .v (.int .i64 0)]),
  oS (rstore 3 (T 7) (T 17))]
noncomputable abbrev c166_11 : RC := .ops [oV 18 (rmv (T 1)),
  oV 19 (rmv (T 5)),
  oV 20 (rload true 3 (T 7)),
  oC 21 (T 18) [(T 19), (T 20)],
  oV 5 (rmv (T 21))]
noncomputable abbrev c166_12 : RC := .seq c166_10 c166_11
noncomputable abbrev c166_13 : RC := .block 1 c166_12
noncomputable abbrev c166_14 : RC := .ops [oV 22 (rbin env .add 3 false true (T 14) (K 1)),
  oV 14 (rmv (T 22))]
noncomputable abbrev c166_15 : RC := .seq c166_13 c166_14
noncomputable abbrev c166_16 : RC := .seq c166_9 c166_15
noncomputable abbrev c166_17 : RC := .seq c166_8 c166_16
noncomputable abbrev c166_18 : RC := .loop c166_17
noncomputable abbrev c166_19 : RC := .block 0 c166_18
noncomputable abbrev c166_20 : RC := .seq c166_7 c166_19
noncomputable abbrev c166_21 : RC := .ops [oV 23 (rmv (T 5)),
  oV 4 (rmv (T 23))]
noncomputable abbrev c166_22 : RC := .seq c166_21 .ret
noncomputable abbrev c166_23 : RC := .seq c166_20 c166_22
noncomputable abbrev c166_24 : RC := .seq c166_6 c166_23
noncomputable abbrev c166_25 : RC := .seq c166_1 c166_24
noncomputable abbrev c166_26 : RC := .seq c166_0 c166_25
theorem fn166 : env.fn 166 = some ⟨24, [.tmp 4], body166⟩ := by kernel_rfl
theorem comp166 : comp env body166 = c166_26 := by kernel_rfl
noncomputable def body167 : Code := match Tryz.f167.body with | some c => c | none => .skip
noncomputable abbrev c167_0 : RC := .ops [oU 4 (rbox (T 1)),
  oV 5 (rmv (K 0))]
noncomputable abbrev c167_1 : RC := .ops [oV 6 (rfaddr 0 (T 4)),
  oV 7 (rload false 1 (T 6)),
  oV 8 (rload false 1 (T 2)),
  oV 9 (rbin env .neq 3 false false (T 7) (T 8))]
noncomputable abbrev c167_2 : RC := .ops [oV 10 (rmv (T 0)),
  oV 5 (rmv (T 10))]
noncomputable abbrev c167_3 : RC := .seq c167_2 .ret
noncomputable abbrev c167_4 : RC := .cond (rX 9) c167_3 .skip
noncomputable abbrev c167_5 : RC := .seq c167_1 c167_4
noncomputable abbrev c167_6 : RC := .ops [oV 11 (rmv (T 0)),
  oV 12 (rfaddr 2 (T 4)),
  oV 13 (rload false 1 (T 12)),
  oV 14 (rmm maxV [(T 11), (T 13)]),
  oV 5 (rmv (T 14))]
noncomputable abbrev c167_7 : RC := .seq c167_6 .ret
noncomputable abbrev c167_8 : RC := .seq c167_5 c167_7
noncomputable abbrev c167_9 : RC := .seq c167_0 c167_8
theorem fn167 : env.fn 167 = some ⟨15, [.tmp 5], body167⟩ := by kernel_rfl
theorem comp167 : comp env body167 = c167_9 := by kernel_rfl
noncomputable def body176 : Code := match Tryz.f176.body with | some c => c | none => .skip
noncomputable abbrev c176_0 : RC := .ops [oU 3 (rbox (T 0)),
  oU 4 (rbox (T 1)),
  oU 5 (rbox (T 2)),
  oV 6 (rmv (.const (.nilFunc)))]
noncomputable abbrev c176_1 : RC := .ops [oV 7 (rfn 183 [] [(T 4), (T 3), (T 5)]),
  oV 6 (rmv (T 7))]
noncomputable abbrev c176_2 : RC := .seq c176_1 .ret
noncomputable abbrev c176_3 : RC := .seq c176_0 c176_2
theorem fn176 : env.fn 176 = some ⟨8, [.tmp 6], body176⟩ := by kernel_rfl
theorem comp176 : comp env body176 = c176_3 := by kernel_rfl
noncomputable def body177 : Code := match Tryz.f177.body with | some c => c | none => .skip
noncomputable abbrev c177_0 : RC := .ops [oV 4 (rmv (.const (.string ⟨#[]⟩)))]
noncomputable abbrev c177_1 : RC := .ops [oV 7 (rmv (T 0)),
  oV 8 (rbin env .eql 9 false true (T 7) (.const (.string ⟨#[]⟩))),
  oV 9 (rmv (T 8)),
  oG 10 9 false (rmv (T 1)),
  oG 11 9 false (rbin env .eql 9 false true (T 10) (.const (.string ⟨#[]⟩))),
  oV 12 (rpick (T 9) (.const (.bool true)) (T 11))]
noncomputable abbrev c177_2 : RC := .ops [oV 13 (rmv (T 0)),
  oV 4 (rmv (T 13))]
noncomputable abbrev c177_3 : RC := .seq c177_2 .ret
noncomputable abbrev c177_4 : RC := .cond (rX 12) c177_3 .skip
noncomputable abbrev c177_5 : RC := .seq c177_1 c177_4
noncomputable abbrev c177_6 : RC := .ops [oV 14 (rmv (T 1)),
  oV 15 (rlenS (T 14)),
  oV 16 (rbin env .eql 3 false true (T 15) (K 1)),
  oV 17 (rmv (T 16)),
  oG 18 17 true (rmv (T 1)),
  oG 19 17 true (ridxS (T 18) (K 0)),
  oG 20 17 true (rbin env .lss 5 false true (T 19) (.const (.int .u8 128))),
  oV 21 (rpick (T 17) (T 20) (.const (.bool false)))]
noncomputable abbrev c177_7 : RC := .drawn true [dV 22 (rmv (T 0)),
  dV 23 (rmv (T 1)),
  dV 24 (ridxS (T 23) (K 0)),
  dV 26 (rmv (T 1)),
  dV 27 (ridxS (T 26) (K 0)),
  dC true 25 (.func 187) [(T 22), (T 24)],
  dC true 28 (.func 186) [(T 25), (T 27)],
  dV 4 (rmv (T 28))]
noncomputable abbrev c177_8 : RC := .seq c177_7 .ret
noncomputable abbrev c177_9 : RC := .cond (rX 21) c177_8 .skip
noncomputable abbrev c177_10 : RC := .seq c177_6 c177_9
noncomputable abbrev c177_11 : RC := .ops [oV 30 (rmv (T 1)),
  oC 31 (.func 188) [(T 30)],
  oV 29 (rmv (T 31)),
  oV 32 (rext (T 29) 0),
  oV 33 (rext (T 29) 1),
  oU 5 (rnew [.v (.bool false), .v (.bool false), .v (.bool false), .v (.bool false), .v (.bool false), .v (.bool false), .v (.bool false), .v (.bool false), .v (.bool false), .v (.bool false), .v (.bool false), .v (.bool false), .v (.bool false), .v (.bool false), .v (.bool false), .v (.bool false), .v (.bool false), .v (.bool false), .v (.bool false), .v (.bool false), .v (.bool false), .v (.bool false), .v (.bool false), .v (.bool false), .v (.bool false), .v (.bool false), .v (.bool false), .v (.bool false), .v (.bool false), .v (.bool false), .v (.bool false), .v (.bool false), .v (.bool false), .v (.bool false), .v (.bool false), .v (.bool false), .v (.bool false), .v (.bool false), .v (.bool false), .v (.bool false), .v (.bool false), .v (.bool false), .v (.bool false), .v (.bool false), .v (.bool false), .v (.bool false), .v (.bool false), .v (.bool false), .v (.bool false), .v (.bool false), .v (.bool false), .v (.bool false), .v (.bool false), .v (.bool false), .v (.bool false), .v (.bool false), .v (.bool false), .v (.bool false), .v (.bool false), .v (.bool false), .v (.bool false), .v (.bool false), .v (.bool false), .v (.bool false), .v (.bool false), .v (.bool false), .v (.bool false), .v (.bool false), .v (.bool false), .v (.bool false), .v (.bool false), .v (.bool false), .v (.bool false), .v (.bool false), .v (.bool false), .v (.bool false), .v (.bool false), .v (.bool false), .v (.bool false), .v (.bool false), .v (.bool false), .v (.bool false), .v (.bool false), .v (.bool false), .v (.bool false), .v (.bool false), .v (.bool false), .v (.bool false), .v (.bool false), .v (.bool false), .v (.bool false), .v (.bool false), .v (.bool false), .v (.bool false), .v (.bool false), .v (.bool false), .v (.bool false), .v (.bool false), .v (.bool false), .v (.bool false), .v (.bool false), .v (.bool false), .v (.bool false), .v (.bool false), .v (.bool false), .v (.bool false), .v (.bool false), .v (.bool false), .v (.bool false), .v (.bool false), .v (.bool false), .v (.bool false), .v (.bool false), .v (.bool false), .v (.bool false), .v (.bool false), .v (.bool false), .v (.bool false), .v (.bool false), .v (.bool false), .v (.bool false), .v (.bool false), .v (.bool false), .v (.bool false), .v (.bool false), .v (.bool false), .v (.bool false), .v (.bool false), .v (.bool false), .v (.bool false), .v (.bool false), .v (.bool false), .v (.bool false), .v (.bool false), .v (.bool false), .v (.bool false), .v (.bool false), .v (.bool false), .v (.bool false), .v (.bool false), .v (.bool false), .v (.bool false), .v (.bool false), .v (.bool false), .v (.bool false), .v (.bool false), .v (.bool false), .v (.bool false), .v (.bool false), .v (.bool false), .v (.bool false), .v (.bool false), .v (.bool false), .v (.bool false), .v (.bool false), .v (.bool false), .v (.bool false), .v (.bool false), .v (.bool false), .v (.bool false), .v (.bool false), .v (.bool false), .v (.bool false), .v (.bool false), .v (.bool false), .v (.bool false), .v (.bool false), .v (.bool false), .v (.bool false), .v (.bool false), .v (.bool false), .v (.bool false), .v (.bool false), .v (.bool false), .v (.bool false), .v (.bool false), .v (.bool false), .v (.bool false), .v (.bool false), .v (.bool false), .v (.bool false), .v (.bool false), .v (.bool false), .v (.bool false), .v (.bool false), .v (.bool false), .v (.bool false), .v (.bool false), .v (.bool false), .v (.bool false), .v (.bool false), .v (.bool false), .v (.bool false), .v (.bool false), .v (.bool false), .v (.bool false), .v (.bool false), .v (.bool false), .v (.bool false), .v (.bool false), .v (.bool false), .v (.bool false), .v (.bool false), .v (.bool false), .v (.bool false), .v (.bool false), .v (.bool false), .v (.bool false), .v (.bool false), .v (.bool false), .v (.bool false), .v (.bool false), .v (.bool false), .v (.bool false), .v (.bool false), .v (.bool false), .v (.bool false), .v (.bool false), .v (.bool false), .v (.bool false), .v (.bool false), .v (.bool false), .v (.bool false), .v (.bool false), .v (.bool false), .v (.bool false), .v (.bool false), .v (.bool false), .v (.bool false), .v (.bool false), .v (.bool false), .v (.bool false), .v (.bool false), .v (.bool false), .v (.bool false), .v (.bool false), .v (.bool false), .v (.bool false), .v (.bool false), .v (.bool false), .v (.bool false), .v (.bool false), .v (.bool false), .v (.bool false), .v (.bool false), .v (.bool false), .v (.bool false), .v (.bool false), .v (.bool false), .v (.bool false), .v (.bool false), .v (.bool false), .v (.bool false), .v (.bool false), .v (.bool false), .v (.bool false)]),
  oS (rstore 256 (T 5) (T 32)),
  oV 6 (rmv (T 33))]
noncomputable abbrev c177_12 : RC := .ops [oV 34 (rmv (T 6))]
noncomputable abbrev c177_13 : RC := .ops [oV 35 (rmv (T 0)),
  oC 36 (.func 190) [(T 35), (T 5)],
  oC 37 (.func 189) [(T 36), (T 5)],
  oV 4 (rmv (T 37))]
noncomputable abbrev c177_14 : RC := .seq c177_13 .ret
noncomputable abbrev c177_15 : RC := .cond (rX 34) c177_14 .skip
noncomputable abbrev c177_16 : RC := .seq c177_12 c177_15
noncomputable abbrev c177_17 : RC := .seq c177_11 c177_16
noncomputable abbrev c177_18 : RC := .ops [oV 38 (rmv (T 0)),
  oV 39 (rmv (T 1)),
  oC 40 (.func 192) [(T 38), (T 39)],
  oV 41 (rmv (T 1)),
  oC 42 (.func 191) [(T 40), (T 41)],
  oV 4 (rmv (T 42))]
noncomputable abbrev c177_19 : RC := .seq c177_18 .ret
noncomputable abbrev c177_20 : RC := .seq c177_17 c177_19
noncomputable abbrev c177_21 : RC := .seq c177_10 c177_20
noncomputable abbrev c177_22 : RC := .seq c177_5 c177_21
noncomputable abbrev c177_23 : RC := .seq c177_0 c177_22
theorem fn177 : env.fn 177 = some ⟨43, [.tmp 4], body177⟩ := by kernel_rfl
theorem comp177 : comp env body177 = c177_23 := by kernel_rfl
noncomputable def body178 : Code := match Tryz.f178.body with | some c => c | none => .skip
noncomputable abbrev c178_0 : RC := .ops [oV 4 (rmv (.const (.bool false)))]
noncomputable abbrev c178_1 : RC := .ops [oV 5 (rmv (T 0)),
  oV 6 (rmv (T 1)),
  oC 7 (.func 193) [(T 5), (T 6)],
  oV 8 (rbin env .geq 3 false true (T 7) (K 0)),
  oV 4 (rmv (T 8))]
noncomputable abbrev c178_2 : RC := .seq c178_1 .ret
noncomputable abbrev c178_3 : RC := .seq c178_0 c178_2
theorem fn178 : env.fn 178 = some ⟨9, [.tmp 4], body178⟩ := by kernel_rfl
theorem comp178 : comp env body178 = c178_3 := by kernel_rfl
noncomputable def body179 : Code := match Tryz.f179.body with | some c => c | none => .skip
noncomputable abbrev c179_0 : RC := .ops [oV 2 (rmv (.const (.bool false)))]
noncomputable abbrev c179_1 : RC := .ops [oV 3 (rmv (T 0)),
  oC 4 (.func 180) [(.const (.string ⟨#[97, 98, 99, 100, 101, 102, 103, 104, 105, 106, 107, 108, 109, 110, 111, 112, 113, 114, 115, 116, 117, 118, 119, 120, 121, 122, 48, 49, 50, 51, 52, 53, 54, 55, 56, 57, 46, 95, 45]⟩)), (T 3)],
  oV 5 (run' .not (T 4)),
  oV 2 (rmv (T 5))]
noncomputable abbrev c179_2 : RC := .seq c179_1 .ret
noncomputable abbrev c179_3 : RC := .seq c179_0 c179_2
theorem fn179 : env.fn 179 = some ⟨6, [.tmp 2], body179⟩ := by kernel_rfl
theorem comp179 : comp env body179 = c179_3 := by kernel_rfl
noncomputable def body180 : Code := match Tryz.f180.body with | some c => c | none => .skip
noncomputable abbrev c180_0 : RC := .ops [oV 4 (rmv (.const (.bool false)))]
noncomputable abbrev c180_1 : RC := .ops [oV 5 (rmv (T 0)),
  oV 6 (rmv (T 1)),
  oC 7 (.func 194) [(T 5), (T 6)],
  oV 8 (rbin env .geq 3 false true (T 7) (K 0)),
  oV 4 (rmv (T 8))]
noncomputable abbrev c180_2 : RC := .seq c180_1 .ret
noncomputable abbrev c180_3 : RC := .seq c180_0 c180_2
theorem fn180 : env.fn 180 = some ⟨9, [.tmp 4], body180⟩ := by kernel_rfl
theorem comp180 : comp env body180 = c180_3 := by kernel_rfl
noncomputable def body183 : Code := match Tryz.f183.body with | some c => c | none => .skip
noncomputable abbrev c183_0 : RC := .ops [oV 9 (rload false 1 (T 1)),
  oV 10 (rlenS (T 9)),
  oV 11 (rbin env .eql 3 false true (T 10) (K 0))]
noncomputable abbrev c183_1 : RC := .ops [oV 12 (rload false 1 (T 2)),
  oV 13 (rlenS (T 12)),
  oV 14 (rbin env .gtr 3 false true (T 13) (K 0))]
noncomputable abbrev c183_2 : RC := .cond (rX 14) .skip (.exit 0)
noncomputable abbrev c183_3 : RC := .seq c183_1 c183_2
noncomputable abbrev c183_4 : RC := .ops [oV 16 (rload false 1 (T 2)),
  oC 17 (.func 184) [(T 16)],
  oV 15 (rmv (T 17)),
  oV 18 (rext (T 15) 0),
  oV 19 (rext (T 15) 1),
  oV 5 (rmv (T 18)),
  oV 6 (rmv (T 19))]
noncomputable abbrev c183_5 : RC := .ops [oV 20 (rmv (T 0)),
  oV 21 (rload false 1 (T 2)),
  oV 22 (rmv (T 6)),
  oV 23 (rsliceS (T 21) none (some (T 22))),
  oC 24 (T 20) [(T 23)],
  oV 25 (run' .not (T 24))]
noncomputable abbrev c183_6 : RC := .cond (rX 25) .ret .skip
noncomputable abbrev c183_7 : RC := .seq c183_5 c183_6
noncomputable abbrev c183_8 : RC := .ops [oV 26 (rload false 1 (T 2)),
  oV 27 (rmv (T 6)),
  oV 28 (rsliceS (T 26) (some (T 27)) none),
  oS (rstore 1 (T 2) (T 28))]
noncomputable abbrev c183_9 : RC := .seq c183_7 c183_8
noncomputable abbrev c183_10 : RC := .seq c183_4 c183_9
noncomputable abbrev c183_11 : RC := .block 1 c183_10
noncomputable abbrev c183_12 : RC := .seq c183_3 c183_11
noncomputable abbrev c183_13 : RC := .loop c183_12
noncomputable abbrev c183_14 : RC := .block 0 c183_13
noncomputable abbrev c183_15 : RC := .seq c183_14 .ret
noncomputable abbrev c183_16 : RC := .cond (rX 11) c183_15 .skip
noncomputable abbrev c183_17 : RC := .seq c183_0 c183_16
noncomputable abbrev c183_18 : RC := .ops [oV 29 (rload false 1 (T 2)),
  oV 30 (rload false 1 (T 1)),
  oC 31 (.func 185) [(T 29), (T 30)],
  oV 7 (rmv (T 31))]
noncomputable abbrev c183_19 : RC := .ops [oV 32 (rmv (T 7)),
  oV 33 (rbin env .lss 3 false true (T 32) (K 0))]
noncomputable abbrev c183_20 : RC := .cond (rX 33) (.exit 2) .skip
noncomputable abbrev c183_21 : RC := .seq c183_19 c183_20
noncomputable abbrev c183_22 : RC := .ops [oV 34 (rload false 1 (T 2)),
  oV 35 (rmv (T 7)),
  oV 36 (rload false 1 (T 3)),
  oV 37 (rbin env .add 3 false false (T 35) (T 36)),
  oV 38 (rsliceS (T 34) none (some (T 37))),
  oV 8 (rmv (T 38))]
noncomputable abbrev c183_23 : RC := .ops [oV 39 (rmv (T 0)),
  oV 40 (rmv (T 8)),
  oC 41 (T 39) [(T 40)],
  oV 42 (run' .not (T 41))]
noncomputable abbrev c183_24 : RC := .cond (rX 42) .ret .skip
noncomputable abbrev c183_25 : RC := .seq c183_23 c183_24
noncomputable abbrev c183_26 : RC := .ops [oV 43 (rload false 1 (T 2)),
  oV 44 (rmv (T 7)),
  oV 45 (rload false 1 (T 1)),
  oV 46 (rlenS (T 45)),
  oV 47 (rbin env .add 3 false false (T 44) (T 46)),
  oV 48 (rsliceS (T 43) (some (T 47)) none),
  oS (rstore 1 (T 2) (T 48))]
noncomputable abbrev c183_27 : RC := .seq c183_25 c183_26
noncomputable abbrev c183_28 : RC := .seq c183_22 c183_27
noncomputable abbrev c183_29 : RC := .seq c183_21 c183_28
noncomputable abbrev c183_30 : RC := .seq c183_18 c183_29
noncomputable abbrev c183_31 : RC := .block 3 c183_30
noncomputable abbrev c183_32 : RC := .loop c183_31
noncomputable abbrev c183_33 : RC := .block 2 c183_32
noncomputable abbrev c183_34 : RC := .ops [oV 49 (rmv (T 0)),
  oV 50 (rload false 1 (T 2)),
  oC 51 (T 49) [(T 50)]]
noncomputable abbrev c183_35 : RC := .seq c183_33 c183_34
noncomputable abbrev c183_36 : RC := .seq c183_17 c183_35
theorem fn183 : env.fn 183 = some ⟨52, [], body183⟩ := by kernel_rfl
theorem comp183 : comp env body183 = c183_36 := by kernel_rfl
noncomputable def body185 : Code := match Tryz.f185.body with | some c => c | none => .skip
noncomputable abbrev c185_0 : RC := .ops [oV 4 (rmv (K 0))]
noncomputable abbrev c185_1 : RC := .ops [oV 5 (rmv (T 0)),
  oV 6 (rmv (T 1)),
  oC 7 (.func 196) [(T 5), (T 6)],
  oV 4 (rmv (T 7))]
noncomputable abbrev c185_2 : RC := .seq c185_1 .ret
noncomputable abbrev c185_3 : RC := .seq c185_0 c185_2
theorem fn185 : env.fn 185 = some ⟨8, [.tmp 4], body185⟩ := by kernel_rfl
theorem comp185 : comp env body185 = c185_3 := by kernel_rfl
noncomputable def body188 : Code := match Tryz.f188.body with | some c => c | none => .skip
noncomputable abbrev c188_0 : RC := .ops [oU 2 (rnew [.v (.bool false), .v (.bool false), .v (.bool false), .v (.bool false), .v (.bool false), .v (.bool false), .v (.bool false), .v (.bool false), .v (.bool false), .v (.bool false), .v (.bool false), .v (.bool false), .v (.bool false), .v (.bool false), .v (.bool false), .v (.bool false), .v (.bool false), .v (.bool false), .v (.bool false), .v (.bool false), .v (.bool false), .v (.bool false), .v (.bool false), .v (.bool false), .v (.bool false), .v (.bool false), .v (.bool false), .v (.bool false), .v (.bool false), .v (.bool false), .v (.bool false), .v (.bool false), .v (.bool false), .v (.bool false), .v (.bool false), .v (.bool false), .v (.bool false), .v (.bool false), .v (.bool false), .v (.bool false), .v (.bool false), .v (.bool false), .v (.bool false), .v (.bool false), .v (.bool false), .v (.bool false), .v (.bool false), .v (.bool false), .v (.bool false), .v (.bool false), .v (.bool false), .v (.bool false), .v (.bool false), .v (.bool false), .v (.bool false), .v (.bool false), .v (.bool false), .v (.bool false), .v (.bool false), .v (.bool false), .v (.bool false), .v (.bool false), .v (.bool false), .v (.bool false), .v (.bool false), .v (.bool false), .v (.bool false), .v (.bool false), .v (.bool false), .v (.bool false), .v (.bool false), .v (.bool false), .v (.bool false), .v (.bool false), .v (.bool false), .v (.bool false), .v (.bool false), .v (.bool false), .v (.bool false), .v (.bool false), .v (.bool false), .v (.bool false), .v (.bool false), .v (.bool false), .v (.bool false), .v (.bool false), .v (.bool false), .v (.bool false), .v (.bool false), .v (.bool false), .v (.bool false), .v (.bool false), .v (.bool false), .v (.bool false), .v (.bool false), .v (.bool false), .v (.bool false), .v (.bool false), .v (.bool false), .v (.bool false), .v (.bool false), .v (.bool false), .v (.bool false), .v (.bool false), .v (.bool false), .v (.bool false), .v (.bool false), .v (.bool false), .v (.bool false), .v (.bool false), .v (.bool false), .v (.bool false), .v (.bool false), .v (.bool false), .v (.bool false), .v (.bool false), .v (.bool false), .v (.bool false), .v (.bool false), .v (.bool false), .v (.bool false), .v (.bool false), .v (.bool false), .v (.bool false), .v (.bool false), .v (.bool false), .v (.bool false), .v (.bool false), .v (.bool false), .v (.bool false), .v (.bool false), .v (.bool false), .v (.bool false), .v (.bool false), .v (.bool false), .v (.bool false), .v (.bool false), .v (.bool false), .v (.bool false), .v (.bool false), .v (.bool false), .v (.bool false), .v (.bool false), .v (.bool false), .v (.bool false), .v (.bool false), .v (.bool false), .v (.bool false), .v (.bool false), .v (.bool false), .v (.bool false), .v (.bool false), .v (.bool false), .v (.bool false), .v (.bool false), .v (.bool false), .v (.bool false), .v (.bool false), .v (.bool false), .v (.bool false), .v (.bool false), .v (.bool false), .v (.bool false), .v (.bool false), .v (.bool false), .v (.bool false), .v (.bool false), .v (.bool false), .v (.bool false), .v (.bool false), .v (.bool false), .v (.bool false), .v (.bool false), .v (.bool false), .v (.bool false), .v (.bool false), .v (.bool false), .v (.bool false), .v (.bool false), .v (.bool false), .v (.bool false), .v (.bool false), .v (.bool false), .v (.bool false), .v (.bool false), .v (.bool false), .v (.bool false), .v (.bool false), .v (.bool false), .v (.bool false), .v (.bool false), .v (.bool false), .v (.bool false), .v (.bool false), .v (.bool false), .v (.bool false), .v (.bool false), .v (.bool false), .v (.bool false), .v (.bool false), .v (.bool false), .v (.bool false), .v (.bool false), .v (.bool false), .v (.bool false), .v (.bool false), .v (.bool false), .v (.bool false), .v (.bool false), .v (.bool false), .v (.bool false), .v (.bool false), .v (.bool false), .v (.bool false), .v (.bool false), .v (.bool false), .v (.bool false), .v (.bool false), .v (.bool false), .v (.bool false), .v (.bool false), .v (.bool false), .v (.bool false), .v (.bool false), .v (.bool false), .v (.bool false), .v (.bool false), .v (.bool false), .v (.bool false), .v (.bool false), .v (.bool false), .v (.bool false), .v (.bool false), .v (.bool false), .v (.bool false), .v (.bool false), .v (.bool false), .v (.bool false), .v (.bool false), .v (.bool false), .v (.bool false), .v (.bool false), .v (.bool false), .v (.bool false), .v (.bool false), .v (.bool false), .v (.bool false), .v (.bool false), .v (.bool false), .v (.bool false), .v (.bool false), .v (.bool false), .v (.bool false), .v (.bool false), .v (.bool false), .v (.bool false)]),
  oV 3 (rmv (.const (.bool false)))]
noncomputable abbrev c188_1 : RC := .ops [oV 4 (rmv (K 0))]
noncomputable abbrev c188_2 : RC := .ops [oV 6 (rmv (T 4)),
  oV 7 (rmv (T 0)),
  oV 8 (rlenS (T 7)),
  oV 9 (rbin env .lss 3 false false (T 6) (T 8))]
noncomputable abbrev c188_3 : RC := .cond (rX 9) .skip (.exit 0)
noncomputable abbrev c188_4 : RC := .seq c188_2 c188_3
noncomputable abbrev c188_5 : RC := .ops [oV 12 (rmv (T 0)),
  oV 13 (rmv (T 4)),
  oV 14 (ridxS (T 12) (T 13)),
  oV 5 (rmv (T 14))]
noncomputable abbrev c188_6 : RC := .ops [oV 15 (rmv (T 5)),
  oV 16 (rbin env .geq 5 false true (T 15) (.const (.int .u8 128)))]
noncomputable abbrev c188_7 : RC := .ops [oV 17 (rload true 256 (T 2)),
  oS (rstore 256 (T 2) (T 17)),
  oV 3 (rmv (.const (.bool false)))]
noncomputable abbrev c188_8 : RC := .seq c188_7 .ret
noncomputable abbrev c188_9 : RC := .cond (rX 16) c188_8 .skip
noncomputable abbrev c188_10 : RC := .seq c188_6 c188_9
noncomputable abbrev c188_11 : RC := .ops [oV 18 (rmv (T 5)),
  oV 19 (riaddrA 256 1 (T 2) (T 18)),
  oS (rstore 1 (T 19) (.const (.bool true)))]
noncomputable abbrev c188_12 : RC := .seq c188_10 c188_11
noncomputable abbrev c188_13 : RC := .seq c188_5 c188_12
noncomputable abbrev c188_14 : RC := .block 1 c188_13
noncomputable abbrev c188_15 : RC := .ops [oV 10 (rmv (T 4)),
  oV 11 (rbin env .add 3 false true (T 10) (K 1)),
  oV 4 (rmv (T 11))]
noncomputable abbrev c188_16 : RC := .seq c188_14 c188_15
noncomputable abbrev c188_17 : RC := .seq c188_4 c188_16
noncomputable abbrev c188_18 : RC := .loop c188_17
noncomputable abbrev c188_19 : RC := .block 0 c188_18
noncomputable abbrev c188_20 : RC := .seq c188_1 c188_19
noncomputable abbrev c188_21 : RC := .ops [oV 20 (rload true 256 (T 2)),
  oS (rstore 256 (T 2) (T 20)),
  oV 3 (rmv (.const (.bool true)))]
noncomputable abbrev c188_22 : RC := .seq c188_21 .ret
noncomputable abbrev c188_23 : RC := .seq c188_20 c188_22
noncomputable abbrev c188_24 : RC := .seq c188_0 c188_23
theorem fn188 : env.fn 188 = some ⟨21, [.cell 2 211, .tmp 3], body188⟩ := by kernel_rfl
theorem comp188 : comp env body188 = c188_24 := by kernel_rfl
noncomputable def body189 : Code := match Tryz.f189.body with | some c => c | none => .skip
noncomputable abbrev c189_0 : RC := .ops [oV 4 (rmv (.const (.string ⟨#[]⟩)))]
noncomputable abbrev c189_1 : RC := .ops [oV 5 (rmv (T 0)),
  oV 6 (rlenS (T 5)),
  oV 7 (rbin env .gtr 3 false true (T 6) (K 0))]
noncomputable abbrev c189_2 : RC := .cond (rX 7) .skip (.exit 0)
noncomputable abbrev c189_3 : RC := .seq c189_1 c189_2
noncomputable abbrev c189_4 : RC := .ops [oV 8 (rmv (T 1)),
  oV 9 (rmv (T 0)),
  oV 10 (ridxS (T 9) (K 0)),
  oC 11 (.func 197) [(T 8), (T 10)],
  oV 12 (run' .not (T 11))]
noncomputable abbrev c189_5 : RC := .cond (rX 12) (.exit 0) .skip
noncomputable abbrev c189_6 : RC := .seq c189_4 c189_5
noncomputable abbrev c189_7 : RC := .ops [oV 13 (rmv (T 0)),
  oV 14 (rsliceS (T 13) (some (K 1)) none),
  oV 0 (rmv (T 14))]
noncomputable abbrev c189_8 : RC := .seq c189_6 c189_7
noncomputable abbrev c189_9 : RC := .block 1 c189_8
noncomputable abbrev c189_10 : RC := .seq c189_3 c189_9
noncomputable abbrev c189_11 : RC := .loop c189_10
noncomputable abbrev c189_12 : RC := .block 0 c189_11
noncomputable abbrev c189_13 : RC := .ops [oV 15 (rmv (T 0)),
  oV 4 (rmv (T 15))]
noncomputable abbrev c189_14 : RC := .seq c189_13 .ret
noncomputable abbrev c189_15 : RC := .seq c189_12 c189_14
noncomputable abbrev c189_16 : RC := .seq c189_0 c189_15
theorem fn189 : env.fn 189 = some ⟨16, [.tmp 4], body189⟩ := by kernel_rfl
theorem comp189 : comp env body189 = c189_16 := by kernel_rfl
noncomputable def body190 : Code := match Tryz.f190.body with | some c => c | none => .skip
noncomputable abbrev c190_0 : RC := .ops [oV 4 (rmv (.const (.string ⟨#[]⟩)))]
noncomputable abbrev c190_1 : RC := .ops [oV 5 (rmv (T 0)),
  oV 6 (rlenS (T 5)),
  oV 7 (rbin env .gtr 3 false true (T 6) (K 0))]
noncomputable abbrev c190_2 : RC := .cond (rX 7) .skip (.exit 0)
noncomputable abbrev c190_3 : RC := .seq c190_1 c190_2
noncomputable abbrev c190_4 : RC := .ops [oV 8 (rmv (T 1)),
  oV 9 (rmv (T 0)),
  oV 10 (rmv (T 0)),
  oV 11 (rlenS (T 10)),
  oV 12 (rbin env .sub 3 false true (T 11) (K 1)),
  oV 13 (ridxS (T 9) (T 12)),
  oC 14 (.func 197) [(T 8), (T 13)],
  oV 15 (run' .not (T 14))]
noncomputable abbrev c190_5 : RC := .cond (rX 15) (.exit 0) .skip
noncomputable abbrev c190_6 : RC := .seq c190_4 c190_5
noncomputable abbrev c190_7 : RC := .ops [oV 16 (rmv (T 0)),
  oV 17 (rmv (T 0)),
  oV 18 (rlenS (T 17)),
  oV 19 (rbin env .sub 3 false true (T 18) (K 1)),
  oV 20 (rsliceS (T 16) none (some (T 19))),
  oV 0 (rmv (T 20))]
noncomputable abbrev c190_8 : RC := .seq c190_6 c190_7
noncomputable abbrev c190_9 : RC := .block 1 c190_8
noncomputable abbrev c190_10 : RC := .seq c190_3 c190_9
noncomputable abbrev c190_11 : RC := .loop c190_10
noncomputable abbrev c190_12 : RC := .block 0 c190_11
noncomputable abbrev c190_13 : RC := .ops [oV 21 (rmv (T 0)),
  oV 4 (rmv (T 21))]
noncomputable abbrev c190_14 : RC := .seq c190_13 .ret
noncomputable abbrev c190_15 : RC := .seq c190_12 c190_14
noncomputable abbrev c190_16 : RC := .seq c190_0 c190_15
theorem fn190 : env.fn 190 = some ⟨22, [.tmp 4], body190⟩ := by kernel_rfl
theorem comp190 : comp env body190 = c190_16 := by kernel_rfl
noncomputable def body193 : Code := match Tryz.f193.body with | some c => c | none => .skip
noncomputable abbrev c193_0 : RC := .ops [oV 4 (rmv (K 0))]
noncomputable abbrev c193_1 : RC := .ops [oV 5 (rmv (T 0)),
  oV 6 (rmv (T 1)),
  oC 7 (.func 199) [(T 5), (T 6), (.const (.bool true))],
  oV 4 (rmv (T 7))]
noncomputable abbrev c193_2 : RC := .seq c193_1 .ret
noncomputable abbrev c193_3 : RC := .seq c193_0 c193_2
theorem fn193 : env.fn 193 = some ⟨8, [.tmp 4], body193⟩ := by kernel_rfl
theorem comp193 : comp env body193 = c193_3 := by kernel_rfl
noncomputable def body194 : Code := match Tryz.f194.body with | some c => c | none => .skip
noncomputable abbrev c194_0 : RC := .ops [oV 4 (rmv (K 0))]
noncomputable abbrev c194_1 : RC := .ops [oV 161 (rmv (T 1)),
  oV 162 (rbin env .leq 21 true false (.const (.int .i32 0)) (T 161)),
  oV 163 (rmv (T 162)),
  oG 164 163 true (rmv (T 1)),
  oG 165 163 true (rbin env .lss 21 false true (T 164) (.const (.int .i32 128))),
  oV 166 (rpick (T 163) (T 165) (.const (.bool false))),
  oV 160 (rmv (T 166))]
noncomputable abbrev c194_2 : RC := .ops [oV 167 (rmv (T 0)),
  oV 168 (rmv (T 1)),
  oU 169 (rconvI .u8 (T 168)),
  oC 170 (.func 200) [(T 167), (T 169)],
  oV 4 (rmv (T 170))]
noncomputable abbrev c194_3 : RC := .seq c194_2 .ret
noncomputable abbrev c194_4 : RC := .ops [oV 172 (rmv (T 1)),
  oV 173 (rbin env .eql 21 false true (T 172) (.const (.int .i32 65533))),
  oV 171 (rmv (T 173))]
noncomputable abbrev c194_5 : RC := .ops [oV 174 (rmv (T 0)),
  oU 175 (rrange (T 174))]
noncomputable abbrev c194_6 : RC := .ops [oU 176 (rnext (T 175)),
  oV 177 (rext (T 176) 0)]
noncomputable abbrev c194_7 : RC := .cond (rX 177) .skip (.exit 9)
noncomputable abbrev c194_8 : RC := .ops [oV 178 (rext (T 176) 1),
  oV 179 (rext (T 176) 2),
  oV 5 (rmv (T 178)),
  oV 6 (rmv (T 179))]
noncomputable abbrev c194_9 : RC := .ops [oV 180 (rmv (T 6)),
  oV 181 (rbin env .eql 21 false true (T 180) (.const (.int .i32 65533)))]
noncomputable abbrev c194_10 : RC := .ops [oV 182 (rmv (T 5)),
  oV 4 (rmv (T 182))]
noncomputable abbrev c194_11 : RC := .seq c194_10 .ret
noncomputable abbrev c194_12 : RC := .cond (rX 181) c194_11 .skip
noncomputable abbrev c194_13 : RC := .seq c194_9 c194_12
noncomputable abbrev c194_14 : RC := .seq c194_8 c194_13
noncomputable abbrev c194_15 : RC := .block 10 c194_14
noncomputable abbrev c194_16 : RC := .seq c194_7 c194_15
noncomputable abbrev c194_17 : RC := .seq c194_6 c194_16
noncomputable abbrev c194_18 : RC := .loop c194_17
noncomputable abbrev c194_19 : RC := .block 9 c194_18
noncomputable abbrev c194_20 : RC := .seq c194_5 c194_19
noncomputable abbrev c194_21 : RC := .ops [oV 4 (rmv (K (-1)))]
noncomputable abbrev c194_22 : RC := .seq c194_21 .ret
noncomputable abbrev c194_23 : RC := .seq c194_20 c194_22
noncomputable abbrev c194_24 : RC := .ops [oV 184 (rmv (T 1)),
  oC 185 (.func 201) [(T 184)],
  oV 186 (run' .not (T 185)),
  oV 183 (rmv (T 186))]
noncomputable abbrev c194_25 : RC := .ops [oV 4 (rmv (K (-1)))]
noncomputable abbrev c194_26 : RC := .seq c194_25 .ret
noncomputable abbrev c194_133 : RC := .scope (subc [1, 0, 1, 1, 1, 1, 1, 1, 0] body194)
noncomputable abbrev c194_134 : RC := .cond (rX 183) c194_26 c194_133
noncomputable abbrev c194_135 : RC := .seq c194_24 c194_134
noncomputable abbrev c194_136 : RC := .cond (rX 171) c194_23 c194_135
noncomputable abbrev c194_137 : RC := .seq c194_4 c194_136
noncomputable abbrev c194_138 : RC := .cond (rX 160) c194_3 c194_137
noncomputable abbrev c194_139 : RC := .seq c194_1 c194_138
noncomputable abbrev c194_140 : RC := .block 0 c194_139
noncomputable abbrev c194_141 : RC := .seq c194_0 c194_140
theorem fn194 : env.fn 194 = some ⟨187, [.tmp 4], body194⟩ := by kernel_rfl
theorem comp194 : comp env body194 = c194_141 := by kernel_rfl
noncomputable def body196 : Code := match Tryz.f196.body with | some c => c | none => .skip
noncomputable abbrev c196_0 : RC := .ops [oV 4 (rmv (K 0))]
noncomputable abbrev c196_1 : RC := .ops [oV 14 (rmv (T 1)),
  oV 15 (rlenS (T 14)),
  oV 5 (rmv (T 15))]
noncomputable abbrev c196_2 : RC := .ops [oV 17 (rmv (T 5)),
  oV 18 (rbin env .eql 3 false true (T 17) (K 0)),
  oV 19 (rmv (T 18)),
  oG 20 19 false (rmv (T 1)),
  oG 21 19 false (rmv (T 0)),
  oG 22 19 false (rbin env .eql 9 false false (T 20) (T 21)),
  oV 23 (rpick (T 19) (.const (.bool true)) (T 22)),
  oV 16 (rmv (T 23))]
noncomputable abbrev c196_3 : RC := .ops [oV 4 (rmv (K 0))]
noncomputable abbrev c196_4 : RC := .seq c196_3 .ret
noncomputable abbrev c196_5 : RC := .ops [oV 25 (rmv (T 5)),
  oV 26 (rbin env .eql 3 false true (T 25) (K 1)),
  oV 24 (rmv (T 26))]
noncomputable abbrev c196_6 : RC := .ops [oV 27 (rmv (T 0)),
  oV 28 (rmv (T 1)),
  oV 29 (ridxS (T 28) (K 0)),
  oC 30 (.func 204) [(T 27), (T 29)],
  oV 4 (rmv (T 30))]
noncomputable abbrev c196_7 : RC := .seq c196_6 .ret
noncomputable abbrev c196_8 : RC := .ops [oV 32 (rmv (T 5)),
  oV 33 (rmv (T 0)),
  oV 34 (rlenS (T 33)),
  oV 35 (rbin env .geq 3 false false (T 32) (T 34)),
  oV 31 (rmv (T 35))]
noncomputable abbrev c196_9 : RC := .ops [oV 4 (rmv (K (-1)))]
noncomputable abbrev c196_10 : RC := .seq c196_9 .ret
noncomputable abbrev c196_11 : RC := .ops [oV 37 (rmv (T 5)),
  oV 38 (rload false 1 (.global 0)),
  oV 39 (rbin env .leq 3 false false (T 37) (T 38)),
  oV 40 (rmv (T 39)),
  oG 41 40 true (rmv (T 0)),
  oG 42 40 true (rlenS (T 41)),
  oG 43 40 true (rbin env .leq 3 false true (T 42) (K 64)),
  oV 44 (rpick (T 40) (T 43) (.const (.bool false))),
  oV 36 (rmv (T 44))]
noncomputable abbrev c196_12 : RC := .ops [oV 45 (rmv (T 0)),
  oV 46 (rmv (T 1)),
  oC 47 (.func 203) [(T 45), (T 46)],
  oV 4 (rmv (T 47))]
noncomputable abbrev c196_13 : RC := .seq c196_12 .ret
noncomputable abbrev c196_14 : RC := .cond (rX 36) c196_13 .skip
noncomputable abbrev c196_15 : RC := .seq c196_11 c196_14
noncomputable abbrev c196_16 : RC := .cond (rX 31) c196_10 c196_15
noncomputable abbrev c196_17 : RC := .seq c196_8 c196_16
noncomputable abbrev c196_18 : RC := .cond (rX 24) c196_7 c196_17
noncomputable abbrev c196_19 : RC := .seq c196_5 c196_18
noncomputable abbrev c196_20 : RC := .cond (rX 16) c196_4 c196_19
noncomputable abbrev c196_21 : RC := .seq c196_2 c196_20
noncomputable abbrev c196_22 : RC := .block 0 c196_21
noncomputable abbrev c196_23 : RC := .ops [oV 48 (rmv (T 1)),
  oV 49 (ridxS (T 48) (K 0)),
  oV 6 (rmv (T 49))]
noncomputable abbrev c196_24 : RC := .ops [oV 50 (rmv (T 1)),
  oV 51 (ridxS (T 50) (K 1)),
  oV 7 (rmv (T 51))]
noncomputable abbrev c196_25 : RC := .ops [oV 8 (rmv (K 0))]
noncomputable abbrev c196_26 : RC := .ops [oV 52 (rmv (T 0)),
  oV 53 (rlenS (T 52)),
  oV 54 (rmv (T 5)),
  oV 55 (rbin env .sub 3 false false (T 53) (T 54)),
  oV 56 (rbin env .add 3 false true (T 55) (K 1)),
  oV 9 (rmv (T 56))]
noncomputable abbrev c196_27 : RC := .ops [oV 10 (rmv (K 0))]
noncomputable abbrev c196_28 : RC := .ops [oV 57 (rmv (T 8)),
  oV 58 (rmv (T 9)),
  oV 59 (rbin env .lss 3 false false (T 57) (T 58))]
noncomputable abbrev c196_29 : RC := .cond (rX 59) .skip (.exit 1)
noncomputable abbrev c196_30 : RC := .seq c196_28 c196_29
noncomputable abbrev c196_31 : RC := .ops [oV 60 (rmv (T 0)),
  oV 61 (rmv (T 8)),
  oV 62 (ridxS (T 60) (T 61)),
  oV 63 (rmv (T 6)),
  oV 64 (rbin env .neq 5 false false (T 62) (T 63))]
noncomputable abbrev c196_32 : RC := .ops [oV 65 (rmv (T 0)),
  oV 66 (rmv (T 8)),
  oV 67 (rbin env .add 3 false true (T 66) (K 1)),
  oV 68 (rmv (T 9)),
  oV 69 (rsliceS (T 65) (some (T 67)) (some (T 68))),
  oV 70 (rmv (T 6)),
  oC 71 (.func 204) [(T 69), (T 70)],
  oV 11 (rmv (T 71))]
noncomputable abbrev c196_33 : RC := .ops [oV 72 (rmv (T 11)),
  oV 73 (rbin env .lss 3 false true (T 72) (K 0))]
noncomputable abbrev c196_34 : RC := .ops [oV 4 (rmv (K (-1)))]
noncomputable abbrev c196_35 : RC := .seq c196_34 .ret
noncomputable abbrev c196_36 : RC := .cond (rX 73) c196_35 .skip
noncomputable abbrev c196_37 : RC := .seq c196_33 c196_36
noncomputable abbrev c196_38 : RC := .ops [oV 74 (rmv (T 8)),
  oV 75 (rmv (T 11)),
  oV 76 (rbin env .add 3 false true (T 75) (K 1)),
  oV 77 (rbin env .add 3 false false (T 74) (T 76)),
  oV 8 (rmv (T 77))]
noncomputable abbrev c196_39 : RC := .seq c196_37 c196_38
noncomputable abbrev c196_40 : RC := .seq c196_32 c196_39
noncomputable abbrev c196_41 : RC := .cond (rX 64) c196_40 .skip
noncomputable abbrev c196_42 : RC := .seq c196_31 c196_41
noncomputable abbrev c196_43 : RC := .ops [oV 78 (rmv (T 0)),
  oV 79 (rmv (T 8)),
  oV 80 (rbin env .add 3 false true (T 79) (K 1)),
  oV 81 (ridxS (T 78) (T 80)),
  oV 82 (rmv (T 7)),
  oV 83 (rbin env .eql 5 false false (T 81) (T 82)),
  oV 84 (rmv (T 83)),
  oG 85 84 true (rmv (T 0)),
  oG 86 84 true (rmv (T 8)),
  oG 87 84 true (rmv (T 8)),
  oG 88 84 true (rmv (T 5)),
  oG 89 84 true (rbin env .add 3 false false (T 87) (T 88)),
  oG 90 84 true (rsliceS (T 85) (some (T 86)) (some (T 89))),
  oG 91 84 true (rmv (T 1)),
  oG 92 84 true (rbin env .eql 9 false false (T 90) (T 91)),
  oV 93 (rpick (T 84) (T 92) (.const (.bool false)))]
noncomputable abbrev c196_44 : RC := .ops [oV 94 (rmv (T 8)),
  oV 4 (rmv (T 94))]
noncomputable abbrev c196_45 : RC := .seq c196_44 .ret
noncomputable abbrev c196_46 : RC := .cond (rX 93) c196_45 .skip
noncomputable abbrev c196_47 : RC := .seq c196_43 c196_46
noncomputable abbrev c196_48 : RC := .ops [oV 95 (rmv (T 8)),
  oV 96 (rbin env .add 3 false true (T 95) (K 1)),
  oV 8 (rmv (T 96))]
noncomputable abbrev c196_49 : RC := .ops [oV 97 (rmv (T 10)),
  oV 98 (rbin env .add 3 false true (T 97) (K 1)),
  oV 10 (rmv (T 98))]
noncomputable abbrev c196_50 : RC := .ops [oV 99 (rmv (T 5)),
  oV 100 (rload false 1 (.global 0)),
  oV 101 (rbin env .leq 3 false false (T 99) (T 100)),
  oV 102 (rmv (T 101)),
  oG 103 102 true (rmv (T 10)),
  oG 104 102 true (rmv (T 8)),
  oCG 105 102 true (.func 202) [(T 104)],
  oG 106 102 true (rbin env .gtr 3 false false (T 103) (T 105)),
  oV 107 (rpick (T 102) (T 106) (.const (.bool false)))]
noncomputable abbrev c196_51 : RC := .ops [oV 108 (rmv (T 0)),
  oV 109 (rmv (T 8)),
  oV 110 (rsliceS (T 108) (some (T 109)) none),
  oV 111 (rmv (T 1)),
  oC 112 (.func 203) [(T 110), (T 111)],
  oV 12 (rmv (T 112))]
noncomputable abbrev c196_52 : RC := .ops [oV 113 (rmv (T 12)),
  oV 114 (rbin env .geq 3 false true (T 113) (K 0))]
noncomputable abbrev c196_53 : RC := .ops [oV 115 (rmv (T 12)),
  oV 116 (rmv (T 8)),
  oV 117 (rbin env .add 3 false false (T 115) (T 116)),
  oV 4 (rmv (T 117))]
noncomputable abbrev c196_54 : RC := .seq c196_53 .ret
noncomputable abbrev c196_55 : RC := .cond (rX 114) c196_54 .skip
noncomputable abbrev c196_56 : RC := .seq c196_52 c196_55
noncomputable abbrev c196_57 : RC := .ops [oV 4 (rmv (K (-1)))]
noncomputable abbrev c196_58 : RC := .seq c196_57 .ret
noncomputable abbrev c196_59 : RC := .seq c196_56 c196_58
noncomputable abbrev c196_60 : RC := .seq c196_51 c196_59
noncomputable abbrev c196_61 : RC := .ops [oV 118 (rmv (T 5)),
  oV 119 (rload false 1 (.global 0)),
  oV 120 (rbin env .gtr 3 false false (T 118) (T 119)),
  oV 121 (rmv (T 120)),
  oG 122 121 true (rmv (T 10)),
  oG 123 121 true (rmv (T 8)),
  oG 124 121 true (rbin env .shr 3 false true (T 123) (.const (.int .u64 4))),
  oG 125 121 true (rbin env .add 3 true false (K 4) (T 124)),
  oG 126 121 true (rbin env .geq 3 false false (T 122) (T 125)),
  oV 127 (rpick (T 121) (T 126) (.const (.bool false))),
  oV 128 (rmv (T 127)),
  oG 129 128 true (rmv (T 8)),
  oG 130 128 true (rmv (T 9)),
  oG 131 128 true (rbin env .lss 3 false false (T 129) (T 130)),
  oV 132 (rpick (T 128) (T 131) (.const (.bool false)))]
noncomputable abbrev c196_62 : RC := .ops [oV 133 (rmv (T 0)),
  oV 134 (rmv (T 8)),
  oV 135 (rsliceS (T 133) (some (T 134)) none),
  oV 136 (rmv (T 1)),
  oC 137 (.func 205) [(T 135), (T 136)],
  oV 13 (rmv (T 137))]
noncomputable abbrev c196_63 : RC := .ops [oV 138 (rmv (T 13)),
  oV 139 (rbin env .lss 3 false true (T 138) (K 0))]
noncomputable abbrev c196_64 : RC := .ops [oV 4 (rmv (K (-1)))]
noncomputable abbrev c196_65 : RC := .seq c196_64 .ret
noncomputable abbrev c196_66 : RC := .cond (rX 139) c196_65 .skip
noncomputable abbrev c196_67 : RC := .seq c196_63 c196_66
noncomputable abbrev c196_68 : RC := .ops [oV 140 (rmv (T 8)),
  oV 141 (rmv (T 13)),
  oV 142 (rbin env .add 3 false false (T 140) (T 141)),
  oV 4 (rmv (T 142))]
noncomputable abbrev c196_69 : RC := .seq c196_68 .ret
noncomputable abbrev c196_70 : RC := .seq c196_67 c196_69
noncomputable abbrev c196_71 : RC := .seq c196_62 c196_70
noncomputable abbrev c196_72 : RC := .cond (rX 132) c196_71 .skip
noncomputable abbrev c196_73 : RC := .seq c196_61 c196_72
noncomputable abbrev c196_74 : RC := .cond (rX 107) c196_60 c196_73
noncomputable abbrev c196_75 : RC := .seq c196_50 c196_74
noncomputable abbrev c196_76 : RC := .seq c196_49 c196_75
noncomputable abbrev c196_77 : RC := .seq c196_48 c196_76
noncomputable abbrev c196_78 : RC := .seq c196_47 c196_77
noncomputable abbrev c196_79 : RC := .seq c196_42 c196_78
noncomputable abbrev c196_80 : RC := .block 2 c196_79
noncomputable abbrev c196_81 : RC := .seq c196_30 c196_80
noncomputable abbrev c196_82 : RC := .loop c196_81
noncomputable abbrev c196_83 : RC := .block 1 c196_82
noncomputable abbrev c196_84 : RC := .ops [oV 4 (rmv (K (-1)))]
noncomputable abbrev c196_85 : RC := .seq c196_84 .ret
noncomputable abbrev c196_86 : RC := .seq c196_83 c196_85
noncomputable abbrev c196_87 : RC := .seq c196_27 c196_86
noncomputable abbrev c196_88 : RC := .seq c196_26 c196_87
noncomputable abbrev c196_89 : RC := .seq c196_25 c196_88
noncomputable abbrev c196_90 : RC := .seq c196_24 c196_89
noncomputable abbrev c196_91 : RC := .seq c196_23 c196_90
noncomputable abbrev c196_92 : RC := .seq c196_22 c196_91
noncomputable abbrev c196_93 : RC := .seq c196_1 c196_92
noncomputable abbrev c196_94 : RC := .seq c196_0 c196_93
theorem fn196 : env.fn 196 = some ⟨143, [.tmp 4], body196⟩ := by kernel_rfl
theorem comp196 : comp env body196 = c196_94 := by kernel_rfl
noncomputable def body197 : Code := match Tryz.f197.body with | some c => c | none => .skip
noncomputable abbrev c197_0 : RC := .ops [oV 4 (rmv (.const (.bool false)))]
noncomputable abbrev c197_1 : RC := .ops [oV 5 (rmv (T 0)),
  oV 6 (rmv (T 1)),
  oV 7 (rnil (T 5)),
  oV 8 (riaddrA 256 1 (T 7) (T 6)),
  oV 9 (rload false 1 (T 8)),
  oV 4 (rmv (T 9))]
noncomputable abbrev c197_2 : RC := .seq c197_1 .ret
noncomputable abbrev c197_3 : RC := .seq c197_0 c197_2
theorem fn197 : env.fn 197 = some ⟨10, [.tmp 4], body197⟩ := by kernel_rfl
theorem comp197 : comp env body197 = c197_3 := by kernel_rfl
noncomputable def body199 : Code := match Tryz.f199.body with | some c => c | none => .skip
noncomputable abbrev c199_0 : RC := .ops [oV 6 (rmv (K 0))]
noncomputable abbrev c199_1 : RC := .ops [oV 9 (rmv (T 0)),
  oU 10 (rrange (T 9))]
noncomputable abbrev c199_2 : RC := .ops [oU 11 (rnext (T 10)),
  oV 12 (rext (T 11) 0)]
noncomputable abbrev c199_3 : RC := .cond (rX 12) .skip (.exit 0)
noncomputable abbrev c199_4 : RC := .ops [oV 13 (rext (T 11) 1),
  oV 14 (rext (T 11) 2),
  oV 7 (rmv (T 13)),
  oV 8 (rmv (T 14))]
noncomputable abbrev c199_5 : RC := .ops [oV 15 (rmv (T 1)),
  oV 16 (rmv (T 8)),
  oC 17 (T 15) [(T 16)],
  oV 18 (rmv (T 2)),
  oV 19 (rbin env .eql 4 false false (T 17) (T 18))]
noncomputable abbrev c199_6 : RC := .ops [oV 20 (rmv (T 7)),
  oV 6 (rmv (T 20))]
noncomputable abbrev c199_7 : RC := .seq c199_6 .ret
noncomputable abbrev c199_8 : RC := .cond (rX 19) c199_7 .skip
noncomputable abbrev c199_9 : RC := .seq c199_5 c199_8
noncomputable abbrev c199_10 : RC := .seq c199_4 c199_9
noncomputable abbrev c199_11 : RC := .block 1 c199_10
noncomputable abbrev c199_12 : RC := .seq c199_3 c199_11
noncomputable abbrev c199_13 : RC := .seq c199_2 c199_12
noncomputable abbrev c199_14 : RC := .loop c199_13
noncomputable abbrev c199_15 : RC := .block 0 c199_14
noncomputable abbrev c199_16 : RC := .seq c199_1 c199_15
noncomputable abbrev c199_17 : RC := .ops [oV 6 (rmv (K (-1)))]
noncomputable abbrev c199_18 : RC := .seq c199_17 .ret
noncomputable abbrev c199_19 : RC := .seq c199_16 c199_18
noncomputable abbrev c199_20 : RC := .seq c199_0 c199_19
theorem fn199 : env.fn 199 = some ⟨21, [.tmp 6], body199⟩ := by kernel_rfl
theorem comp199 : comp env body199 = c199_20 := by kernel_rfl
noncomputable def body200 : Code := match Tryz.f200.body with | some c => c | none => .skip
noncomputable abbrev c200_0 : RC := .ops [oV 4 (rmv (K 0))]
noncomputable abbrev c200_1 : RC := .ops [oV 5 (rmv (T 0)),
  oV 6 (rmv (T 1)),
  oC 7 (.func 204) [(T 5), (T 6)],
  oV 4 (rmv (T 7))]
noncomputable abbrev c200_2 : RC := .seq c200_1 .ret
noncomputable abbrev c200_3 : RC := .seq c200_0 c200_2
theorem fn200 : env.fn 200 = some ⟨8, [.tmp 4], body200⟩ := by kernel_rfl
theorem comp200 : comp env body200 = c200_3 := by kernel_rfl
noncomputable def body204 : Code := match Tryz.f204.body with | some c => c | none => .skip
noncomputable abbrev c204_0 : RC := .ops [oV 4 (rmv (K 0))]
noncomputable abbrev c204_1 : RC := .ops [oV 5 (rmv (T 0)),
  oV 6 (rmv (T 1)),
  oC 7 (.func 207) [(T 5), (T 6)],
  oV 4 (rmv (T 7))]
noncomputable abbrev c204_2 : RC := .seq c204_1 .ret
noncomputable abbrev c204_3 : RC := .seq c204_0 c204_2
theorem fn204 : env.fn 204 = some ⟨8, [.tmp 4], body204⟩ := by kernel_rfl
theorem comp204 : comp env body204 = c204_3 := by kernel_rfl
end Go.Proofs.YtmgmbdnhodicjaaGreatDoor
end

section
namespace Go.Am
open Go.RowKit
inductive Sh where
  | bool | int (k : IntKind) | str | sl (l : List Sh)
mutual
inductive Typ (P : Program) : TypeId → List Sh → Prop where
  | bool {t : TypeId} (h : P.underlying t = some .bool) : Typ P t [.bool]
  | int {t : TypeId} {k : IntKind} (h : P.underlying t = some (.int k)) : Typ P t [.int k]
  | str {t : TypeId} (h : P.underlying t = some .string) : Typ P t [.str]
  | sl {t e : TypeId} {l : List Sh} (h : P.underlying t = some (.slice e)) (he : Typ P e l) (hc : P.cellsOf e = l.length) (h0 : l.length ≠ 0) (hs : l.length < 4096) : Typ P t [.sl l]
  | struct {t : TypeId} {fs : Array Field} {l : List Sh} (h : P.underlying t = some (.struct fs)) (hf : TypFs P fs.toList 0 l) (hc : P.cellsOf t = l.length) : Typ P t l
inductive TypFs (P : Program) : List Field → Nat → List Sh → Prop where
  | nil {n : Nat} : TypFs P [] n []
  | cons {f : Field} {fs : List Field} {n : Nat} {l l' : List Sh} (ho : f.offset = n) (h : Typ P f.type l) (hc : P.cellsOf f.type = l.length) (hs : TypFs P fs (n + l.length) l') : TypFs P (f :: fs) n (l ++ l')
end
mutual
inductive ShP : Sh → DV → Prop where
  | bool (b : Bool) : ShP .bool (.v (.bool b))
  | int {k : IntKind} (n : Int) (h1 : k.min ≤ n) (h2 : n ≤ k.max) : ShP (.int k) (.v (.int k n))
  | str (s : ByteArray) (h : s.size ≤ maxLen) : ShP .str (.v (.string s))
  | nil (l : List Sh) : ShP (.sl l) (.v (.slice none 0 0))
  | sl {l : List Sh} {n : Nat} {cs : List DV} (h : ShRows l n cs) (hn : n ≤ maxLen) (hl : l.length < 4096) : ShP (.sl l) (.lst l.length n cs)
inductive ShPs : List Sh → List DV → Prop where
  | nil : ShPs [] []
  | cons {s : Sh} {d : DV} {l : List Sh} {l' : List DV} (h : ShP s d) (hs : ShPs l l') : ShPs (s :: l) (d :: l')
inductive ShRows : List Sh → Nat → List DV → Prop where
  | nil (l : List Sh) : ShRows l 0 []
  | cons {l : List Sh} {n : Nat} {r cs : List DV} (h : ShPs l r) (hs : ShRows l n cs) : ShRows l (n + 1) (r ++ cs)
end
theorem ShPs.length : ∀ {l : List Sh} {ds : List DV}, ShPs l ds → ds.length = l.length
  | _, _, .nil => rfl
  | _, _, .cons _ hs => by simp only [List.length_cons, hs.length]
theorem ShPs.append : ∀ {l l' : List Sh} {ds ds' : List DV}, ShPs l ds → ShPs l' ds' → ShPs (l ++ l') (ds ++ ds')
  | _, _, _, _, .nil, h' => h'
  | _, _, _, _, .cons h hs, h' => .cons h (hs.append h')
theorem ShRows.length {l : List Sh} : ∀ {n : Nat} {cs : List DV}, ShRows l n cs → cs.length = n * l.length
  | _, _, .nil _ => by simp
  | _, _, .cons h hs => by rw [List.length_append, h.length, hs.length, Nat.succ_mul, Nat.add_comm]
theorem DWs.append {w : World} {l l' : List DV} {vs vs' : List Value} (h : DWs w l vs) (h' : DWs w l' vs') : DWs w (l ++ l') (vs ++ vs') := by
  cases h with
  | nil => exact h'
  | cons h hs => exact .cons h (hs.append h')
section
variable {H : Type} {enc : TypeId × Value → H} {P : Program} {w : World} {base : Nat} {spare : Nat → Bool} {held : Bool}
theorem cells?_get {a : Addr} {n : Nat} {cs : List Value} (h : w.cells? base a n = some cs) : cs.length = n ∧ ∀ (i : Nat) v, cs[i]? = some v → w.cell? (a.add i) = some v := by
  unfold World.cells? at h
  split at h
  · have hl := mapM_some_length h
    simp at hl
    refine ⟨hl, fun i v e => ?_⟩
    have hi : i < n := by
      rcases Nat.lt_or_ge i cs.length with hx | hx
      · omega
      · rw [List.getElem?_eq_none hx] at e; cases e
    have := mapM_some_get h i i (by simp [hi])
    rw [this, e]
  · cases h
theorem cell_path {a : Addr} {v : Value} (h : w.cell? a = some v) : a.block < w.heap.size := by
  rcases Nat.lt_or_ge a.block w.heap.size with hx | hx
  · exact hx
  · unfold World.cell? at h
    rw [Array.getElem?_eq_none hx] at h
    simp at h
theorem read_rows {a : Addr} {e : TypeId} {l : List Sh} {fuel : Nat} (hc : P.cellsOf e = l.length)
    (hr : ∀ (cs : List Value) (x : DataW H × List MemPlace), DataW.trod enc P w base spare held fuel e cs = some x → ∃ ds, DWs w ds cs ∧ ShPs l ds) : ∀ (n i : Nat),
    (∀ j, i ≤ j → j < i + n → ((w.cells? base (a.add (j * P.cellsOf e)) (P.cellsOf e)).bind (DataW.trod enc P w base spare held fuel e)).isSome = true) →
    ∃ (ds : List DV) (vs : List Value), (∀ (j : Nat) v, vs[j]? = some v → w.cell? (a.add (i * l.length + j)) = some v) ∧ DWs w ds vs ∧ ShRows l n ds
  | 0, i, _ => ⟨[], [], fun j v e => by simp at e, .nil, .nil l⟩
  | n + 1, i, h => by
    have h0 := h i (Nat.le_refl _) (by omega)
    rw [Option.isSome_iff_exists] at h0
    obtain ⟨x, h0⟩ := h0
    simp only [Option.bind_eq_some_iff] at h0
    obtain ⟨cs, k1, k2⟩ := h0
    obtain ⟨ds, k3, k4⟩ := hr cs x k2
    obtain ⟨kl, kc⟩ := cells?_get k1
    obtain ⟨ds', vs', g1, g2, g3⟩ := read_rows hc hr n (i + 1) (fun j hj hj' => h j (by omega) (by omega))
    refine ⟨ds ++ ds', cs ++ vs', fun j v e => ?_, k3.append g2, .cons k4 g3⟩
    rcases Nat.lt_or_ge j cs.length with hx | hx
    · rw [List.getElem?_append_left hx] at e
      have := kc j v e
      rw [hc] at this
      have e3 : (a.add (i * l.length)).add j = a.add (i * l.length + j) := by
        unfold Addr.add
        split <;> split <;> simp_all <;> omega
      rw [e3] at this
      exact this
    · rw [List.getElem?_append_right hx] at e
      have := g1 _ v e
      rw [Nat.succ_mul, show i * l.length + l.length + (j - cs.length) = i * l.length + j by omega] at this
      exact this
theorem cell_spot {a : Addr} {v : Value} (h : w.cell? a = some v) : a.spot = none := by
  unfold World.cell? at h
  cases hs : a.spot with
  | none => rfl
  | some x =>
    rw [hs] at h
    split at h <;> simp at h
theorem open_slT {t e : TypeId} {l : List Sh} (hu : P.underlying t = some (.slice e)) (hc : P.cellsOf e = l.length) (h0 : l.length ≠ 0) (hs : l.length < 4096)
    (hr : ∀ (fuel : Nat) (cs : List Value) (x : DataW H × List MemPlace), DataW.trod enc P w base (fun _ => true) held fuel e cs = some x → ∃ ds, DWs w ds cs ∧ ShPs l ds)
    {fuel : Nat} {cs : List Value} {x : DataW H × List MemPlace} (h : DataW.trod enc P w base (fun _ => true) held fuel t cs = some x) : ∃ ds, DWs w ds cs ∧ ShPs [.sl l] ds := by
  rcases DataW.trod_slice hu h with ⟨rfl, _⟩ | ⟨a, len, cap, elems, rest, n, rfl, rfl, -, -, hle, hmax, hlen, hel, hrest, -⟩
  · exact ⟨[.v (.slice none 0 0)], .cons (.v rfl) .nil, .cons (.nil l) .nil⟩
  · obtain ⟨ds, vs, k1, k2, k3⟩ := read_rows (a := a) hc (hr n) len 0 (fun j _ hj => by rw [hel j (by omega)]; simp; omega)
    have hsh : ShPs [.sl l] [DV.lst l.length len ds] := .cons (.sl k3 (by omega) hs) .nil
    by_cases hcap : cap = 0
    · subst hcap
      have : len = 0 := by omega
      subst this
      have hd : ds = [] := by cases k3; rfl
      subst hd
      exact ⟨_, .cons (.emp _ a hs) .nil, hsh⟩
    · have hfirst : ∃ v, w.cell? (a.add (0 * P.cellsOf e)) = some v := by
        have : ∃ x, ((w.cells? base (a.add (0 * P.cellsOf e)) (P.cellsOf e)).bind (DataW.trod enc P w base (fun _ => true) held n e)) = some x := by
          by_cases hl : 0 < len
          · rw [hel 0 hl]; exact ⟨elems[0], by simp⟩
          · obtain ⟨hr1, hr2⟩ := hrest rfl
            have := hr2 0 (by omega)
            have e0 : len = 0 := by omega
            subst e0
            simp only [Nat.zero_add] at this
            rw [this]; exact ⟨rest[0], by simp⟩
        obtain ⟨x, hx⟩ := this
        simp only [Option.bind_eq_some_iff] at hx
        obtain ⟨cs, k1, _⟩ := hx
        obtain ⟨kl, kc⟩ := cells?_get k1
        have h0' : 0 < cs.length := by omega
        refine ⟨cs[0], ?_⟩
        have := kc 0 cs[0] (by simp)
        simpa [Addr.add] using this
      obtain ⟨v0, hv0⟩ := hfirst
      rw [Nat.zero_mul, show a.add 0 = a from rfl] at hv0
      have hsp := cell_spot hv0
      have hb := cell_path hv0
      obtain ⟨b, off, spot⟩ := a
      simp only at hsp hb
      subst hsp
      refine ⟨_, .cons (.lst hb (by rw [k3.length]) hle hs (fun j v e => ?_) k2) .nil, hsh⟩
      have := k1 j v e
      rw [Nat.zero_mul, Nat.zero_add] at this
      have e2 : (⟨b, off, none⟩ : Addr).add j = ⟨b, off + j, none⟩ := by
        unfold Addr.add; split
        · rename_i h; subst h; rfl
        · rfl
      rw [e2] at this; exact this
mutual
theorem open_typ : ∀ {t : TypeId} {l : List Sh}, Typ P t l → ∀ (fuel : Nat) (cs : List Value) (x : DataW H × List MemPlace), DataW.trod enc P w base (fun _ => true) held fuel t cs = some x → ∃ ds, DWs w ds cs ∧ ShPs l ds
  | _, _, .bool hu, fuel, cs, x, h => by
    obtain ⟨b, rfl, -⟩ := DataW.trod_bool hu h
    exact ⟨_, .cons (.v rfl) .nil, .cons (.bool b) .nil⟩
  | _, _, .int hu, fuel, cs, x, h => by
    obtain ⟨n, rfl, -, hw⟩ := DataW.trod_int hu h
    simp only [Lit.wf, Bool.and_eq_true, decide_eq_true_eq] at hw
    exact ⟨_, .cons (.v rfl) .nil, .cons (.int n hw.1 hw.2) .nil⟩
  | _, _, .str hu, fuel, cs, x, h => by
    obtain ⟨s, rfl, -, hs⟩ := DataW.trod_string hu h
    exact ⟨_, .cons (.v rfl) .nil, .cons (.str s hs) .nil⟩
  | _, _, .sl hu he hc h0 hs, fuel, cs, x, h => open_slT hu hc h0 hs (open_typ he) h
  | _, _, .struct (l := l) hu hf hc, fuel, cs, x, h => by
    obtain ⟨xs, n, rfl, rfl, hl, hn, hx⟩ := DataW.trod_struct hu h
    obtain ⟨ds, k1, k2⟩ := open_fs hf n cs (fun i f e => by
      rw [hx i f (by simpa using e)]
      have hi : i < xs.length := by
        rw [hn]
        rcases Nat.lt_or_ge i _ with h' | h'
        · exact h'
        · rw [List.getElem?_eq_none (by simpa using h')] at e; cases e
      exact ⟨xs[i], by simp⟩) (by rw [hl, hc]; omega)
    rw [List.drop_zero, List.take_of_length_le (by rw [hl, hc]; exact Nat.le_refl _)] at k1
    exact ⟨ds, k1, k2⟩
theorem open_fs : ∀ {fs : List Field} {n : Nat} {l : List Sh}, TypFs P fs n l → ∀ (fuel : Nat) (cs : List Value),
    (∀ (i : Nat) f, fs[i]? = some f → ∃ x, DataW.trod enc P w base (fun _ => true) held fuel f.type ((cs.drop f.offset).take (P.cellsOf f.type)) = some x) → n + l.length ≤ cs.length →
    ∃ ds, DWs w ds ((cs.drop n).take l.length) ∧ ShPs l ds
  | _, _, _, .nil, fuel, cs, _, _ => ⟨[], by simp; exact .nil, .nil⟩
  | _, _, _, .cons (l := l) (l' := l') ho ht hc hs, fuel, cs, h, hl => by
    obtain ⟨x, hx⟩ := h 0 _ rfl
    rw [ho, hc] at hx
    obtain ⟨d1, k1, k2⟩ := open_typ ht fuel _ x hx
    rw [List.length_append] at hl
    obtain ⟨d2, g1, g2⟩ := open_fs hs fuel cs (fun i f e => h (i + 1) f e) (by omega)
    refine ⟨d1 ++ d2, ?_, k2.append g2⟩
    rw [List.length_append, List.take_add, List.drop_drop]
    exact k1.append g1
end
def oneT : Option TypeDesc → Bool
  | some .bool => true
  | some (.int _) => true
  | some .string => true
  | some (.slice _) => true
  | _ => false
theorem open_one {W0 : World} {b0 : Nat} {t : TypeId} {s : Sh} {v : Value} {d : DataW H} {p : List MemPlace} (hT : Typ P t [s]) (hu : oneT (P.underlying t) = true) (hv : Value.okWide P W0 .any b0 t v)
    (h : DataW.Trod enc P w base (fun _ => true) held t v d p) : ∃ ds, DW w ds v ∧ ShP s ds := by
  obtain ⟨fuel, h⟩ := h
  obtain ⟨ds, k1, k2⟩ := open_typ hT fuel _ _ h
  have hna : ∀ cs, v ≠ .agg cs := by
    intro cs e
    subst e
    unfold Value.okWide at hv
    unfold oneT at hu
    split at hu <;> rename_i hq <;> first | (cases hu; done) | (rw [hq] at hv; simp [Cell.okWide, Cell.ok, hq] at hv)
  have hc : v.cells.toList = [v] := by
    unfold Value.cells
    split
    · exact absurd rfl (hna _)
    · rfl
  rw [hc] at k1
  cases k2 with
  | cons k2 k3 =>
    cases k1 with
    | cons k1 _ => exact ⟨_, k1, k2⟩
theorem open_agg {W0 : World} {b0 : Nat} {t : TypeId} {l : List Sh} {fs : Array Field} {v : Value} {d : DataW H} {p : List MemPlace} (hT : Typ P t l) (hu : P.underlying t = some (.struct fs)) (hv : Value.okWide P W0 .any b0 t v)
    (h : DataW.Trod enc P w base (fun _ => true) held t v d p) : ∃ ds, DW w (.agg ds) v ∧ ShPs l ds := by
  obtain ⟨fuel, h⟩ := h
  obtain ⟨ds, k1, k2⟩ := open_typ hT fuel _ _ h
  unfold Value.okWide at hv
  rw [hu] at hv
  obtain ⟨cs, rfl, _, _⟩ := hv
  exact ⟨ds, .agg k1, k2⟩
end
end Go.Am
end

section
namespace Go.Pm
open Go.RowKit Go.Am
mutual
def pvD : Sh → DV → PV
  | .sl l, .v _ => .lst .no l.length 0 []
  | .sl l, .lst es n cs => .lst .no es n (pvC l l cs)
  | _, .v x => .v x
  | _, _ => .junk
def pvC : List Sh → List Sh → List DV → List PV
  | _, _, [] => []
  | l, [], d :: ds => match l with
    | [] => []
    | s :: r => pvD s d :: pvC l r ds
  | l, s :: r, d :: ds => pvD s d :: pvC l r ds
end
def pvs : List Sh → List DV → List PV
  | [], _ => []
  | _, [] => []
  | s :: r, d :: ds => pvD s d :: pvs r ds
theorem pvC_app (l : List Sh) : ∀ (r : List Sh) (a b : List DV), a.length = r.length → pvC l r (a ++ b) = pvs r a ++ pvC l [] b
  | [], [], b, _ => rfl
  | s :: r, d :: a, b, h => by
    simp only [List.cons_append, pvC, pvs]
    rw [pvC_app l r a b (by simpa using h)]
theorem pvC_nil (l : List Sh) (h : l ≠ []) (ds : List DV) : pvC l [] ds = pvC l l ds := by
  cases l with
  | nil => exact absurd rfl h
  | cons s r => cases ds <;> simp [pvC]
def Holds (cx : Cx) (ng : Nat) (R : List (List Value × Nat)) : Prop := ∀ (i : Nat) vs es, R[i]? = some (vs, es) → cx.role (ng + i) = .im vs
theorem Holds.left {cx : Cx} {ng : Nat} {R Y : List (List Value × Nat)} (h : Holds cx ng (R ++ Y)) : Holds cx ng R := fun i vs es e => h i vs es (by
  rw [List.getElem?_append_left]
  · exact e
  · rcases Nat.lt_or_ge i R.length with hx | hx
    · exact hx
    · rw [List.getElem?_eq_none hx] at e; cases e)
mutual
theorem lay_grow (ng : Nat) : ∀ (d : DV) (R : List (List Value × Nat)), ∃ Y, (lay ng d R).2 = R ++ Y
  | .v x, R => ⟨[], by simp [lay]⟩
  | .lst es k cs, R => by
    obtain ⟨Y, hY⟩ := lays_grow ng cs R
    exact ⟨Y ++ [((lays ng cs R).1, es)], by simp only [lay]; rw [hY, List.append_assoc]⟩
  | .agg cs, R => by
    obtain ⟨Y, hY⟩ := lays_grow ng cs R
    exact ⟨Y, by simp only [lay]; exact hY⟩
theorem lays_grow (ng : Nat) : ∀ (ds : List DV) (R : List (List Value × Nat)), ∃ Y, (lays ng ds R).2 = R ++ Y
  | [], R => ⟨[], by simp [lays]⟩
  | d :: ds, R => by
    obtain ⟨Y, hY⟩ := lay_grow ng d R
    obtain ⟨Y', hY'⟩ := lays_grow ng ds (lay ng d R).2
    exact ⟨Y ++ Y', by simp only [lays]; rw [hY', hY, List.append_assoc]⟩
end
theorem lays_app (ng : Nat) : ∀ (a b : List DV) (R : List (List Value × Nat)), lays ng (a ++ b) R = ((lays ng a R).1 ++ (lays ng b (lays ng a R).2).1, (lays ng b (lays ng a R).2).2)
  | [], b, R => by simp [lays]
  | d :: a, b, R => by
    simp only [List.cons_append, lays]
    rw [lays_app ng a b]
theorem lays_len (ng : Nat) : ∀ (a : List DV) (R : List (List Value × Nat)), (lays ng a R).1.length = a.length
  | [], R => by simp [lays]
  | d :: a, R => by simp only [lays, List.length_cons]; rw [lays_len ng a]
mutual
theorem lay_pr {cx : Cx} (ng : Nat) : ∀ {s : Sh} {d : DV}, ShP s d → ∀ R, Holds cx ng (lay ng d R).2 → PR cx (pvD s d) (lay ng d R).1
  | _, _, .bool b, R, _ => by simp only [lay, pvD]; exact .v rfl
  | _, _, .int n _ _, R, _ => by simp only [lay, pvD]; exact .v rfl
  | _, _, .str s _, R, _ => by simp only [lay, pvD]; exact .v rfl
  | _, _, .nil l, R, _ => by simp only [lay, pvD]; exact .l0 _ none 0 (.inl rfl)
  | _, _, .sl (l := l) (n := n) (cs := cs) h hn hl, R, hH => by
    simp only [lay] at hH ⊢
    have hrole := hH (lays ng cs R).2.length (lays ng cs R).1 l.length (by simp)
    obtain ⟨k1, k2⟩ := lay_rows ng h R hH.left
    simp only [pvD]
    have hlen : (pvC l l cs).length = (lays ng cs R).1.length := k1.length
    refine .lno hrole (by rw [hlen, Nat.zero_add]; exact Nat.le_refl _) ?_ ?_ (by rw [capOf_lo' _ _ hl]; exact Nat.le_refl _) (.inr (esOf_lo _ _ hl))
    · rw [List.drop_zero, List.take_of_length_le (by rw [hlen]; exact Nat.le_refl _)]; exact k1
    · rw [hlen, lays_len, h.length]
theorem lay_prs {cx : Cx} (ng : Nat) : ∀ {l : List Sh} {ds : List DV}, ShPs l ds → ∀ R, Holds cx ng (lays ng ds R).2 → PRs cx (pvs l ds) (lays ng ds R).1
  | _, _, .nil, R, _ => by simp only [lays, pvs]; exact .nil
  | _, _, .cons (d := d) (l' := ds) h hs, R, hH => by
    simp only [lays] at hH ⊢
    obtain ⟨Y, hY⟩ := lays_grow ng ds (lay ng d R).2
    refine .cons (lay_pr ng h R ?_) (lay_prs ng hs _ hH)
    rw [hY] at hH
    exact hH.left
theorem lay_rows {cx : Cx} (ng : Nat) : ∀ {l : List Sh} {n : Nat} {cs : List DV}, ShRows l n cs → ∀ R, Holds cx ng (lays ng cs R).2 → PRs cx (pvC l l cs) (lays ng cs R).1 ∧ True
  | _, _, _, .nil l, R, _ => by
    refine ⟨?_, trivial⟩
    have : pvC l l [] = [] := by cases l <;> rfl
    rw [this]; simp only [lays]; exact .nil
  | _, _, _, .cons (l := l) (r := r) (cs := cs) h hs, R, hH => by
    refine ⟨?_, trivial⟩
    rw [lays_app] at hH ⊢
    simp only at hH ⊢
    obtain ⟨Y, hY⟩ := lays_grow ng cs (lays ng r R).2
    have h1 := lay_prs (cx := cx) ng h R (by rw [hY] at hH; exact hH.left)
    have h2 := (lay_rows (cx := cx) ng hs _ hH).1
    have e : pvC l l (r ++ cs) = pvs l r ++ pvC l l cs := by
      rw [pvC_app l l r cs h.length]
      by_cases hl : l = []
      · subst hl
        cases cs with
        | nil => rfl
        | cons c cs => rfl
      · rw [pvC_nil l hl]
    rw [e]
    exact h1.append h2
end
def cxR (ng : Nat) (R : List (List Value × Nat)) : Cx where
  at_ := fun k i => if k = 0 ∧ i < ng then some i else none
  role := fun r => if r < ng then .ob 0 r else match R[r - ng]? with
    | some (vs, _) => .im vs
    | none => .none
  tk := fun _ _ => none
  nk := 1
theorem cxR_holds (ng : Nat) (R : List (List Value × Nat)) : Holds (cxR ng R) ng R := fun i vs es e => by
  unfold cxR
  dsimp only
  rw [if_neg (by omega), Nat.add_sub_cancel_left, e]
theorem memR_at {ng : Nat} {R : List (List Value × Nat)} {i : Nat} {vs : List Value} {es : Nat} (h : R[i]? = some (vs, es)) : (memR ng R).get (ng + i) = some (.row vs .ro es none) := by
  have hi : i < R.length := by
    rcases Nat.lt_or_ge i R.length with hx | hx
    · exact hx
    · rw [List.getElem?_eq_none hx] at h; cases h
  rw [Mem.get_def]
  unfold memR
  dsimp only
  have h1 : Nat.blt (ng + i) (ng + R.length) = true := by rw [Nat.blt_eq]; omega
  have h2 : Nat.blt (ng + i) ng = false := by
    cases e : Nat.blt (ng + i) ng with
    | false => rfl
    | true => rw [Nat.blt_eq] at e; omega
  rw [h1, cond_true, h2]
  dsimp only
  rw [show Nat.sub (ng + i) ng = i from Nat.add_sub_cancel_left ng i, nthK_map, h]
theorem cxR_pg {E : Env} {R : List (List Value × Nat)} (hw : Wf (memR E.ng R)) : PG E (cxR E.ng R) (fun _ _ => none) (memR E.ng R) where
  obj := fun k i o h => by cases h
  at_ := fun k i r h => by
    unfold cxR at h ⊢
    dsimp only at h ⊢
    split at h
    · rename_i hc
      obtain ⟨hk, hi⟩ := hc
      subst hk
      cases h
      refine ⟨?_, ?_⟩
      · show i < E.ng + R.length; omega
      · rw [if_pos hi]
    · cases h
  im := fun r cells h => by
    unfold cxR at h
    dsimp only at h
    split at h
    · cases h
    · rename_i hr
      split at h
      · rename_i vs es he
        cases h
        refine ⟨?_, .ro, es, none, ?_⟩
        · show r < E.ng + R.length
          rcases Nat.lt_or_ge (r - E.ng) R.length with hx | hx
          · omega
          · rw [List.getElem?_eq_none hx] at he; cases he
        · have := memR_at (ng := E.ng) he
          rwa [show E.ng + (r - E.ng) = r by omega] at this
      · cases h
  mks := fun r h => by
    unfold cxR at h
    dsimp only at h
    split at h
    · cases h
    · split at h <;> cases h
  keys := fun k i hk => by
    unfold cxR at hk ⊢
    dsimp only at hk ⊢
    exact ⟨if_neg (by omega), rfl⟩
  tkin := fun k i k' i' r n es n' es' h => by cases h
  glob := fun g hg => by
    unfold cxR
    dsimp only
    exact if_pos ⟨rfl, hg⟩
  wf := hw
  pos := Nat.zero_lt_one
theorem law_calls {E : Env} {P : Program} {f : Nat} {x : Fun} {ds : List DV} {args : List PV} {vargs : List Value} {W : World} {v : Bool} (hE : EnvOk E P) (hf : E.fn f = some x) (hW : E.ng ≤ W.heap.size)
    (hd : DWs W ds vargs) (hp : ∀ cx, Holds cx E.ng (lays E.ng ds []).2 → PRs cx args (lays E.ng ds []).1)
    (h : PT E P f args (fun _ _ => none) (fun x _ => x = .v (.bool v))) :
    Calls P f vargs.toArray W fun e W' => e = .returned (.bool v) ∧ (∀ b, b < W.heap.size → W'.heap[b]? = W.heap[b]?) ∧ W.heap.size ≤ W'.heap.size ∧ W'.os = W.os ∧ W'.tape = W.tape ∧ W'.output = W.output := by
  obtain ⟨Y, X, h1, h2, h3, h4⟩ := lays_ok E.ng hd [] [] rfl
  simp only [List.nil_append] at h1 h4
  have hPR := hp (cxR E.ng (lays E.ng ds []).2) (cxR_holds _ _)
  generalize hq : lays E.ng ds [] = q at h1 h4 hPR
  obtain ⟨vs, R⟩ := q
  simp only at h1 h4 hPR
  subst h1
  obtain ⟨k1, k2⟩ := h4 (injR E.ng X) (fun i t e => by
    unfold injR
    rw [if_neg (by omega), Nat.add_sub_cancel_left, e])
  have hrel : Rel E (injR E.ng X) (memR E.ng R) W := relR h2 hW h3 (fun i t cs es e e' => k2 i t cs es e e')
  obtain ⟨v1, m1, cx1, x1, M1, hc, -, -, hpr, rfl⟩ := h _ _ _ (cxR_pg hrel.wf) hPR
  obtain ⟨rfl, -⟩ := hpr.flat_eq
  have hu := hc.ok _ _ _ hrel k1
  rw [callFunc_enter hE hf] at hu
  have hu' : CallsIn Fence.wide 0 P f vargs.toArray W (retOnly (Got E (injR E.ng X) (memR E.ng R) W (.bool v) m1)) := hu
  refine (callsIn_wide.1 hu').mono fun e W' he => ?_
  cases e with
  | returned v' =>
    obtain ⟨ι1, hvr, hst⟩ := he
    cases hvr
    exact ⟨rfl, fun b hb => hst.keep b hb ownR, hst.size, hst.os, hst.tape, hst.output⟩
  | panicked _ => exact he.elim
  | outgrown => exact he.elim
theorem PTp.of_pure {E : Env} {P : Program} {f : Nat} {x : Fun} {v : Value} (hE : EnvOk E P) (hf : E.fn f = some x) (h : PureE P E.ng f [] v) (hv : flat v = true) : PTp E P f [] (.v v) := by
  intro M cx m vargs hpg hargs
  cases hargs
  refine ⟨v, m, cx, .v v, M, ⟨fun ι w args' hR hA => ?_, fun _ => Keep.refl _⟩, hpg, Ext.refl _ _, .v hv, rfl, rfl⟩
  cases hA
  refine (h w [] hR.ng .nil).mono fun v' w1 ⟨e, hb, hs, h1, h2, h3⟩ => ?_
  subst e
  have hR' : Rel E ι m w1 := hR.more hb hs
  exact ⟨ι, VR.flat hv, ⟨Am.Sub.refl _, (fun b t e n => by rw [e] at n; cases n), hR', fun _ _ h => h, fun b hb' _ => hb b hb', hs, Nat.le_refl _, h1, h2, h3⟩⟩
theorem rows_dec {α : Type} {B : α → Prop} {enc : α → List PV} {l : List Sh} (hl : l ≠ []) (hx : ∀ ds, ShPs l ds → ∃ x : α, pvs l ds = enc x ∧ B x) : ∀ {n : Nat} {cs : List DV}, ShRows l n cs → ∃ xs : List α, xs.length = n ∧ pvC l l cs = xs.flatMap enc ∧ ∀ x ∈ xs, B x := by
  intro n
  induction n with
  | zero =>
    intro cs h
    cases h
    refine ⟨[], rfl, ?_, fun x hx => by cases hx⟩
    cases l <;> rfl
  | succ n ih =>
    intro cs h
    cases h with
    | cons h hs =>
      obtain ⟨x, h1, h2⟩ := hx _ h
      obtain ⟨xs, g1, g2, g3⟩ := ih hs
      refine ⟨x :: xs, by rw [List.length_cons, g1], ?_, fun y hy => ?_⟩
      · rw [pvC_app l l _ _ h.length, pvC_nil l hl, h1, g2, List.flatMap_cons]
      · rcases List.mem_cons.1 hy with rfl | hy
        · exact h2
        · exact g3 y hy
theorem sl_dec {α : Type} {B : α → Prop} {enc : α → List PV} {l : List Sh} (hl : l ≠ []) (hx : ∀ ds, ShPs l ds → ∃ x : α, pvs l ds = enc x ∧ B x) {d : DV} (h : ShP (.sl l) d) :
    ∃ xs : List α, pvD (.sl l) d = .lst .no l.length xs.length (xs.flatMap enc) ∧ xs.length ≤ maxLen ∧ ∀ x ∈ xs, B x := by
  cases h with
  | nil => exact ⟨[], by simp only [pvD]; rfl, Nat.zero_le _, fun x hx => by cases hx⟩
  | sl h hn _ =>
    obtain ⟨xs, g1, g2, g3⟩ := rows_dec hl hx h
    subst g1
    exact ⟨xs, by simp only [pvD]; rw [g2], hn, g3⟩
theorem int_dec {k : IntKind} {d : DV} (h : ShP (.int k) d) : ∃ n : Int, pvD (.int k) d = .v (.int k n) ∧ k.min ≤ n ∧ n ≤ k.max := by
  cases h with
  | int n h1 h2 => exact ⟨n, by simp only [pvD], h1, h2⟩
theorem bool_dec {d : DV} (h : ShP .bool d) : ∃ b : Bool, pvD .bool d = .v (.bool b) := by
  cases h with
  | bool b => exact ⟨b, by simp only [pvD]⟩
theorem str_dec {d : DV} (h : ShP .str d) : ∃ s : ByteArray, pvD .str d = .v (.string s) ∧ s.size ≤ maxLen := by
  cases h with
  | str s h => exact ⟨s, by simp only [pvD], h⟩
theorem pvD_agg {cx : Cx} {ng : Nat} {l : List Sh} {ds : List DV} {R : List (List Value × Nat)} (h : ShPs l ds) (hH : Holds cx ng (lay ng (.agg ds) R).2) : PR cx (.agg (pvs l ds)) (lay ng (.agg ds) R).1 := by
  simp only [lay] at hH ⊢
  exact .agg (lay_prs ng h R hH)
end Go.Pm
end
