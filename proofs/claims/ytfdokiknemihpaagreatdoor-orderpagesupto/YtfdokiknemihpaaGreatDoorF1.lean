/- Printed by program: functions of the seat as the abstract machine runs them, and tables of their calls. -/
import Derived.Test.YtfdokiknemihpaaGreatDoorF0
set_option maxRecDepth 100000
namespace Go.Ab
open Go.Proofs
/-- (*stylus/lay.layout).row -/
def a111 : AFunc where
  body :=
  (.seq (.seq (.ops none [oD 17 (.mov (.t 0)),
 oD 18 (.mov (.t 1)),
 oD 19 (.call 109 [(.t 17), (.t 18), (.k (.int .u8 99))]),
 oD 4 (.mov (.t 19))])
 (.keep [0, 4]))
 (.seq (.seq (.ops none [oD 20 (.mov (.t 4)),
 oD 21 (.len .slice (.t 20)),
 oD 5 (.mov (.t 21))])
 (.keep [0, 4, 5]))
 (.seq (.seq (.ops none [oD 22 (.mov (.t 0)),
 oD 23 (.nilCheck (.t 22)),
 oD 24 (.fieldAddr 0 (.t 23)),
 oD 25 (.fieldAddr 0 (.t 24)),
 oD 26 (.load1 (.t 25)),
 oD 27 (.mov (.t 5)),
 oD 28 (.bin .sub (.t 27) (.k (.int .i64 1))),
 oD 29 (.bin .mul (.t 28) (.k (.int .i64 1000))),
 oD 30 (.bin .sub (.t 26) (.t 29)),
 oD 31 (.mov (.t 5)),
 oD 32 (.bin .quo (.t 30) (.t 31)),
 oD 6 (.mov (.t 32))])
 (.keep [0, 4, 5, 6]))
 (.seq (.seq (.ops none [oD 7 (.mov (.k .nilslice))])
 (.keep [0, 4, 5, 6, 7]))
 (.seq (.seq (.ops none [oD 8 (.mov (.k (.int .i64 0)))])
 (.keep [0, 4, 5, 6, 7, 8]))
 (.seq (.seq (.seq (.ops none [oD 33 (.mov (.t 4)),
 oD 34 (.len .slice (.t 33)),
 oD 35 (.mov (.k (.int .i64 0)))])
 (.keep [0, 4, 5, 6, 7, 8, 33, 34, 35]))
 (.block 0 (.loop (.seq (.keep [0, 4, 5, 6, 7, 8, 33, 34, 35])
 (.seq (.seq (.ops none [oD 36 (.bin .lss (.t 35) (.t 34))])
 (.keep [0, 4, 5, 6, 7, 8, 33, 34, 35, 36]))
 (.seq (.cond (.t 36) .skip
 (.exit 0))
 (.seq (.block 1 (.seq (.seq (.ops none [oD 37 (.idxSl 1 (.t 33) (.t 35)),
 oD 38 (.load1 (.t 37)),
 oD 10 (.mov (.t 38))])
 (.keep [0, 4, 5, 6, 7, 8, 10, 33, 34, 35]))
 (.seq (.seq (.ops none [oD 39 (.mov (.t 7)),
 oD 40 (.mov (.t 0)),
 oD 41 (.mov (.t 10)),
 oD 42 (.mov (.t 6)),
 oD 43 (.call 156 [(.t 40), (.t 41), (.t 42)]),
 oD 44 (.buildSlice [.nilslice] 1 1 [(0, 1, (.t 43))]),
 oD 45 (.append 1 (.t 39) (.t 44)),
 oD 7 (.mov (.t 45))])
 (.keep [0, 4, 5, 6, 7, 8, 33, 34, 35]))
 (.seq (.ops none [oD 46 (.mov (.t 8)),
 oD 47 (.mov (.t 7)),
 oD 48 (.mov (.t 7)),
 oD 49 (.len .slice (.t 48)),
 oD 50 (.bin .sub (.t 49) (.k (.int .i64 1))),
 oD 51 (.idxSl 1 (.t 47) (.t 50)),
 oD 52 (.load1 (.t 51)),
 oD 53 (.len .slice (.t 52)),
 oD 54 (.minmax true (.t 46) (.t 53)),
 oD 8 (.mov (.t 54))])
 (.keep [0, 4, 5, 6, 7, 8, 33, 34, 35])))))
 (.seq (.ops none [oD 55 (.bin .add (.t 35) (.k (.int .i64 1))),
 oD 35 (.mov (.t 55))])
 (.keep [0, 4, 5, 6, 7, 8, 33, 34, 35])))))))))
 (.seq (.seq (.seq (.ops none [oD 56 (.mov (.t 7)),
 oD 57 (.call 158 [(.t 56)]),
 oD 58 (.un .not (.t 57))])
 (.keep [0, 4, 5, 6, 7, 8, 58]))
 (.cond (.t 58) (.seq (.seq (.seq (.ops none [oD 59 (.mov (.t 4)),
 oD 60 (.len .slice (.t 59)),
 oD 61 (.mov (.k (.int .i64 0)))])
 (.keep [0, 59, 60, 61]))
 (.block 2 (.loop (.seq (.keep [0, 59, 60, 61])
 (.seq (.seq (.ops none [oD 62 (.bin .lss (.t 61) (.t 60))])
 (.keep [0, 59, 60, 61, 62]))
 (.seq (.cond (.t 62) .skip
 (.exit 2))
 (.seq (.block 3 (.seq (.seq (.ops none [oD 63 (.idxSl 1 (.t 59) (.t 61)),
 oD 64 (.load1 (.t 63)),
 oD 12 (.mov (.t 64))])
 (.keep [0, 12, 59, 60, 61]))
 (.seq (.ops none [oD 65 (.mov (.t 0)),
 oD 66 (.mov (.t 12)),
 oD 67 (.mov (.t 0)),
 oD 68 (.nilCheck (.t 67)),
 oD 69 (.fieldAddr 0 (.t 68)),
 oD 70 (.fieldAddr 0 (.t 69)),
 oD 71 (.load1 (.t 70)),
 oD 72 (.bin .sub (.t 71) (.k (.int .i64 2000))),
 oD 73 (.call 110 [(.t 65), (.t 66), (.t 72), (.k (.int .i64 2000))])])
 (.keep [0, 59, 60, 61]))))
 (.seq (.ops none [oD 74 (.bin .add (.t 61) (.k (.int .i64 1))),
 oD 61 (.mov (.t 74))])
 (.keep [0, 59, 60, 61])))))))))
 .ret)
 .skip))
 (.seq (.seq (.ops none [oD 75 (.mov (.t 8)),
 oD 76 (.mov (.k (.int .i64 0)))])
 (.keep [0, 5, 6, 7, 8, 75, 76]))
 (.block 4 (.loop (.seq (.keep [0, 5, 6, 7, 8, 75, 76])
 (.seq (.seq (.ops none [oD 77 (.bin .lss (.t 76) (.t 75))])
 (.keep [0, 5, 6, 7, 8, 75, 76, 77]))
 (.seq (.cond (.t 77) .skip
 (.exit 4))
 (.seq (.block 5 (.seq (.seq (.ops none [oD 78 (.mov (.t 76)),
 oD 13 (.mov (.t 78))])
 (.keep [0, 5, 6, 7, 8, 13, 75, 76]))
 (.seq (.seq (.ops none [oD 79 (.mov (.t 5)),
 oD 80 (.makeSlice [.nilptr] 1 (.t 79) (.t 79)),
 oD 14 (.mov (.t 80))])
 (.keep [0, 5, 6, 7, 8, 13, 14, 75, 76]))
 (.seq (.seq (.seq (.ops none [oD 81 (.mov (.t 7)),
 oD 82 (.len .slice (.t 81)),
 oD 83 (.mov (.k (.int .i64 0)))])
 (.keep [0, 5, 6, 7, 8, 13, 14, 75, 76, 82, 83]))
 (.block 6 (.loop (.seq (.keep [0, 5, 6, 7, 8, 13, 14, 75, 76, 82, 83])
 (.seq (.seq (.ops none [oD 84 (.bin .lss (.t 83) (.t 82))])
 (.keep [0, 5, 6, 7, 8, 13, 14, 75, 76, 82, 83, 84]))
 (.seq (.cond (.t 84) .skip
 (.exit 6))
 (.seq (.block 7 (.seq (.seq (.ops none [oD 85 (.mov (.t 83)),
 oD 15 (.mov (.t 85))])
 (.keep [0, 5, 6, 7, 8, 13, 14, 15, 75, 76, 82, 83]))
 (.seq (.seq (.ops none [oD 86 (.mov (.t 13)),
 oD 87 (.mov (.t 7)),
 oD 88 (.mov (.t 15)),
 oD 89 (.idxSl 1 (.t 87) (.t 88)),
 oD 90 (.load1 (.t 89)),
 oD 91 (.len .slice (.t 90)),
 oD 92 (.bin .lss (.t 86) (.t 91))])
 (.keep [0, 5, 6, 7, 8, 13, 14, 15, 75, 76, 82, 83, 92]))
 (.cond (.t 92) (.seq (.ops none [oD 93 (.mov (.t 14)),
 oD 94 (.mov (.t 15)),
 oD 95 (.mov (.t 7)),
 oD 96 (.mov (.t 15)),
 oD 97 (.idxSl 1 (.t 95) (.t 96)),
 oD 98 (.load1 (.t 97)),
 oD 99 (.mov (.t 13)),
 oD 100 (.idxSl 3 (.t 98) (.t 99)),
 oD 101 (.idxSl 1 (.t 93) (.t 94)),
 oN (.store 1 (.t 101) (.t 100))])
 (.keep [0, 5, 6, 7, 8, 13, 14, 75, 76, 82, 83]))
 .skip))))
 (.seq (.ops none [oD 102 (.bin .add (.t 83) (.k (.int .i64 1))),
 oD 83 (.mov (.t 102))])
 (.keep [0, 5, 6, 7, 8, 13, 14, 75, 76, 82, 83])))))))))
 (.seq (.seq (.ops none [oD 16 (.mov (.k (.int .i64 2)))])
 (.keep [0, 5, 6, 7, 8, 13, 14, 16, 75, 76]))
 (.seq (.seq (.seq (.ops none [oD 103 (.mov (.t 13)),
 oD 104 (.mov (.t 8)),
 oD 105 (.bin .sub (.t 104) (.k (.int .i64 1))),
 oD 106 (.eq false (.leaf .int) (.t 103) (.t 105))])
 (.keep [0, 5, 6, 7, 8, 14, 16, 75, 76, 106]))
 (.cond (.t 106) (.seq (.ops none [oD 16 (.mov (.k (.int .i64 0)))])
 (.keep [0, 5, 6, 7, 8, 14, 16, 75, 76]))
 .skip))
 (.ops (some [0, 5, 6, 7, 8, 75, 76]) [oD 107 (.mov (.t 0)),
 oD 108 (.mov (.t 0)),
 oD 109 (.nilCheck (.t 108)),
 oD 110 (.fieldAddr 137 (.t 109)),
 oD 111 (.load1 (.t 110)),
 oD 112 (.mov (.t 6)),
 oD 113 (.bin .add (.t 112) (.k (.int .i64 1000))),
 oD 114 (.mov (.t 14)),
 oD 116 (.mov (.t 16)),
 ⟨(some 115), none, .call 159 [(.t 113), (.t 114)], [⟨111, none, .load1 (.t 110)⟩]⟩,
 oD 117 (.build [.nilslice, (.int .i64 0), (.int .i64 0), (.int .i64 0), (.bool false), .nilslice] [(0, 3, (.t 115)), (3, 1, (.t 116))]),
 oD 118 (.buildSlice [.nilslice, (.int .i64 0), (.int .i64 0), (.int .i64 0), (.bool false), .nilslice] 6 1 [(0, 6, (.t 117))]),
 oD 119 (.append 6 (.t 111) (.t 118)),
 oD 120 (.nilCheck (.t 107)),
 oD 121 (.fieldAddr 137 (.t 120)),
 oN (.store 1 (.t 121) (.t 119))])))))))
 (.seq (.ops none [oD 122 (.bin .add (.t 76) (.k (.int .i64 1))),
 oD 76 (.mov (.t 122))])
 (.keep [0, 5, 6, 7, 8, 75, 76]))))))))))))))))
  results := []
theorem ok111 : FnOK Tryz.prog pureL 111 a111 := ⟨Tryz.f111, [(0, [0, 4]), (1, [0, 4, 5]), (2, [0, 4, 5, 6]), (3, [0, 4, 5, 6, 7]), (4, [0, 4, 5, 6, 7, 8]), (5, [0, 4, 5, 6, 7, 8, 33, 34, 35]), (6, [0, 4, 5, 6, 7, 8, 33, 34, 35, 36]), (7, [0, 4, 5, 6, 7, 8, 10, 33, 34, 35]), (8, [0, 4, 5, 6, 7, 8, 33, 34, 35]), (9, [0, 4, 5, 6, 7, 8, 33, 34, 35]), (10, [0, 4, 5, 6, 7, 8, 33, 34, 35]), (11, [0, 4, 5, 6, 7, 8, 58]), (12, [0, 59, 60, 61]), (13, [0, 59, 60, 61, 62]), (14, [0, 12, 59, 60, 61]), (15, [0, 59, 60, 61]), (16, [0, 59, 60, 61]), (17, [0, 5, 6, 7, 8, 75, 76]), (18, [0, 5, 6, 7, 8, 75, 76, 77]), (19, [0, 5, 6, 7, 8, 13, 75, 76]), (20, [0, 5, 6, 7, 8, 13, 14, 75, 76]), (21, [0, 5, 6, 7, 8, 13, 14, 75, 76, 82, 83]), (22, [0, 5, 6, 7, 8, 13, 14, 75, 76, 82, 83, 84]), (23, [0, 5, 6, 7, 8, 13, 14, 15, 75, 76, 82, 83]), (24, [0, 5, 6, 7, 8, 13, 14, 15, 75, 76, 82, 83, 92]), (25, [0, 5, 6, 7, 8, 13, 14, 75, 76, 82, 83]), (26, [0, 5, 6, 7, 8, 13, 14, 75, 76, 82, 83]), (27, [0, 5, 6, 7, 8, 13, 14, 16, 75, 76]), (28, [0, 5, 6, 7, 8, 14, 16, 75, 76, 106]), (29, [0, 5, 6, 7, 8, 14, 16, 75, 76]), (30, [0, 5, 6, 7, 8, 75, 76]), (31, [0, 5, 6, 7, 8, 75, 76])], [(0, [0, 4, 5, 6, 7, 8, 33, 34, 35]), (2, [0, 59, 60, 61]), (4, [0, 5, 6, 7, 8, 75, 76]), (6, [0, 5, 6, 7, 8, 13, 14, 75, 76, 82, 83])], Tryz.func111, by kernel_rfl⟩
/-- (stylus/pages.sheet).last -/
def a112 : AFunc where
  body :=
  (.seq (.seq (.ops none [oD 4 (.mov (.k (.int .i64 0)))])
 (.keep [0, 1]))
 (.seq (.seq (.seq (.ops none [oD 6 (.mov (.t 0)),
 oD 7 (.len .slice (.t 6)),
 oD 8 (.bin .sub (.t 7) (.k (.int .i64 1))),
 oD 5 (.mov (.t 8))])
 (.keep [0, 1, 5]))
 (.block 0 (.loop (.seq (.keep [0, 1, 5])
 (.seq (.seq (.seq (.ops none [oD 9 (.mov (.t 5)),
 oD 10 (.bin .geq (.t 9) (.k (.int .i64 0)))])
 (.keep [0, 1, 5, 10]))
 (.cond (.t 10) .skip
 (.exit 0)))
 (.seq (.block 1 (.seq (.seq (.ops none [oD 13 (.mov (.t 0)),
 oD 14 (.mov (.t 5)),
 oD 15 (.idxSl 6 (.t 13) (.t 14)),
 oD 16 (.fieldAddr 3 (.t 15)),
 oD 17 (.load1 (.t 16)),
 oD 18 (.mov (.t 1)),
 oD 19 (.eq false (.leaf .int) (.t 17) (.t 18))])
 (.keep [0, 1, 5, 19]))
 (.cond (.t 19) (.seq (.seq (.ops none [oD 20 (.mov (.t 5)),
 oD 4 (.mov (.t 20))])
 (.keep [4]))
 .ret)
 .skip)))
 (.seq (.ops none [oD 11 (.mov (.t 5)),
 oD 12 (.bin .sub (.t 11) (.k (.int .i64 1))),
 oD 5 (.mov (.t 12))])
 (.keep [0, 1, 5]))))))))
 (.seq (.seq (.ops none [oD 4 (.mov (.k (.int .i64 (-1))))])
 (.keep [4]))
 .ret)))
  results := [.tmp 4]
theorem ok112 : FnOK Tryz.prog pureL 112 a112 := ⟨Tryz.f112, [(0, [0, 1]), (1, [0, 1, 5]), (2, [0, 1, 5, 10]), (4, [0, 1, 5, 19]), (5, [4]), (3, [0, 1, 5]), (6, [4])], [(0, [0, 1, 5])], Tryz.func112, by kernel_rfl⟩
/-- slices.Clone[[]stylus/api.Line,stylus/api.Line] -/
def a113 : AFunc where
  body :=
  (.seq (.seq (.ops none [oD 2 (.mov (.k .nilslice))])
 (.keep [0]))
 (.seq (.seq (.seq (.ops none [oD 3 (.mov (.t 0)),
 oD 4 (.eq false .slice (.t 3) (.k .nilslice))])
 (.keep [0, 4]))
 (.cond (.t 4) (.seq (.seq (.ops none [oD 2 (.mov (.k .nilslice))])
 (.keep [2]))
 .ret)
 .skip))
 (.seq (.seq (.ops none [oD 5 (.buildSlice [] 3 0 []),
 oD 6 (.mov (.t 0)),
 oD 7 (.append 3 (.t 5) (.t 6)),
 oD 2 (.mov (.t 7))])
 (.keep [2]))
 .ret)))
  results := [.tmp 2]
theorem ok113 : FnOK Tryz.prog pureL 113 a113 := ⟨Tryz.f113, [(0, [0]), (1, [0, 4]), (2, [2]), (3, [2])], [], Tryz.func113, by kernel_rfl⟩
/-- slices.Clone[[]stylus/api.Spot,stylus/api.Spot] -/
def a114 : AFunc where
  body :=
  (.seq (.seq (.ops none [oD 2 (.mov (.k .nilslice))])
 (.keep [0]))
 (.seq (.seq (.seq (.ops none [oD 3 (.mov (.t 0)),
 oD 4 (.eq false .slice (.t 3) (.k .nilslice))])
 (.keep [0, 4]))
 (.cond (.t 4) (.seq (.seq (.ops none [oD 2 (.mov (.k .nilslice))])
 (.keep [2]))
 .ret)
 .skip))
 (.seq (.seq (.ops none [oD 5 (.buildSlice [] 4 0 []),
 oD 6 (.mov (.t 0)),
 oD 7 (.append 4 (.t 5) (.t 6)),
 oD 2 (.mov (.t 7))])
 (.keep [2]))
 .ret)))
  results := [.tmp 2]
theorem ok114 : FnOK Tryz.prog pureL 114 a114 := ⟨Tryz.f114, [(0, [0]), (1, [0, 4]), (2, [2]), (3, [2])], [], Tryz.func114, by kernel_rfl⟩
/-- stylus/stylusref01.Class -/
def a115 : AFunc where
  body :=
  (.seq (.seq (.ops none [oD 2 (.mov (.k (.int .i64 0)))])
 (.keep [0]))
 (.seq (.seq (.seq (.ops none [oD 5 (.mov (.t 0)),
 oD 6 (.bin .geq (.t 5) (.k (.int .u8 97))),
 oD 7 (.mov (.t 6)),
 oG 8 7 true (.mov (.t 0)),
 oG 9 7 true (.bin .leq (.t 8) (.k (.int .u8 122))),
 oD 10 (.pick (.t 7) (.t 9) (.k (.bool false)))])
 (.keep [0, 10]))
 (.cond (.t 10) (.seq (.seq (.ops none [oD 2 (.mov (.k (.int .i64 1)))])
 (.keep [2]))
 .ret)
 .skip))
 (.seq (.seq (.seq (.ops none [oD 11 (.mov (.t 0)),
 oD 12 (.bin .geq (.t 11) (.k (.int .u8 65))),
 oD 13 (.mov (.t 12)),
 oG 14 13 true (.mov (.t 0)),
 oG 15 13 true (.bin .leq (.t 14) (.k (.int .u8 90))),
 oD 16 (.pick (.t 13) (.t 15) (.k (.bool false)))])
 (.keep [0, 16]))
 (.cond (.t 16) (.seq (.seq (.ops none [oD 2 (.mov (.k (.int .i64 2)))])
 (.keep [2]))
 .ret)
 .skip))
 (.seq (.seq (.seq (.ops none [oD 17 (.mov (.t 0)),
 oD 18 (.bin .geq (.t 17) (.k (.int .u8 48))),
 oD 19 (.mov (.t 18)),
 oG 20 19 true (.mov (.t 0)),
 oG 21 19 true (.bin .leq (.t 20) (.k (.int .u8 57))),
 oD 22 (.pick (.t 19) (.t 21) (.k (.bool false)))])
 (.keep [0, 22]))
 (.cond (.t 22) (.seq (.seq (.ops none [oD 2 (.mov (.k (.int .i64 3)))])
 (.keep [2]))
 .ret)
 .skip))
 (.seq (.seq (.seq (.ops none [oD 23 (.mov (.t 0)),
 oD 24 (.eq false (.leaf .int) (.t 23) (.k (.int .u8 32)))])
 (.keep [0, 24]))
 (.cond (.t 24) (.seq (.seq (.ops none [oD 2 (.mov (.k (.int .i64 5)))])
 (.keep [2]))
 .ret)
 .skip))
 (.seq (.seq (.seq (.ops none [oD 25 (.mov (.t 0)),
 oD 26 (.eq false (.leaf .int) (.t 25) (.k (.int .u8 10)))])
 (.keep [0, 26]))
 (.cond (.t 26) (.seq (.seq (.ops none [oD 2 (.mov (.k (.int .i64 6)))])
 (.keep [2]))
 .ret)
 .skip))
 (.seq (.seq (.ops none [oD 27 (.call 160 []),
 oD 3 (.mov (.t 27))])
 (.keep [0, 3]))
 (.seq (.seq (.seq (.ops none [oD 4 (.mov (.k (.int .i64 0)))])
 (.keep [0, 3, 4]))
 (.block 0 (.loop (.seq (.keep [0, 3, 4])
 (.seq (.seq (.seq (.ops none [oD 28 (.mov (.t 4)),
 oD 29 (.mov (.t 3)),
 oD 30 (.len .str (.t 29)),
 oD 31 (.bin .lss (.t 28) (.t 30))])
 (.keep [0, 3, 4, 31]))
 (.cond (.t 31) .skip
 (.exit 0)))
 (.seq (.block 1 (.seq (.seq (.ops none [oD 34 (.mov (.t 3)),
 oD 35 (.mov (.t 4)),
 oD 36 (.indexStr (.t 34) (.t 35)),
 oD 37 (.mov (.t 0)),
 oD 38 (.eq false (.leaf .int) (.t 36) (.t 37))])
 (.keep [0, 3, 4, 38]))
 (.cond (.t 38) (.seq (.seq (.ops none [oD 2 (.mov (.k (.int .i64 4)))])
 (.keep [2]))
 .ret)
 .skip)))
 (.seq (.ops none [oD 32 (.mov (.t 4)),
 oD 33 (.bin .add (.t 32) (.k (.int .i64 1))),
 oD 4 (.mov (.t 33))])
 (.keep [0, 3, 4]))))))))
 (.seq (.seq (.ops none [oD 2 (.mov (.k (.int .i64 0)))])
 (.keep [2]))
 .ret)))))))))
  results := [.tmp 2]
theorem ok115 : FnOK Tryz.prog pureL 115 a115 := ⟨Tryz.f115, [(0, [0]), (1, [0, 10]), (2, [2]), (3, [0, 16]), (4, [2]), (5, [0, 22]), (6, [2]), (7, [0, 24]), (8, [2]), (9, [0, 26]), (10, [2]), (11, [0, 3]), (12, [0, 3, 4]), (13, [0, 3, 4, 31]), (15, [0, 3, 4, 38]), (16, [2]), (14, [0, 3, 4]), (17, [2])], [(0, [0, 3, 4])], Tryz.func115, by kernel_rfl⟩
/-- stylus/stylusref03.opens -/
def a116 : AFunc where
  body :=
  (.seq (.seq (.ops none [oD 4 (.mov (.k (.int .u8 0))),
 oD 5 (.mov (.k (.str [])))])
 (.keep [0, 1]))
 (.seq (.seq (.seq (.ops none [oD 6 (.mov (.k (.int .i64 0)))])
 (.keep [0, 1, 6]))
 (.block 0 (.loop (.seq (.keep [0, 1, 6])
 (.seq (.seq (.seq (.ops none [oD 8 (.mov (.t 6)),
 oD 9 (.call 140 []),
 oD 10 (.len .str (.t 9)),
 oD 11 (.bin .lss (.t 8) (.t 10))])
 (.keep [0, 1, 6, 11]))
 (.cond (.t 11) .skip
 (.exit 0)))
 (.seq (.block 1 (.seq (.seq (.ops none [oD 14 (.call 140 []),
 oD 15 (.mov (.t 6)),
 oD 16 (.indexStr (.t 14) (.t 15)),
 oD 17 (.call 94 [(.t 16)]),
 oD 7 (.mov (.t 17))])
 (.keep [0, 1, 6, 7]))
 (.seq (.seq (.ops none [oD 18 (.mov (.t 1)),
 oD 19 (.bin .add (.t 18) (.k (.int .i64 1))),
 oD 20 (.mov (.t 7)),
 oD 21 (.len .str (.t 20)),
 oD 22 (.bin .add (.t 19) (.t 21)),
 oD 23 (.mov (.t 0)),
 oD 24 (.len .str (.t 23)),
 oD 25 (.bin .leq (.t 22) (.t 24)),
 oD 26 (.mov (.t 25)),
 oG 27 26 true (.mov (.t 0)),
 oG 28 26 true (.mov (.t 1)),
 oG 29 26 true (.bin .add (.t 28) (.k (.int .i64 1))),
 oG 30 26 true (.mov (.t 1)),
 oG 31 26 true (.bin .add (.t 30) (.k (.int .i64 1))),
 oG 32 26 true (.mov (.t 7)),
 oG 33 26 true (.len .str (.t 32)),
 oG 34 26 true (.bin .add (.t 31) (.t 33)),
 oG 35 26 true (.sliceStr (.t 27) (some (.t 29)) (some (.t 34))),
 oG 36 26 true (.mov (.t 7)),
 oG 37 26 true (.eq false (.leaf .str) (.t 35) (.t 36)),
 oD 38 (.pick (.t 26) (.t 37) (.k (.bool false)))])
 (.keep [0, 1, 6, 7, 38]))
 (.cond (.t 38) (.seq (.seq (.ops none [oD 39 (.call 140 []),
 oD 40 (.mov (.t 6)),
 oD 41 (.indexStr (.t 39) (.t 40)),
 oD 42 (.mov (.t 7)),
 oD 4 (.mov (.t 41)),
 oD 5 (.mov (.t 42))])
 (.keep [4, 5]))
 .ret)
 .skip))))
 (.seq (.ops none [oD 12 (.mov (.t 6)),
 oD 13 (.bin .add (.t 12) (.k (.int .i64 1))),
 oD 6 (.mov (.t 13))])
 (.keep [0, 1, 6]))))))))
 (.seq (.seq (.ops none [oD 4 (.mov (.k (.int .u8 0))),
 oD 5 (.mov (.k (.str [])))])
 (.keep [4, 5]))
 .ret)))
  results := [.tmp 4, .tmp 5]
theorem ok116 : FnOK Tryz.prog pureL 116 a116 := ⟨Tryz.f116, [(0, [0, 1]), (1, [0, 1, 6]), (2, [0, 1, 6, 11]), (4, [0, 1, 6, 7]), (5, [0, 1, 6, 7, 38]), (6, [4, 5]), (3, [0, 1, 6]), (7, [4, 5])], [(0, [0, 1, 6])], Tryz.func116, by kernel_rfl⟩
/-- stylus/stylusref04.last -/
def a117 : AFunc where
  body :=
  (.seq (.seq (.ops none [oD 4 (.mov (.k (.int .i64 0)))])
 (.keep [0, 1]))
 (.seq (.seq (.seq (.ops none [oD 6 (.mov (.t 0)),
 oD 7 (.len .slice (.t 6)),
 oD 8 (.bin .sub (.t 7) (.k (.int .i64 1))),
 oD 5 (.mov (.t 8))])
 (.keep [0, 1, 5]))
 (.block 0 (.loop (.seq (.keep [0, 1, 5])
 (.seq (.seq (.seq (.ops none [oD 9 (.mov (.t 5)),
 oD 10 (.bin .gtr (.t 9) (.k (.int .i64 0)))])
 (.keep [0, 1, 5, 10]))
 (.cond (.t 10) .skip
 (.exit 0)))
 (.seq (.block 1 (.seq (.seq (.ops none [oD 13 (.mov (.t 0)),
 oD 14 (.mov (.t 5)),
 oD 15 (.idxSl 6 (.t 13) (.t 14)),
 oD 16 (.fieldAddr 0 (.t 15)),
 oD 17 (.load1 (.t 16)),
 oD 18 (.mov (.t 1)),
 oD 19 (.call 120 [(.t 17), (.t 18)])])
 (.keep [0, 1, 5, 19]))
 (.cond (.t 19) (.seq (.seq (.ops none [oD 20 (.mov (.t 5)),
 oD 4 (.mov (.t 20))])
 (.keep [4]))
 .ret)
 .skip)))
 (.seq (.ops none [oD 11 (.mov (.t 5)),
 oD 12 (.bin .sub (.t 11) (.k (.int .i64 1))),
 oD 5 (.mov (.t 12))])
 (.keep [0, 1, 5]))))))))
 (.seq (.seq (.ops none [oD 4 (.mov (.k (.int .i64 (-1))))])
 (.keep [4]))
 .ret)))
  results := [.tmp 4]
theorem ok117 : FnOK Tryz.prog pureL 117 a117 := ⟨Tryz.f117, [(0, [0, 1]), (1, [0, 1, 5]), (2, [0, 1, 5, 10]), (4, [0, 1, 5, 19]), (5, [4]), (3, [0, 1, 5]), (6, [4])], [(0, [0, 1, 5])], Tryz.func117, by kernel_rfl⟩
/-- stylus/stylusref04.opens -/
def a118 : AFunc where
  body :=
  (.seq (.seq (.ops none [oD 4 (.mov (.k (.bool false)))])
 (.keep [0, 1]))
 (.seq (.seq (.ops none [oD 7 (.mov (.t 0)),
 oD 8 (.mov (.t 0)),
 oD 9 (.len .slice (.t 8)),
 oD 10 (.bin .sub (.t 9) (.k (.int .i64 1))),
 oD 11 (.idxSl 6 (.t 7) (.t 10)),
 oD 12 (.loadN 6 (.t 11)),
 oD 5 (.alloc [(.int .u8 0), (.str []), (.int .i64 0), (.int .i64 0), (.int .i64 0), (.str [])]),
 oN (.store 6 (.t 5) (.t 12))])
 (.keep [0, 1, 5]))
 (.seq (.seq (.seq (.ops none [oD 13 (.mov (.t 0)),
 oD 14 (.len .slice (.t 13)),
 oD 15 (.eq false (.leaf .int) (.t 14) (.k (.int .i64 1)))])
 (.keep [0, 1, 5, 15]))
 (.cond (.t 15) (.seq (.seq (.ops none [oD 16 (.mov (.t 1)),
 oD 17 (.call 120 [(.t 16), (.k (.str [49, 50, 51, 112, 108, 116, 107]))]),
 oD 4 (.mov (.t 17))])
 (.keep [4]))
 .ret)
 .skip))
 (.seq (.seq (.seq (.ops none [oD 18 (.fieldAddr 0 (.t 5)),
 oD 19 (.load1 (.t 18)),
 oD 20 (.eq false (.leaf .int) (.t 19) (.k (.int .u8 105))),
 oD 21 (.mov (.t 20)),
 oG 22 21 true (.mov (.t 1)),
 oG 23 21 true (.eq false (.leaf .int) (.t 22) (.k (.int .u8 108))),
 oD 24 (.pick (.t 21) (.t 23) (.k (.bool false))),
 oD 25 (.mov (.t 24)),
 oG 26 25 false (.fieldAddr 0 (.t 5)),
 oG 27 25 false (.load1 (.t 26)),
 oG 28 25 false (.eq false (.leaf .int) (.t 27) (.k (.int .u8 108))),
 oG 29 25 false (.mov (.t 28)),
 oG 30 29 true (.mov (.t 1)),
 oG 31 29 true (.eq false (.leaf .int) (.t 30) (.k (.int .u8 105))),
 oG 32 25 false (.pick (.t 29) (.t 31) (.k (.bool false))),
 oD 33 (.pick (.t 25) (.k (.bool true)) (.t 32)),
 oD 34 (.mov (.t 33)),
 oG 35 34 false (.fieldAddr 0 (.t 5)),
 oG 36 34 false (.load1 (.t 35)),
 oG 37 34 false (.eq false (.leaf .int) (.t 36) (.k (.int .u8 116))),
 oG 38 34 false (.mov (.t 37)),
 oG 39 38 true (.mov (.t 1)),
 oG 40 38 true (.eq false (.leaf .int) (.t 39) (.k (.int .u8 114))),
 oG 41 34 false (.pick (.t 38) (.t 40) (.k (.bool false))),
 oD 42 (.pick (.t 34) (.k (.bool true)) (.t 41))])
 (.keep [0, 1, 5, 42]))
 (.cond (.t 42) (.seq (.seq (.ops none [oD 4 (.mov (.k (.bool true)))])
 (.keep [4]))
 .ret)
 .skip))
 (.seq (.seq (.seq (.ops none [oD 43 (.fieldAddr 0 (.t 5)),
 oD 44 (.load1 (.t 43)),
 oD 45 (.eq false (.leaf .int) (.t 44) (.k (.int .u8 114)))])
 (.keep [0, 1, 5, 45]))
 (.cond (.t 45) (.seq (.seq (.ops none [oD 46 (.mov (.t 1)),
 oD 47 (.eq false (.leaf .int) (.t 46) (.k (.int .u8 99))),
 oD 48 (.mov (.t 47)),
 oG 49 48 true (.fieldAddr 1 (.t 5)),
 oG 50 48 true (.load1 (.t 49)),
 oG 51 48 true (.len .str (.t 50)),
 oG 52 48 true (.bin .lss (.t 51) (.k (.int .i64 8))),
 oD 53 (.pick (.t 48) (.t 52) (.k (.bool false))),
 oD 4 (.mov (.t 53))])
 (.keep [4]))
 .ret)
 .skip))
 (.seq (.seq (.seq (.ops none [oD 54 (.mov (.t 0)),
 oD 55 (.call 97 [(.t 54)]),
 oD 56 (.un .not (.t 55)),
 oD 57 (.mov (.t 56)),
 oG 58 57 false (.mov (.t 1)),
 oG 59 57 false (.call 120 [(.t 58), (.k (.str [101, 115, 110]))]),
 oG 60 57 false (.un .not (.t 59)),
 oD 61 (.pick (.t 57) (.k (.bool true)) (.t 60)),
 oD 62 (.mov (.t 61)),
 oG 63 62 false (.mov (.t 0)),
 oG 64 62 false (.mov (.t 1)),
 oG 65 62 false (.call 119 [(.t 63), (.t 64)]),
 oG 66 62 false (.bin .gtr (.t 65) (.k (.int .i64 0))),
 oD 67 (.pick (.t 62) (.k (.bool true)) (.t 66))])
 (.keep [0, 1, 67]))
 (.cond (.t 67) (.seq (.seq (.ops none [oD 4 (.mov (.k (.bool false)))])
 (.keep [4]))
 .ret)
 .skip))
 (.seq (.seq (.seq (.ops none [oD 68 (.mov (.t 1)),
 oD 69 (.eq true (.leaf .int) (.t 68) (.k (.int .u8 110)))])
 (.keep [0, 69]))
 (.cond (.t 69) (.seq (.seq (.ops none [oD 4 (.mov (.k (.bool true)))])
 (.keep [4]))
 .ret)
 .skip))
 (.seq (.seq (.ops none [oD 70 (.mov (.t 0)),
 oD 71 (.call 117 [(.t 70), (.k (.str [49, 50, 51, 112, 105]))]),
 oD 6 (.mov (.t 71))])
 (.keep [0, 6]))
 (.seq (.seq (.ops none [oD 72 (.mov (.t 0)),
 oD 73 (.call 119 [(.t 72), (.k (.int .u8 99))]),
 oD 74 (.eq false (.leaf .int) (.t 73) (.k (.int .i64 0))),
 oD 75 (.mov (.t 74)),
 oG 76 75 true (.mov (.t 6)),
 oG 77 75 true (.bin .gtr (.t 76) (.k (.int .i64 0))),
 oD 78 (.pick (.t 75) (.t 77) (.k (.bool false))),
 oD 79 (.mov (.t 78)),
 oG 80 79 true (.mov (.t 0)),
 oG 81 79 true (.mov (.t 6)),
 oG 82 79 true (.idxSl 6 (.t 80) (.t 81)),
 oG 83 79 true (.fieldAddr 3 (.t 82)),
 oG 84 79 true (.load1 (.t 83)),
 oG 85 79 true (.eq false (.leaf .int) (.t 84) (.k (.int .i64 0))),
 oD 86 (.pick (.t 79) (.t 85) (.k (.bool false))),
 oD 4 (.mov (.t 86))])
 (.keep [4]))
 .ret)))))))))
  results := [.tmp 4]
theorem ok118 : FnOK Tryz.prog pureL 118 a118 := ⟨Tryz.f118, [(0, [0, 1]), (1, [0, 1, 5]), (2, [0, 1, 5, 15]), (3, [4]), (4, [0, 1, 5, 42]), (5, [4]), (6, [0, 1, 5, 45]), (7, [4]), (8, [0, 1, 67]), (9, [4]), (10, [0, 69]), (11, [4]), (12, [0, 6]), (13, [4])], [], Tryz.func118, by kernel_rfl⟩
/-- stylus/stylusref04.many -/
def a119 : AFunc where
  body :=
  (.seq (.seq (.ops none [oD 4 (.mov (.k (.int .i64 0)))])
 (.keep [0, 1]))
 (.seq (.seq (.ops none [oD 5 (.mov (.k (.int .i64 0)))])
 (.keep [0, 1, 5]))
 (.seq (.seq (.seq (.ops none [oD 6 (.mov (.k (.int .i64 1)))])
 (.keep [0, 1, 5, 6]))
 (.block 0 (.loop (.seq (.keep [0, 1, 5, 6])
 (.seq (.seq (.seq (.ops none [oD 7 (.mov (.t 6)),
 oD 8 (.mov (.t 0)),
 oD 9 (.len .slice (.t 8)),
 oD 10 (.bin .lss (.t 7) (.t 9))])
 (.keep [0, 1, 5, 6, 10]))
 (.cond (.t 10) .skip
 (.exit 0)))
 (.seq (.block 1 (.seq (.seq (.ops none [oD 13 (.mov (.t 0)),
 oD 14 (.mov (.t 6)),
 oD 15 (.idxSl 6 (.t 13) (.t 14)),
 oD 16 (.fieldAddr 0 (.t 15)),
 oD 17 (.load1 (.t 16)),
 oD 18 (.mov (.t 1)),
 oD 19 (.eq false (.leaf .int) (.t 17) (.t 18))])
 (.keep [0, 1, 5, 6, 19]))
 (.cond (.t 19) (.seq (.ops none [oD 20 (.mov (.t 5)),
 oD 21 (.bin .add (.t 20) (.k (.int .i64 1))),
 oD 5 (.mov (.t 21))])
 (.keep [0, 1, 5, 6]))
 .skip)))
 (.seq (.ops none [oD 11 (.mov (.t 6)),
 oD 12 (.bin .add (.t 11) (.k (.int .i64 1))),
 oD 6 (.mov (.t 12))])
 (.keep [0, 1, 5, 6]))))))))
 (.seq (.seq (.ops none [oD 22 (.mov (.t 5)),
 oD 4 (.mov (.t 22))])
 (.keep [4]))
 .ret))))
  results := [.tmp 4]
theorem ok119 : FnOK Tryz.prog pureL 119 a119 := ⟨Tryz.f119, [(0, [0, 1]), (1, [0, 1, 5]), (2, [0, 1, 5, 6]), (3, [0, 1, 5, 6, 10]), (5, [0, 1, 5, 6, 19]), (6, [0, 1, 5, 6]), (4, [0, 1, 5, 6]), (7, [4])], [(0, [0, 1, 5, 6])], Tryz.func119, by kernel_rfl⟩
/-- stylus/stylusref04.in -/
def a120 : AFunc where
  body :=
  (.seq (.seq (.ops none [oD 4 (.mov (.k (.bool false)))])
 (.keep [0, 1]))
 (.seq (.seq (.seq (.ops none [oD 5 (.mov (.k (.int .i64 0)))])
 (.keep [0, 1, 5]))
 (.block 0 (.loop (.seq (.keep [0, 1, 5])
 (.seq (.seq (.seq (.ops none [oD 6 (.mov (.t 5)),
 oD 7 (.mov (.t 1)),
 oD 8 (.len .str (.t 7)),
 oD 9 (.bin .lss (.t 6) (.t 8))])
 (.keep [0, 1, 5, 9]))
 (.cond (.t 9) .skip
 (.exit 0)))
 (.seq (.block 1 (.seq (.seq (.ops none [oD 12 (.mov (.t 1)),
 oD 13 (.mov (.t 5)),
 oD 14 (.indexStr (.t 12) (.t 13)),
 oD 15 (.mov (.t 0)),
 oD 16 (.eq false (.leaf .int) (.t 14) (.t 15))])
 (.keep [0, 1, 5, 16]))
 (.cond (.t 16) (.seq (.seq (.ops none [oD 4 (.mov (.k (.bool true)))])
 (.keep [4]))
 .ret)
 .skip)))
 (.seq (.ops none [oD 10 (.mov (.t 5)),
 oD 11 (.bin .add (.t 10) (.k (.int .i64 1))),
 oD 5 (.mov (.t 11))])
 (.keep [0, 1, 5]))))))))
 (.seq (.seq (.ops none [oD 4 (.mov (.k (.bool false)))])
 (.keep [4]))
 .ret)))
  results := [.tmp 4]
theorem ok120 : FnOK Tryz.prog pureL 120 a120 := ⟨Tryz.f120, [(0, [0, 1]), (1, [0, 1, 5]), (2, [0, 1, 5, 9]), (4, [0, 1, 5, 16]), (5, [4]), (3, [0, 1, 5]), (6, [4])], [(0, [0, 1, 5])], Tryz.func120, by kernel_rfl⟩
/-- stylus/stylusref05.flowed -/
def a121 : AFunc where
  body :=
  (.seq (.seq (.ops none [oD 2 (.mov (.k (.bool false)))])
 (.keep [0]))
 (.seq (.seq (.ops none [oD 3 (.mov (.t 0)),
 oD 4 (.eq false (.leaf .int) (.t 3) (.k (.int .u8 49))),
 oD 5 (.mov (.t 4)),
 oG 6 5 false (.mov (.t 0)),
 oG 7 5 false (.eq false (.leaf .int) (.t 6) (.k (.int .u8 50))),
 oD 8 (.pick (.t 5) (.k (.bool true)) (.t 7)),
 oD 9 (.mov (.t 8)),
 oG 10 9 false (.mov (.t 0)),
 oG 11 9 false (.eq false (.leaf .int) (.t 10) (.k (.int .u8 51))),
 oD 12 (.pick (.t 9) (.k (.bool true)) (.t 11)),
 oD 13 (.mov (.t 12)),
 oG 14 13 false (.mov (.t 0)),
 oG 15 13 false (.eq false (.leaf .int) (.t 14) (.k (.int .u8 112))),
 oD 16 (.pick (.t 13) (.k (.bool true)) (.t 15)),
 oD 17 (.mov (.t 16)),
 oG 18 17 false (.mov (.t 0)),
 oG 19 17 false (.eq false (.leaf .int) (.t 18) (.k (.int .u8 105))),
 oD 20 (.pick (.t 17) (.k (.bool true)) (.t 19)),
 oD 21 (.mov (.t 20)),
 oG 22 21 false (.mov (.t 0)),
 oG 23 21 false (.eq false (.leaf .int) (.t 22) (.k (.int .u8 99))),
 oD 24 (.pick (.t 21) (.k (.bool true)) (.t 23)),
 oD 25 (.mov (.t 24)),
 oG 26 25 false (.mov (.t 0)),
 oG 27 25 false (.eq false (.leaf .int) (.t 26) (.k (.int .u8 110))),
 oD 28 (.pick (.t 25) (.k (.bool true)) (.t 27)),
 oD 2 (.mov (.t 28))])
 (.keep [2]))
 .ret))
  results := [.tmp 2]
theorem ok121 : FnOK Tryz.prog pureL 121 a121 := ⟨Tryz.f121, [(0, [0]), (1, [2])], [], Tryz.func121, by kernel_rfl⟩
/-- stylus/stylusref05.Kept -/
def a122 : AFunc where
  body :=
  (.seq (.seq (.ops none [oD 2 (.mov (.k .nilslice))])
 (.keep [0]))
 (.seq (.seq (.ops none [oD 3 (.mov (.k .nilslice))])
 (.keep [0, 3]))
 (.seq (.seq (.seq (.ops none [oD 4 (.mov (.k (.int .i64 0)))])
 (.keep [0, 3, 4]))
 (.block 0 (.loop (.seq (.keep [0, 3, 4])
 (.seq (.seq (.seq (.ops none [oD 7 (.mov (.t 4)),
 oD 8 (.mov (.t 0)),
 oD 9 (.len .slice (.t 8)),
 oD 10 (.bin .lss (.t 7) (.t 9))])
 (.keep [0, 3, 4, 10]))
 (.cond (.t 10) .skip
 (.exit 0)))
 (.seq (.block 1 (.seq (.seq (.seq (.ops none [oD 13 (.mov (.t 0)),
 oD 14 (.mov (.t 4)),
 oD 15 (.idxSl 3 (.t 13) (.t 14)),
 oD 16 (.fieldAddr 0 (.t 15)),
 oD 17 (.load1 (.t 16)),
 oD 18 (.eq true (.leaf .int) (.t 17) (.k (.int .u8 32)))])
 (.keep [0, 3, 4, 18]))
 (.cond (.t 18) (.seq (.seq (.ops none [oD 19 (.mov (.t 3)),
 oD 20 (.mov (.t 0)),
 oD 21 (.mov (.t 4)),
 oD 22 (.idxSl 3 (.t 20) (.t 21)),
 oD 23 (.loadN 3 (.t 22)),
 oD 24 (.buildSlice [(.int .u8 0), (.int .i64 0), (.int .i64 0)] 3 1 [(0, 3, (.t 23))]),
 oD 25 (.append 3 (.t 19) (.t 24)),
 oD 3 (.mov (.t 25))])
 (.keep [0, 3, 4]))
 (.exit 1))
 .skip))
 (.seq (.seq (.ops none [oD 5 (.mov (.k (.int .i64 0)))])
 (.keep [0, 3, 4, 5]))
 (.seq (.seq (.seq (.ops none [oD 26 (.mov (.t 4)),
 oD 6 (.mov (.t 26))])
 (.keep [0, 3, 4, 5, 6]))
 (.block 2 (.loop (.seq (.keep [0, 3, 4, 5, 6])
 (.seq (.seq (.seq (.ops none [oD 27 (.mov (.t 6)),
 oD 28 (.mov (.t 0)),
 oD 29 (.len .slice (.t 28)),
 oD 30 (.bin .lss (.t 27) (.t 29))])
 (.keep [0, 3, 4, 5, 6, 30]))
 (.cond (.t 30) .skip
 (.exit 2)))
 (.seq (.block 3 (.seq (.seq (.ops none [oD 33 (.mov (.t 0)),
 oD 34 (.mov (.t 6)),
 oD 35 (.idxSl 3 (.t 33) (.t 34)),
 oD 36 (.fieldAddr 0 (.t 35)),
 oD 37 (.load1 (.t 36)),
 oD 38 (.eq true (.leaf .int) (.t 37) (.k (.int .u8 32)))])
 (.keep [0, 3, 4, 5, 6, 38]))
 (.cond (.t 38) (.seq (.ops none [oD 39 (.mov (.t 5)),
 oD 40 (.bin .add (.t 39) (.k (.int .i64 1))),
 oD 5 (.mov (.t 40))])
 (.keep [0, 3, 4, 5, 6]))
 .skip)))
 (.seq (.ops none [oD 31 (.mov (.t 6)),
 oD 32 (.bin .add (.t 31) (.k (.int .i64 1))),
 oD 6 (.mov (.t 32))])
 (.keep [0, 3, 4, 5, 6]))))))))
 (.seq (.seq (.ops none [oD 41 (.mov (.t 3)),
 oD 42 (.len .slice (.t 41)),
 oD 43 (.bin .gtr (.t 42) (.k (.int .i64 0))),
 oD 44 (.mov (.t 43)),
 oG 45 44 true (.mov (.t 3)),
 oG 46 44 true (.mov (.t 3)),
 oG 47 44 true (.len .slice (.t 46)),
 oG 48 44 true (.bin .sub (.t 47) (.k (.int .i64 1))),
 oG 49 44 true (.idxSl 3 (.t 45) (.t 48)),
 oG 50 44 true (.fieldAddr 0 (.t 49)),
 oG 51 44 true (.load1 (.t 50)),
 oG 52 44 true (.eq true (.leaf .int) (.t 51) (.k (.int .u8 32))),
 oD 53 (.pick (.t 44) (.t 52) (.k (.bool false))),
 oD 54 (.mov (.t 53)),
 oG 55 54 true (.mov (.t 5)),
 oG 56 54 true (.bin .gtr (.t 55) (.k (.int .i64 0))),
 oD 57 (.pick (.t 54) (.t 56) (.k (.bool false)))])
 (.keep [0, 3, 4, 57]))
 (.cond (.t 57) (.seq (.ops none [oD 58 (.mov (.t 3)),
 oD 59 (.mov (.t 0)),
 oD 60 (.mov (.t 4)),
 oD 61 (.idxSl 3 (.t 59) (.t 60)),
 oD 62 (.loadN 3 (.t 61)),
 oD 63 (.buildSlice [(.int .u8 0), (.int .i64 0), (.int .i64 0)] 3 1 [(0, 3, (.t 62))]),
 oD 64 (.append 3 (.t 58) (.t 63)),
 oD 3 (.mov (.t 64))])
 (.keep [0, 3, 4]))
 .skip))))))
 (.seq (.ops none [oD 11 (.mov (.t 4)),
 oD 12 (.bin .add (.t 11) (.k (.int .i64 1))),
 oD 4 (.mov (.t 12))])
 (.keep [0, 3, 4]))))))))
 (.seq (.seq (.ops none [oD 65 (.mov (.t 3)),
 oD 2 (.mov (.t 65))])
 (.keep [2]))
 .ret))))
  results := [.tmp 2]
theorem ok122 : FnOK Tryz.prog pureL 122 a122 := ⟨Tryz.f122, [(0, [0]), (1, [0, 3]), (2, [0, 3, 4]), (3, [0, 3, 4, 10]), (5, [0, 3, 4, 18]), (6, [0, 3, 4]), (7, [0, 3, 4, 5]), (8, [0, 3, 4, 5, 6]), (9, [0, 3, 4, 5, 6, 30]), (11, [0, 3, 4, 5, 6, 38]), (12, [0, 3, 4, 5, 6]), (10, [0, 3, 4, 5, 6]), (13, [0, 3, 4, 57]), (14, [0, 3, 4]), (4, [0, 3, 4]), (15, [2])], [(0, [0, 3, 4]), (2, [0, 3, 4, 5, 6])], Tryz.func122, by kernel_rfl⟩
/-- stylus/stylusref05.Spots -/
def a123 : AFunc where
  body :=
  (.seq (.seq (.ops none [oD 4 (.mov (.k .nilslice))])
 (.keep [0, 1]))
 (.seq (.seq (.ops none [oD 5 (.mov (.k .nilslice))])
 (.keep [0, 1, 5]))
 (.seq (.seq (.seq (.ops none [oD 9 (.mov (.t 1)),
 oD 10 (.bin .add (.t 9) (.k (.int .i64 1))),
 oD 6 (.mov (.t 10))])
 (.keep [0, 1, 5, 6]))
 (.block 0 (.loop (.seq (.keep [0, 1, 5, 6])
 (.seq (.seq (.seq (.ops none [oD 11 (.mov (.t 6)),
 oD 12 (.mov (.t 1)),
 oD 13 (.mov (.t 0)),
 oD 14 (.mov (.t 1)),
 oD 15 (.idxSl 4 (.t 13) (.t 14)),
 oD 16 (.fieldAddr 3 (.t 15)),
 oD 17 (.load1 (.t 16)),
 oD 18 (.bin .add (.t 12) (.t 17)),
 oD 19 (.bin .lss (.t 11) (.t 18))])
 (.keep [0, 1, 5, 6, 19]))
 (.cond (.t 19) .skip
 (.exit 0)))
 (.seq (.block 1 (.seq (.seq (.seq (.ops none [oD 22 (.mov (.t 0)),
 oD 23 (.mov (.t 6)),
 oD 24 (.idxSl 4 (.t 22) (.t 23)),
 oD 25 (.fieldAddr 0 (.t 24)),
 oD 26 (.load1 (.t 25)),
 oD 27 (.eq true (.leaf .int) (.t 26) (.k (.int .u8 46))),
 oD 28 (.mov (.t 27)),
 oG 29 28 false (.mov (.t 0)),
 oG 30 28 false (.mov (.t 6)),
 oG 31 28 false (.call 161 [(.t 29), (.t 30)]),
 oG 32 28 false (.mov (.t 1)),
 oG 33 28 false (.eq true (.leaf .int) (.t 31) (.t 32)),
 oD 34 (.pick (.t 28) (.k (.bool true)) (.t 33))])
 (.keep [0, 1, 5, 6, 34]))
 (.cond (.t 34) (.exit 1)
 .skip))
 (.seq (.seq (.ops none [oD 7 (.mov (.k (.int .i64 0)))])
 (.keep [0, 1, 5, 6, 7]))
 (.block 2 (.loop (.seq (.keep [0, 1, 5, 6, 7])
 (.seq (.seq (.seq (.ops none [oD 35 (.mov (.t 7)),
 oD 36 (.mov (.t 0)),
 oD 37 (.mov (.t 6)),
 oD 38 (.idxSl 4 (.t 36) (.t 37)),
 oD 39 (.fieldAddr 1 (.t 38)),
 oD 40 (.load1 (.t 39)),
 oD 41 (.len .str (.t 40)),
 oD 42 (.bin .lss (.t 35) (.t 41))])
 (.keep [0, 1, 5, 6, 7, 42]))
 (.cond (.t 42) .skip
 (.exit 2)))
 (.seq (.block 3 (.seq (.seq (.ops none [oD 45 (.mov (.t 0)),
 oD 46 (.mov (.t 6)),
 oD 47 (.idxSl 4 (.t 45) (.t 46)),
 oD 48 (.fieldAddr 1 (.t 47)),
 oD 49 (.load1 (.t 48)),
 oD 50 (.mov (.t 7)),
 oD 51 (.indexStr (.t 49) (.t 50)),
 oD 8 (.mov (.t 51))])
 (.keep [0, 1, 5, 6, 7, 8]))
 (.seq (.seq (.ops none [oD 52 (.mov (.t 8)),
 oD 53 (.call 95 [(.t 52)]),
 oD 54 (.un .not (.t 53))])
 (.keep [0, 1, 5, 6, 7, 8, 54]))
 (.cond (.t 54) (.seq (.ops none [oD 55 (.mov (.t 5)),
 oD 56 (.mov (.t 8)),
 oD 57 (.mov (.t 6)),
 oD 58 (.mov (.t 7)),
 oD 59 (.build [(.int .u8 0), (.int .i64 0), (.int .i64 0)] [(0, 1, (.t 56)), (1, 1, (.t 57)), (2, 1, (.t 58))]),
 oD 60 (.buildSlice [(.int .u8 0), (.int .i64 0), (.int .i64 0)] 3 1 [(0, 3, (.t 59))]),
 oD 61 (.append 3 (.t 55) (.t 60)),
 oD 5 (.mov (.t 61))])
 (.keep [0, 1, 5, 6, 7]))
 (.seq (.seq (.ops none [oD 62 (.mov (.t 7)),
 oD 63 (.eq false (.leaf .int) (.t 62) (.k (.int .i64 0))),
 oD 64 (.mov (.t 63)),
 oG 65 64 false (.mov (.t 0)),
 oG 66 64 false (.mov (.t 6)),
 oG 67 64 false (.idxSl 4 (.t 65) (.t 66)),
 oG 68 64 false (.fieldAddr 1 (.t 67)),
 oG 69 64 false (.load1 (.t 68)),
 oG 70 64 false (.mov (.t 7)),
 oG 71 64 false (.bin .sub (.t 70) (.k (.int .i64 1))),
 oG 72 64 false (.indexStr (.t 69) (.t 71)),
 oG 73 64 false (.call 95 [(.t 72)]),
 oG 74 64 false (.un .not (.t 73)),
 oD 75 (.pick (.t 64) (.k (.bool true)) (.t 74))])
 (.keep [0, 1, 5, 6, 7, 75]))
 (.cond (.t 75) (.seq (.ops none [oD 76 (.mov (.t 5)),
 oD 77 (.mov (.t 6)),
 oD 78 (.mov (.t 7)),
 oD 79 (.build [(.int .u8 0), (.int .i64 0), (.int .i64 0)] [(0, 1, (.k (.int .u8 32))), (1, 1, (.t 77)), (2, 1, (.t 78))]),
 oD 80 (.buildSlice [(.int .u8 0), (.int .i64 0), (.int .i64 0)] 3 1 [(0, 3, (.t 79))]),
 oD 81 (.append 3 (.t 76) (.t 80)),
 oD 5 (.mov (.t 81))])
 (.keep [0, 1, 5, 6, 7]))
 .skip))))))
 (.seq (.ops none [oD 43 (.mov (.t 7)),
 oD 44 (.bin .add (.t 43) (.k (.int .i64 1))),
 oD 7 (.mov (.t 44))])
 (.keep [0, 1, 5, 6, 7]))))))))))
 (.seq (.ops none [oD 20 (.mov (.t 6)),
 oD 21 (.bin .add (.t 20) (.k (.int .i64 1))),
 oD 6 (.mov (.t 21))])
 (.keep [0, 1, 5, 6]))))))))
 (.seq (.seq (.ops none [oD 82 (.mov (.t 5)),
 oD 4 (.mov (.t 82))])
 (.keep [4]))
 .ret))))
  results := [.tmp 4]
theorem ok123 : FnOK Tryz.prog pureL 123 a123 := ⟨Tryz.f123, [(0, [0, 1]), (1, [0, 1, 5]), (2, [0, 1, 5, 6]), (3, [0, 1, 5, 6, 19]), (5, [0, 1, 5, 6, 34]), (6, [0, 1, 5, 6, 7]), (7, [0, 1, 5, 6, 7, 42]), (9, [0, 1, 5, 6, 7, 8]), (10, [0, 1, 5, 6, 7, 8, 54]), (12, [0, 1, 5, 6, 7, 75]), (13, [0, 1, 5, 6, 7]), (11, [0, 1, 5, 6, 7]), (8, [0, 1, 5, 6, 7]), (4, [0, 1, 5, 6]), (14, [4])], [(0, [0, 1, 5, 6]), (2, [0, 1, 5, 6, 7])], Tryz.func123, by kernel_rfl⟩
/-- slices.IndexFunc[[]stylus/api.Node,stylus/api.Node] -/
def a124 : AFunc where
  body :=
  (.seq (.seq (.ops none [oD 4 (.mov (.k (.int .i64 0)))])
 (.keep [0, 1]))
 (.seq (.seq (.seq (.ops none [oD 6 (.mov (.t 0)),
 oD 7 (.len .slice (.t 6)),
 oD 8 (.mov (.k (.int .i64 0)))])
 (.keep [0, 1, 7, 8]))
 (.block 0 (.loop (.seq (.keep [0, 1, 7, 8])
 (.seq (.seq (.ops none [oD 9 (.bin .lss (.t 8) (.t 7))])
 (.keep [0, 1, 7, 8, 9]))
 (.seq (.cond (.t 9) .skip
 (.exit 0))
 (.seq (.block 1 (.seq (.seq (.ops none [oD 10 (.mov (.t 8)),
 oD 5 (.mov (.t 10))])
 (.keep [0, 1, 5, 7, 8]))
 (.seq (.seq (.ops none [oD 11 (.mov (.t 1)),
 oD 12 (.mov (.t 0)),
 oD 13 (.mov (.t 5)),
 oD 14 (.idxSl 4 (.t 12) (.t 13)),
 oD 15 (.loadN 4 (.t 14)),
 oD 16 (.callv (.t 11) [(.t 15)])])
 (.keep [0, 1, 5, 7, 8, 16]))
 (.cond (.t 16) (.seq (.seq (.ops none [oD 17 (.mov (.t 5)),
 oD 4 (.mov (.t 17))])
 (.keep [4]))
 .ret)
 .skip))))
 (.seq (.ops none [oD 18 (.bin .add (.t 8) (.k (.int .i64 1))),
 oD 8 (.mov (.t 18))])
 (.keep [0, 1, 7, 8])))))))))
 (.seq (.seq (.ops none [oD 4 (.mov (.k (.int .i64 (-1))))])
 (.keep [4]))
 .ret)))
  results := [.tmp 4]
theorem ok124 : FnOK Tryz.prog pureL 124 a124 := ⟨Tryz.f124, [(0, [0, 1]), (1, [0, 1, 7, 8]), (2, [0, 1, 7, 8, 9]), (3, [0, 1, 5, 7, 8]), (4, [0, 1, 5, 7, 8, 16]), (5, [4]), (6, [0, 1, 7, 8]), (7, [4])], [(0, [0, 1, 7, 8])], Tryz.func124, by kernel_rfl⟩
/-- stylus/lex.Name -/
def a125 : AFunc where
  body :=
  (.seq (.seq (.ops none [oD 1 (.box (.t 0)),
 oD 2 (.mov (.k (.str [])))])
 (.keep [1]))
 (.seq (.seq (.ops none [oD 5 (.call 162 []),
 oD 3 (.mov (.t 5))])
 (.keep [1, 3]))
 (.seq (.seq (.ops none [oD 6 (.mov (.t 3)),
 oD 7 (.makeFunc 163 [] [(.t 1)]),
 oD 8 (.call 154 [(.t 6), (.t 7)]),
 oD 4 (.mov (.t 8))])
 (.keep [3, 4]))
 (.seq (.seq (.seq (.ops none [oD 9 (.mov (.t 4)),
 oD 10 (.bin .lss (.t 9) (.k (.int .i64 0)))])
 (.keep [3, 4, 10]))
 (.cond (.t 10) (.seq (.seq (.ops none [oD 2 (.mov (.k (.str [])))])
 (.keep [2]))
 .ret)
 .skip))
 (.seq (.seq (.ops none [oD 11 (.mov (.t 3)),
 oD 12 (.mov (.t 4)),
 oD 13 (.idxSl 1 (.t 11) (.t 12)),
 oD 14 (.load1 (.t 13)),
 oD 2 (.mov (.t 14))])
 (.keep [2]))
 .ret)))))
  results := [.tmp 2]
theorem ok125 : FnOK Tryz.prog pureL 125 a125 := ⟨Tryz.f125, [(0, [1]), (1, [1, 3]), (2, [3, 4]), (3, [3, 4, 10]), (4, [2]), (5, [2])], [], Tryz.func125, by kernel_rfl⟩
/-- stylus/tree.plain$1 -/
def a126 : AFunc where
  body :=
  (.seq (.seq (.ops none [oD 2 (.mov (.k (.bool false)))])
 (.keep [0]))
 (.seq (.seq (.ops none [oD 3 (.mov (.t 0)),
 oD 4 (.bin .gtr (.t 3) (.k (.int .i32 127))),
 oD 5 (.mov (.t 4)),
 oG 6 5 false (.mov (.t 0)),
 oG 7 5 false (.convInt .u8 (.t 6)),
 oG 8 5 false (.call 127 [(.t 7)]),
 oG 9 5 false (.un .not (.t 8)),
 oG 10 5 false (.mov (.t 9)),
 oG 11 10 true (.mov (.t 0)),
 oG 12 10 true (.convInt .u8 (.t 11)),
 oG 13 10 true (.call 128 [(.t 12)]),
 oG 14 10 true (.un .not (.t 13)),
 oG 15 5 false (.pick (.t 10) (.t 14) (.k (.bool false))),
 oD 16 (.pick (.t 5) (.k (.bool true)) (.t 15)),
 oD 2 (.mov (.t 16))])
 (.keep [2]))
 .ret))
  results := [.tmp 2]
theorem ok126 : FnOK Tryz.prog pureL 126 a126 := ⟨Tryz.f126, [(0, [0]), (1, [2])], [], Tryz.func126, by kernel_rfl⟩
/-- stylus/chars.Is -/
def a127 : AFunc where
  body :=
  (.seq (.seq (.ops none [oD 2 (.mov (.k (.bool false)))])
 (.keep [0]))
 (.seq (.seq (.ops none [oD 4 (.mov (.t 0)),
 oD 5 (.call 165 [(.t 4)]),
 oD 3 (.mov (.t 5))])
 (.keep [3]))
 (.seq (.seq (.ops none [oD 6 (.mov (.t 3)),
 oD 7 (.eq true (.leaf .int) (.t 6) (.k (.int .i64 0))),
 oD 8 (.mov (.t 7)),
 oG 9 8 true (.mov (.t 3)),
 oG 10 8 true (.eq true (.leaf .int) (.t 9) (.k (.int .i64 6))),
 oD 11 (.pick (.t 8) (.t 10) (.k (.bool false))),
 oD 2 (.mov (.t 11))])
 (.keep [2]))
 .ret)))
  results := [.tmp 2]
theorem ok127 : FnOK Tryz.prog pureL 127 a127 := ⟨Tryz.f127, [(0, [0]), (1, [3]), (2, [2])], [], Tryz.func127, by kernel_rfl⟩
/-- stylus/chars.White -/
def a128 : AFunc where
  body :=
  (.seq (.seq (.ops none [oD 2 (.mov (.k (.bool false)))])
 (.keep [0]))
 (.seq (.seq (.ops none [oD 3 (.mov (.t 0)),
 oD 4 (.eq false (.leaf .int) (.t 3) (.k (.int .u8 32))),
 oD 5 (.mov (.t 4)),
 oG 6 5 false (.mov (.t 0)),
 oG 7 5 false (.eq false (.leaf .int) (.t 6) (.k (.int .u8 10))),
 oD 8 (.pick (.t 5) (.k (.bool true)) (.t 7)),
 oD 2 (.mov (.t 8))])
 (.keep [2]))
 .ret))
  results := [.tmp 2]
theorem ok128 : FnOK Tryz.prog pureL 128 a128 := ⟨Tryz.f128, [(0, [0]), (1, [2])], [], Tryz.func128, by kernel_rfl⟩
/-- strings.ContainsFunc -/
def a129 : AFunc where
  body :=
  (.seq (.seq (.ops none [oD 4 (.mov (.k (.bool false)))])
 (.keep [0, 1]))
 (.seq (.seq (.ops none [oD 5 (.mov (.t 0)),
 oD 6 (.mov (.t 1)),
 oD 7 (.call 166 [(.t 5), (.t 6)]),
 oD 8 (.bin .geq (.t 7) (.k (.int .i64 0))),
 oD 4 (.mov (.t 8))])
 (.keep [4]))
 .ret))
  results := [.tmp 4]
theorem ok129 : FnOK Tryz.prog pureL 129 a129 := ⟨Tryz.f129, [(0, [0, 1]), (1, [4])], [], Tryz.func129, by kernel_rfl⟩
/-- stylus/tree.pairs -/
def a130 : AFunc where
  body :=
  (.seq (.seq (.ops none [oD 0 (.mov (.k .nilmap))])
 (.keep []))
 (.seq (.seq (.ops none [oD 3 (.makeMap),
 oD 1 (.alloc [.nilmap]),
 oN (.store 1 (.t 1) (.t 3))])
 (.keep [1]))
 (.seq (.seq (.ops none [oD 4 (.makeFunc 167 [] [(.t 1)]),
 oD 2 (.mov (.t 4))])
 (.keep [1, 2]))
 (.seq (.seq (.ops none [oD 5 (.mov (.t 2)),
 oD 6 (.callv (.t 5) [(.k (.str [0])), (.k (.str [49, 50, 51, 112, 108, 116, 107]))])])
 (.keep [1, 2]))
 (.seq (.seq (.ops none [oD 7 (.mov (.t 2)),
 oD 8 (.callv (.t 7) [(.k (.str [49, 50, 51, 112, 99, 110, 101, 115, 105])), (.k (.str [46, 101, 115, 110]))])])
 (.keep [1, 2]))
 (.seq (.seq (.ops none [oD 9 (.mov (.t 2)),
 oD 10 (.callv (.t 9) [(.k (.str [105])), (.k (.str [108]))])])
 (.keep [1, 2]))
 (.seq (.seq (.ops none [oD 11 (.mov (.t 2)),
 oD 12 (.callv (.t 11) [(.k (.str [108])), (.k (.str [105]))])])
 (.keep [1, 2]))
 (.seq (.seq (.ops none [oD 13 (.mov (.t 2)),
 oD 14 (.callv (.t 13) [(.k (.str [116])), (.k (.str [114]))])])
 (.keep [1, 2]))
 (.seq (.seq (.ops none [oD 15 (.mov (.t 2)),
 oD 16 (.callv (.t 15) [(.k (.str [114])), (.k (.str [99]))])])
 (.keep [1]))
 (.seq (.seq (.ops none [oD 17 (.load1 (.t 1)),
 oD 0 (.mov (.t 17))])
 (.keep [0]))
 .ret))))))))))
  results := [.tmp 0]
theorem ok130 : FnOK Tryz.prog pureL 130 a130 := ⟨Tryz.f130, [(0, []), (1, [1]), (2, [1, 2]), (3, [1, 2]), (4, [1, 2]), (5, [1, 2]), (6, [1, 2]), (7, [1, 2]), (8, [1]), (9, [0])], [], Tryz.func130, by kernel_rfl⟩
/-- (*stylus/tree.builder).add -/
def a131 : AFunc where
  body :=
  (.seq (.seq (.ops none [oD 3 (.box (.t 1)),
 oD 4 (.mov (.k (.int .i64 0)))])
 (.keep [0, 3]))
 (.seq (.seq (.ops none [oD 5 (.mov (.t 0)),
 oD 6 (.nilCheck (.t 5)),
 oD 7 (.fieldAddr 0 (.t 6)),
 oD 8 (.load1 (.t 7)),
 oD 9 (.call 133 [(.t 8)]),
 oD 10 (.nilCheck (.t 9)),
 oD 11 (.fieldAddr 2 (.t 10)),
 oD 12 (.load1 (.t 11)),
 oD 13 (.bin .add (.t 12) (.k (.int .i64 1))),
 oD 14 (.nilCheck (.t 9)),
 oD 15 (.fieldAddr 2 (.t 14)),
 oN (.store 1 (.t 15) (.t 13))])
 (.keep [0, 3]))
 (.seq (.ops (some [0]) [oD 16 (.mov (.t 0)),
 oD 17 (.mov (.t 0)),
 oD 18 (.nilCheck (.t 17)),
 oD 19 (.fieldAddr 1 (.t 18)),
 oD 20 (.load1 (.t 19)),
 oD 21 (.loadN 4 (.t 3)),
 oD 22 (.buildSlice [(.int .u8 0), (.str []), (.int .i64 0), (.int .i64 0)] 4 1 [(0, 4, (.t 21))]),
 oD 23 (.append 4 (.t 20) (.t 22)),
 oD 24 (.nilCheck (.t 16)),
 oD 25 (.fieldAddr 1 (.t 24)),
 oN (.store 1 (.t 25) (.t 23))])
 (.seq (.seq (.seq (.ops none [oD 26 (.mov (.t 0)),
 oD 27 (.nilCheck (.t 26)),
 oD 28 (.fieldAddr 1 (.t 27)),
 oD 29 (.load1 (.t 28)),
 oD 30 (.len .slice (.t 29)),
 oD 31 (.bin .gtr (.t 30) (.k (.int .i64 2000)))])
 (.keep [31]))
 (.cond (.t 31) (.seq (.seq (.ops none [oD 4 (.mov (.k (.int .i64 4)))])
 (.keep [4]))
 .ret)
 .skip))
 (.seq (.seq (.ops none [oD 4 (.mov (.k (.int .i64 0)))])
 (.keep [4]))
 .ret)))))
  results := [.tmp 4]
theorem ok131 : FnOK Tryz.prog pureL 131 a131 := ⟨Tryz.f131, [(0, [0, 3]), (1, [0, 3]), (2, [0]), (3, [31]), (4, [4]), (5, [4])], [], Tryz.func131, by kernel_rfl⟩
/-- (stylus/tree.row).around -/
def a132 : AFunc where
  body :=
  (.seq (.seq (.ops none [oD 4 (.mov (.k .nilptr))])
 (.keep [0, 1]))
 (.seq (.seq (.seq (.ops none [oD 6 (.mov (.t 0)),
 oD 7 (.len .slice (.t 6)),
 oD 8 (.bin .sub (.t 7) (.k (.int .i64 1))),
 oD 5 (.mov (.t 8))])
 (.keep [0, 1, 5]))
 (.block 0 (.loop (.seq (.keep [0, 1, 5])
 (.seq (.seq (.seq (.ops none [oD 9 (.mov (.t 5)),
 oD 10 (.bin .geq (.t 9) (.k (.int .i64 0)))])
 (.keep [0, 1, 5, 10]))
 (.cond (.t 10) .skip
 (.exit 0)))
 (.seq (.block 1 (.seq (.seq (.ops none [oD 13 (.mov (.t 1)),
 oD 14 (.mov (.t 0)),
 oD 15 (.mov (.t 5)),
 oD 16 (.idxSl 7 (.t 14) (.t 15)),
 oD 17 (.fieldAddr 0 (.t 16)),
 oD 18 (.load1 (.t 17)),
 oD 19 (.call 155 [(.t 13), (.t 18)]),
 oD 20 (.bin .geq (.t 19) (.k (.int .i64 0)))])
 (.keep [0, 1, 5, 20]))
 (.cond (.t 20) (.seq (.seq (.ops none [oD 21 (.mov (.t 0)),
 oD 22 (.mov (.t 5)),
 oD 23 (.idxSl 7 (.t 21) (.t 22)),
 oD 4 (.mov (.t 23))])
 (.keep [4]))
 .ret)
 .skip)))
 (.seq (.ops none [oD 11 (.mov (.t 5)),
 oD 12 (.bin .sub (.t 11) (.k (.int .i64 1))),
 oD 5 (.mov (.t 12))])
 (.keep [0, 1, 5]))))))))
 (.seq (.seq (.ops none [oD 4 (.mov (.k .nilptr))])
 (.keep [4]))
 .ret)))
  results := [.tmp 4]
theorem ok132 : FnOK Tryz.prog pureL 132 a132 := ⟨Tryz.f132, [(0, [0, 1]), (1, [0, 1, 5]), (2, [0, 1, 5, 10]), (4, [0, 1, 5, 20]), (5, [4]), (3, [0, 1, 5]), (6, [4])], [(0, [0, 1, 5])], Tryz.func132, by kernel_rfl⟩
/-- (stylus/tree.row).top -/
def a133 : AFunc where
  body :=
  (.seq (.seq (.ops none [oD 2 (.mov (.k .nilptr))])
 (.keep [0]))
 (.seq (.seq (.seq (.ops none [oD 3 (.mov (.t 0)),
 oD 4 (.len .slice (.t 3)),
 oD 5 (.eq false (.leaf .int) (.t 4) (.k (.int .i64 0)))])
 (.keep [0, 5]))
 (.cond (.t 5) (.seq (.seq (.ops none [oD 6 (.build [(.int .u8 0), (.int .i64 0), (.int .i64 0), (.int .i64 0), (.bool false), (.int .i64 0), (.int .i64 0)] []),
 oD 7 (.box (.t 6)),
 oD 2 (.mov (.t 7))])
 (.keep [2]))
 .ret)
 .skip))
 (.seq (.seq (.ops none [oD 8 (.mov (.t 0)),
 oD 9 (.mov (.t 0)),
 oD 10 (.len .slice (.t 9)),
 oD 11 (.bin .sub (.t 10) (.k (.int .i64 1))),
 oD 12 (.idxSl 7 (.t 8) (.t 11)),
 oD 2 (.mov (.t 12))])
 (.keep [2]))
 .ret)))
  results := [.tmp 2]
theorem ok133 : FnOK Tryz.prog pureL 133 a133 := ⟨Tryz.f133, [(0, [0]), (1, [0, 5]), (2, [2]), (3, [2])], [], Tryz.func133, by kernel_rfl⟩
/-- (stylus/tree.row).has -/
def a134 : AFunc where
  body :=
  (.seq (.seq (.ops none [oD 4 (.mov (.k (.int .i64 0)))])
 (.keep [0, 1]))
 (.seq (.seq (.ops none [oD 5 (.mov (.k (.int .i64 0)))])
 (.keep [0, 1, 5]))
 (.seq (.seq (.seq (.ops none [oD 8 (.mov (.t 0)),
 oD 9 (.len .slice (.t 8)),
 oD 10 (.mov (.k (.int .i64 0)))])
 (.keep [1, 5, 8, 9, 10]))
 (.block 0 (.loop (.seq (.keep [1, 5, 8, 9, 10])
 (.seq (.seq (.ops none [oD 11 (.bin .lss (.t 10) (.t 9))])
 (.keep [1, 5, 8, 9, 10, 11]))
 (.seq (.cond (.t 11) .skip
 (.exit 0))
 (.seq (.block 1 (.seq (.seq (.ops none [oD 12 (.idxSl 7 (.t 8) (.t 10)),
 oD 13 (.loadN 7 (.t 12)),
 oD 7 (.alloc [(.int .u8 0), (.int .i64 0), (.int .i64 0), (.int .i64 0), (.bool false), (.int .i64 0), (.int .i64 0)]),
 oN (.store 7 (.t 7) (.t 13))])
 (.keep [1, 5, 7, 8, 9, 10]))
 (.seq (.seq (.ops none [oD 14 (.fieldAddr 0 (.t 7)),
 oD 15 (.load1 (.t 14)),
 oD 16 (.mov (.t 1)),
 oD 17 (.eq false (.leaf .int) (.t 15) (.t 16))])
 (.keep [1, 5, 8, 9, 10, 17]))
 (.cond (.t 17) (.seq (.ops none [oD 18 (.mov (.t 5)),
 oD 19 (.bin .add (.t 18) (.k (.int .i64 1))),
 oD 5 (.mov (.t 19))])
 (.keep [1, 5, 8, 9, 10]))
 .skip))))
 (.seq (.ops none [oD 20 (.bin .add (.t 10) (.k (.int .i64 1))),
 oD 10 (.mov (.t 20))])
 (.keep [1, 5, 8, 9, 10])))))))))
 (.seq (.seq (.ops none [oD 21 (.mov (.t 5)),
 oD 4 (.mov (.t 21))])
 (.keep [4]))
 .ret))))
  results := [.tmp 4]
theorem ok134 : FnOK Tryz.prog pureL 134 a134 := ⟨Tryz.f134, [(0, [0, 1]), (1, [0, 1, 5]), (2, [1, 5, 8, 9, 10]), (3, [1, 5, 8, 9, 10, 11]), (4, [1, 5, 7, 8, 9, 10]), (5, [1, 5, 8, 9, 10, 17]), (6, [1, 5, 8, 9, 10]), (7, [1, 5, 8, 9, 10]), (8, [4])], [(0, [1, 5, 8, 9, 10])], Tryz.func134, by kernel_rfl⟩
/-- (*stylus/tree.builder).whole -/
def a135 : AFunc where
  body :=
  (.seq (.seq (.ops none [oD 3 (.box (.t 1)),
 oD 4 (.mov (.k (.bool false)))])
 (.keep [0, 3]))
 (.seq (.seq (.seq (.ops none [oD 6 (.fieldAddr 0 (.t 3)),
 oD 7 (.load1 (.t 6))])
 (.keep [0, 3, 7]))
 (.block 0 (.seq (.seq (.seq (.ops none [oD 9 (.eq false (.leaf .int) (.t 7) (.k (.int .u8 108))),
 oD 8 (.mov (.t 9))])
 (.keep [0, 3, 7, 8]))
 (.cond (.t 8) .skip
 (.seq (.ops none [oD 10 (.eq false (.leaf .int) (.t 7) (.k (.int .u8 116))),
 oD 8 (.mov (.t 10))])
 (.keep [0, 3, 7, 8]))))
 (.cond (.t 8) (.seq (.seq (.ops none [oD 11 (.fieldAddr 2 (.t 3)),
 oD 12 (.load1 (.t 11)),
 oD 13 (.bin .gtr (.t 12) (.k (.int .i64 0))),
 oD 4 (.mov (.t 13))])
 (.keep [4]))
 .ret)
 (.seq (.seq (.ops none [oD 15 (.eq false (.leaf .int) (.t 7) (.k (.int .u8 114))),
 oD 14 (.mov (.t 15))])
 (.keep [0, 3, 14]))
 (.cond (.t 14) (.seq (.seq (.ops none [oD 16 (.mov (.t 0)),
 oD 17 (.nilCheck (.t 16)),
 oD 18 (.fieldAddr 0 (.t 17)),
 oD 19 (.load1 (.t 18)),
 oD 20 (.call 132 [(.t 19), (.k (.str [116]))]),
 oD 5 (.mov (.t 20))])
 (.keep [3, 5]))
 (.seq (.seq (.seq (.ops none [oD 21 (.mov (.t 5)),
 oD 22 (.nilCheck (.t 21)),
 oD 23 (.fieldAddr 5 (.t 22)),
 oD 24 (.load1 (.t 23)),
 oD 25 (.eq false (.leaf .int) (.t 24) (.k (.int .i64 0)))])
 (.keep [3, 5, 25]))
 (.cond (.t 25) (.seq (.ops none [oD 26 (.mov (.t 5)),
 oD 27 (.fieldAddr 2 (.t 3)),
 oD 28 (.load1 (.t 27)),
 oD 29 (.nilCheck (.t 26)),
 oD 30 (.fieldAddr 5 (.t 29)),
 oN (.store 1 (.t 30) (.t 28))])
 (.keep [3, 5]))
 .skip))
 (.seq (.ops (some [4]) [oD 31 (.fieldAddr 2 (.t 3)),
 oD 32 (.load1 (.t 31)),
 oD 33 (.bin .gtr (.t 32) (.k (.int .i64 0))),
 oD 34 (.mov (.t 33)),
 oG 35 34 true (.fieldAddr 2 (.t 3)),
 oG 36 34 true (.load1 (.t 35)),
 oG 37 34 true (.mov (.t 5)),
 oG 38 34 true (.nilCheck (.t 37)),
 oG 39 34 true (.fieldAddr 5 (.t 38)),
 oG 40 34 true (.load1 (.t 39)),
 oG 41 34 true (.eq false (.leaf .int) (.t 36) (.t 40)),
 oD 42 (.pick (.t 34) (.t 41) (.k (.bool false))),
 oD 4 (.mov (.t 42))])
 .ret)))
 .skip))))))
 (.seq (.seq (.ops none [oD 4 (.mov (.k (.bool true)))])
 (.keep [4]))
 .ret)))
  results := [.tmp 4]
theorem ok135 : FnOK Tryz.prog pureL 135 a135 := ⟨Tryz.f135, [(0, [0, 3]), (1, [0, 3, 7]), (2, [0, 3, 7, 8]), (3, [0, 3, 7, 8]), (5, [0, 3, 14]), (6, [3, 5]), (7, [3, 5, 25]), (8, [3, 5]), (9, [4]), (4, [4]), (10, [4])], [], Tryz.func135, by kernel_rfl⟩
/-- stylus/norm.packed -/
def a136 : AFunc where
  body :=
  (.seq (.seq (.ops none [oD 6 (.mov (.k .nilslice))])
 (.keep [0, 1, 2]))
 (.seq (.seq (.ops none [oD 7 (.mov (.k .nilslice))])
 (.keep [0, 1, 2, 7]))
 (.seq (.seq (.ops none [oD 8 (.mov (.k (.bool false)))])
 (.keep [0, 1, 2, 7, 8]))
 (.seq (.block 0 (.loop (.seq (.keep [0, 1, 2, 7, 8])
 (.seq (.seq (.seq (.ops none [oD 11 (.mov (.t 1)),
 oD 12 (.mov (.t 2)),
 oD 13 (.bin .lss (.t 11) (.t 12))])
 (.keep [0, 1, 2, 7, 8, 13]))
 (.cond (.t 13) .skip
 (.exit 0)))
 (.block 1 (.seq (.seq (.ops none [oD 14 (.mov (.t 0)),
 oD 15 (.mov (.t 1)),
 oD 16 (.idxSl 4 (.t 14) (.t 15)),
 oD 17 (.loadN 4 (.t 16)),
 oD 9 (.alloc [(.int .u8 0), (.str []), (.int .i64 0), (.int .i64 0)]),
 oN (.store 4 (.t 9) (.t 17))])
 (.keep [0, 1, 2, 7, 8, 9]))
 (.seq (.seq (.ops none [oD 18 (.mov (.t 0)),
 oD 19 (.mov (.t 1)),
 oD 20 (.bin .add (.t 19) (.k (.int .i64 1))),
 oD 21 (.mov (.t 1)),
 oD 22 (.fieldAddr 3 (.t 9)),
 oD 23 (.load1 (.t 22)),
 oD 24 (.bin .add (.t 21) (.t 23)),
 oD 25 (.call 136 [(.t 18), (.t 20), (.t 24)]),
 oD 10 (.mov (.t 25))])
 (.keep [0, 1, 2, 7, 8, 9, 10]))
 (.seq (.seq (.ops none [oD 26 (.mov (.t 1)),
 oD 27 (.fieldAddr 3 (.t 9)),
 oD 28 (.load1 (.t 27)),
 oD 29 (.bin .add (.t 26) (.t 28)),
 oD 1 (.mov (.t 29))])
 (.keep [0, 1, 2, 7, 8, 9, 10]))
 (.block 2 (.seq (.seq (.ops none [oD 31 (.fieldAddr 0 (.t 9)),
 oD 32 (.load1 (.t 31)),
 oD 33 (.eq true (.leaf .int) (.t 32) (.k (.int .u8 46))),
 oD 30 (.mov (.t 33))])
 (.keep [0, 1, 2, 7, 8, 9, 10, 30]))
 (.cond (.t 30) (.seq (.seq (.ops none [oD 34 (.mov (.t 10)),
 oD 35 (.len .slice (.t 34)),
 oD 36 (.bin .add (.t 35) (.k (.int .i64 1))),
 oD 37 (.fieldAddr 3 (.t 9)),
 oN (.store 1 (.t 37) (.t 36))])
 (.keep [0, 1, 2, 7, 9, 10]))
 (.seq (.seq (.ops none [oD 38 (.mov (.t 7)),
 oD 39 (.loadN 4 (.t 9)),
 oD 40 (.buildSlice [(.int .u8 0), (.str []), (.int .i64 0), (.int .i64 0)] 4 1 [(0, 4, (.t 39))]),
 oD 41 (.append 4 (.t 38) (.t 40)),
 oD 42 (.mov (.t 10)),
 oD 43 (.append 4 (.t 41) (.t 42)),
 oD 7 (.mov (.t 43))])
 (.keep [0, 1, 2, 7]))
 (.seq (.ops none [oD 8 (.mov (.k (.bool false)))])
 (.keep [0, 1, 2, 7, 8]))))
 (.seq (.seq (.ops none [oD 45 (.fieldAddr 1 (.t 9)),
 oD 46 (.load1 (.t 45)),
 oD 47 (.eq true (.leaf .str) (.t 46) (.k (.str []))),
 oD 48 (.mov (.t 47)),
 oG 49 48 true (.mov (.t 8)),
 oD 50 (.pick (.t 48) (.t 49) (.k (.bool false))),
 oD 44 (.mov (.t 50))])
 (.keep [0, 1, 2, 7, 8, 9, 44]))
 (.cond (.t 44) (.ops (some [0, 1, 2, 7, 8]) [oD 51 (.mov (.t 7)),
 oD 52 (.mov (.t 7)),
 oD 53 (.len .slice (.t 52)),
 oD 54 (.bin .sub (.t 53) (.k (.int .i64 1))),
 oD 55 (.idxSl 4 (.t 51) (.t 54)),
 oD 56 (.fieldAddr 1 (.t 55)),
 oD 57 (.load1 (.t 56)),
 oD 58 (.fieldAddr 1 (.t 9)),
 oD 59 (.load1 (.t 58)),
 oD 60 (.bin .add (.t 57) (.t 59)),
 oD 61 (.idxSl 4 (.t 51) (.t 54)),
 oD 62 (.fieldAddr 1 (.t 61)),
 oN (.store 1 (.t 62) (.t 60))])
 (.seq (.seq (.ops none [oD 64 (.fieldAddr 1 (.t 9)),
 oD 65 (.load1 (.t 64)),
 oD 66 (.eq true (.leaf .str) (.t 65) (.k (.str []))),
 oD 63 (.mov (.t 66))])
 (.keep [0, 1, 2, 7, 8, 9, 63]))
 (.cond (.t 63) (.seq (.seq (.ops none [oD 67 (.mov (.t 7)),
 oD 68 (.loadN 4 (.t 9)),
 oD 69 (.buildSlice [(.int .u8 0), (.str []), (.int .i64 0), (.int .i64 0)] 4 1 [(0, 4, (.t 68))]),
 oD 70 (.append 4 (.t 67) (.t 69)),
 oD 7 (.mov (.t 70))])
 (.keep [0, 1, 2, 7]))
 (.seq (.ops none [oD 8 (.mov (.k (.bool true)))])
 (.keep [0, 1, 2, 7, 8])))
 .skip)))))))))))))))
 (.seq (.seq (.ops none [oD 71 (.mov (.t 7)),
 oD 6 (.mov (.t 71))])
 (.keep [6]))
 .ret)))))
  results := [.tmp 6]
theorem ok136 : FnOK Tryz.prog pureL 136 a136 := ⟨Tryz.f136, [(0, [0, 1, 2]), (1, [0, 1, 2, 7]), (2, [0, 1, 2, 7, 8]), (3, [0, 1, 2, 7, 8, 13]), (4, [0, 1, 2, 7, 8, 9]), (5, [0, 1, 2, 7, 8, 9, 10]), (6, [0, 1, 2, 7, 8, 9, 10]), (7, [0, 1, 2, 7, 8, 9, 10, 30]), (11, [0, 1, 2, 7, 8, 9, 44]), (13, [0, 1, 2, 7, 8, 9, 63]), (14, [0, 1, 2, 7]), (15, [0, 1, 2, 7, 8]), (12, [0, 1, 2, 7, 8]), (8, [0, 1, 2, 7, 9, 10]), (9, [0, 1, 2, 7]), (10, [0, 1, 2, 7, 8]), (16, [6])], [(0, [0, 1, 2, 7, 8])], Tryz.func136, by kernel_rfl⟩
/-- stylus/norm.squeezed -/
def a137 : AFunc where
  body :=
  (.seq (.seq (.ops none [oD 1 (.box (.t 0)),
 oD 2 (.mov (.k .nilslice))])
 (.keep [1]))
 (.seq (.seq (.ops none [oD 14 (.buildSlice [] 4 0 []),
 oD 15 (.load1 (.t 1)),
 oD 16 (.append 4 (.t 14) (.t 15)),
 oD 3 (.alloc [.nilslice]),
 oN (.store 1 (.t 3) (.t 16))])
 (.keep [1, 3]))
 (.seq (.seq (.ops none [oD 17 (.makeMap),
 oD 4 (.mov (.t 17))])
 (.keep [1, 3, 4]))
 (.seq (.seq (.ops none [oD 18 (.load1 (.t 1)),
 oD 19 (.call 168 [(.t 18)]),
 oD 5 (.mov (.t 19))])
 (.keep [1, 3, 4, 5]))
 (.seq (.seq (.seq (.ops none [oD 20 (.load1 (.t 1)),
 oD 21 (.len .slice (.t 20)),
 oD 22 (.mov (.k (.int .i64 0)))])
 (.keep [1, 3, 4, 5, 21, 22]))
 (.block 0 (.loop (.seq (.keep [1, 3, 4, 5, 21, 22])
 (.seq (.seq (.ops none [oD 23 (.bin .lss (.t 22) (.t 21))])
 (.keep [1, 3, 4, 5, 21, 22, 23]))
 (.seq (.cond (.t 23) .skip
 (.exit 0))
 (.seq (.block 1 (.seq (.seq (.ops none [oD 24 (.mov (.t 22)),
 oD 6 (.alloc [(.int .i64 0)]),
 oN (.store 1 (.t 6) (.t 24))])
 (.keep [1, 3, 4, 5, 6, 21, 22]))
 (.seq (.seq (.seq (.ops none [oD 25 (.load1 (.t 1)),
 oD 26 (.load1 (.t 6)),
 oD 27 (.idxSl 4 (.t 25) (.t 26)),
 oD 28 (.fieldAddr 0 (.t 27)),
 oD 29 (.load1 (.t 28)),
 oD 30 (.eq true (.leaf .int) (.t 29) (.k (.int .u8 46)))])
 (.keep [1, 3, 4, 5, 6, 21, 22, 30]))
 (.cond (.t 30) (.exit 1)
 .skip))
 (.seq (.seq (.ops none [oD 31 (.mov (.t 4)),
 oD 32 (.mov (.t 5)),
 oD 33 (.load1 (.t 6)),
 oD 34 (.idxSl 1 (.t 32) (.t 33)),
 oD 35 (.load1 (.t 34)),
 oD 36 (.lookup (.leaf .int) .nilptr false (.t 31) (.t 35)),
 oD 7 (.alloc [.nilptr]),
 oN (.store 1 (.t 7) (.t 36))])
 (.keep [1, 3, 4, 5, 6, 7, 21, 22]))
 (.seq (.seq (.seq (.ops none [oD 37 (.load1 (.t 7)),
 oD 38 (.eq false .ptr (.t 37) (.k .nilptr))])
 (.keep [1, 3, 4, 5, 6, 7, 21, 22, 38]))
 (.cond (.t 38) (.seq (.seq (.ops none [oD 39 (.build [(.int .u8 0), (.int .i64 0)] []),
 oD 40 (.box (.t 39)),
 oN (.store 1 (.t 7) (.t 40))])
 (.keep [1, 3, 4, 5, 6, 7, 21, 22]))
 (.ops (some [1, 3, 4, 5, 6, 7, 21, 22]) [oD 41 (.mov (.t 4)),
 oD 42 (.mov (.t 5)),
 oD 43 (.load1 (.t 6)),
 oD 44 (.idxSl 1 (.t 42) (.t 43)),
 oD 45 (.load1 (.t 44)),
 oD 46 (.load1 (.t 7)),
 oN (.mapUpdate (.leaf .int) (.t 41) (.t 45) (.t 46))]))
 .skip))
 (.seq (.seq (.ops none [oD 8 (.alloc [.nilslice])])
 (.keep [1, 3, 4, 5, 6, 7, 8, 21, 22]))
 (.seq (.seq (.ops none [oD 47 (.makeFunc 169 [] [(.t 8), (.t 1), (.t 6), (.t 3), (.t 7)]),
 oD 9 (.mov (.t 47))])
 (.keep [1, 3, 4, 5, 6, 7, 8, 9, 21, 22]))
 (.seq (.seq (.seq (.ops none [oD 48 (.load1 (.t 1)),
 oD 49 (.load1 (.t 6)),
 oD 50 (.idxSl 4 (.t 48) (.t 49)),
 oD 51 (.fieldAddr 1 (.t 50)),
 oD 52 (.load1 (.t 51)),
 oD 53 (.strBytes (.t 52)),
 oD 54 (.len .slice (.t 53)),
 oD 55 (.mov (.k (.int .i64 0)))])
 (.keep [1, 3, 4, 5, 6, 7, 8, 9, 21, 22, 53, 54, 55]))
 (.block 2 (.loop (.seq (.keep [1, 3, 4, 5, 6, 7, 8, 9, 21, 22, 53, 54, 55])
 (.seq (.seq (.ops none [oD 56 (.bin .lss (.t 55) (.t 54))])
 (.keep [1, 3, 4, 5, 6, 7, 8, 9, 21, 22, 53, 54, 55, 56]))
 (.seq (.cond (.t 56) .skip
 (.exit 2))
 (.seq (.block 3 (.seq (.seq (.ops none [oD 57 (.mov (.t 55)),
 oD 58 (.idxSl 1 (.t 53) (.t 55)),
 oD 59 (.load1 (.t 58)),
 oD 10 (.mov (.t 57)),
 oD 11 (.mov (.t 59))])
 (.keep [1, 3, 4, 5, 6, 7, 8, 9, 10, 11, 21, 22, 53, 54, 55]))
 (.block 4 (.seq (.seq (.ops none [oD 61 (.mov (.t 11)),
 oD 62 (.call 128 [(.t 61)]),
 oD 63 (.un .not (.t 62)),
 oD 60 (.mov (.t 63))])
 (.keep [1, 3, 4, 5, 6, 7, 8, 9, 10, 11, 21, 22, 53, 54, 55, 60]))
 (.cond (.t 60) (.seq (.ops none [oD 64 (.mov (.t 9)),
 oD 65 (.mov (.t 10)),
 oD 66 (.mov (.t 11)),
 oD 67 (.callv (.t 64) [(.t 65), (.t 66)])])
 (.keep [1, 3, 4, 5, 6, 7, 8, 9, 21, 22, 53, 54, 55]))
 (.seq (.seq (.ops none [oD 69 (.load1 (.t 7)),
 oD 70 (.nilCheck (.t 69)),
 oD 71 (.fieldAddr 0 (.t 70)),
 oD 72 (.loadN 2 (.t 71)),
 oD 73 (.call 170 [(.t 72)]),
 oD 74 (.un .not (.t 73)),
 oD 68 (.mov (.t 74))])
 (.keep [1, 3, 4, 5, 6, 7, 8, 9, 10, 21, 22, 53, 54, 55, 68]))
 (.cond (.t 68) (.seq (.ops none [oD 75 (.mov (.t 9)),
 oD 76 (.mov (.t 10)),
 oD 77 (.callv (.t 75) [(.t 76), (.k (.int .u8 32))])])
 (.keep [1, 3, 4, 5, 6, 7, 8, 9, 21, 22, 53, 54, 55]))
 .skip)))))))
 (.seq (.ops none [oD 78 (.bin .add (.t 55) (.k (.int .i64 1))),
 oD 55 (.mov (.t 78))])
 (.keep [1, 3, 4, 5, 6, 7, 8, 9, 21, 22, 53, 54, 55])))))))))
 (.seq (.ops none [oD 79 (.load1 (.t 3)),
 oD 80 (.load1 (.t 6)),
 oD 81 (.load1 (.t 8)),
 oD 82 (.bytesStr (.t 81)),
 oD 83 (.idxSl 4 (.t 79) (.t 80)),
 oD 84 (.fieldAddr 1 (.t 83)),
 oN (.store 1 (.t 84) (.t 82))])
 (.keep [1, 3, 4, 5, 21, 22]))))))))))
 (.seq (.ops none [oD 85 (.bin .add (.t 22) (.k (.int .i64 1))),
 oD 22 (.mov (.t 85))])
 (.keep [1, 3, 4, 5, 21, 22])))))))))
 (.seq (.seq (.seq (.ops none [oD 86 (.mov (.t 4)),
 oD 87 (.rangeM (.t 86))])
 (.keep [3, 87]))
 (.block 5 (.loop (.seq (.keep [3, 87])
 (.seq (.seq (.ops none [oD 88 (.callv (.k (.func .next [] [])) [(.t 87)]),
 oD 89 (.extract 0 (.t 88))])
 (.keep [3, 87, 89]))
 (.seq (.cond (.t 89) .skip
 (.exit 5))
 (.block 6 (.seq (.seq (.ops none [oD 90 (.entry (.t 87)),
 oD 91 (.extract 1 (.t 90)),
 oD 13 (.mov (.t 91))])
 (.keep [3, 13, 87]))
 (.seq (.seq (.ops none [oD 92 (.mov (.t 13)),
 oD 93 (.nilCheck (.t 92)),
 oD 94 (.fieldAddr 0 (.t 93)),
 oD 95 (.fieldAddr 0 (.t 94)),
 oD 96 (.load1 (.t 95)),
 oD 97 (.eq false (.leaf .int) (.t 96) (.k (.int .u8 32)))])
 (.keep [3, 13, 87, 97]))
 (.cond (.t 97) (.ops (some [3, 87]) [oD 98 (.load1 (.t 3)),
 oD 99 (.mov (.t 13)),
 oD 100 (.nilCheck (.t 99)),
 oD 101 (.fieldAddr 0 (.t 100)),
 oD 102 (.fieldAddr 1 (.t 101)),
 oD 103 (.load1 (.t 102)),
 oD 104 (.load1 (.t 3)),
 oD 105 (.mov (.t 13)),
 oD 106 (.nilCheck (.t 105)),
 oD 107 (.fieldAddr 0 (.t 106)),
 oD 108 (.fieldAddr 1 (.t 107)),
 oD 109 (.load1 (.t 108)),
 oD 110 (.idxSl 4 (.t 104) (.t 109)),
 oD 111 (.fieldAddr 1 (.t 110)),
 oD 112 (.load1 (.t 111)),
 ⟨(some 113), none, .call 141 [(.t 112), (.k (.str [32]))], [⟨98, none, .load1 (.t 3)⟩, ⟨103, none, .load1 (.t 102)⟩]⟩,
 oD 114 (.idxSl 4 (.t 98) (.t 103)),
 oD 115 (.fieldAddr 1 (.t 114)),
 oN (.store 1 (.t 115) (.t 113))])
 .skip))))))))))
 (.seq (.seq (.ops none [oD 116 (.load1 (.t 3)),
 oD 2 (.mov (.t 116))])
 (.keep [2]))
 .ret)))))))
  results := [.tmp 2]
theorem ok137 : FnOK Tryz.prog pureL 137 a137 := ⟨Tryz.f137, [(0, [1]), (1, [1, 3]), (2, [1, 3, 4]), (3, [1, 3, 4, 5]), (4, [1, 3, 4, 5, 21, 22]), (5, [1, 3, 4, 5, 21, 22, 23]), (6, [1, 3, 4, 5, 6, 21, 22]), (7, [1, 3, 4, 5, 6, 21, 22, 30]), (8, [1, 3, 4, 5, 6, 7, 21, 22]), (9, [1, 3, 4, 5, 6, 7, 21, 22, 38]), (10, [1, 3, 4, 5, 6, 7, 21, 22]), (11, [1, 3, 4, 5, 6, 7, 21, 22]), (12, [1, 3, 4, 5, 6, 7, 8, 21, 22]), (13, [1, 3, 4, 5, 6, 7, 8, 9, 21, 22]), (14, [1, 3, 4, 5, 6, 7, 8, 9, 21, 22, 53, 54, 55]), (15, [1, 3, 4, 5, 6, 7, 8, 9, 21, 22, 53, 54, 55, 56]), (16, [1, 3, 4, 5, 6, 7, 8, 9, 10, 11, 21, 22, 53, 54, 55]), (17, [1, 3, 4, 5, 6, 7, 8, 9, 10, 11, 21, 22, 53, 54, 55, 60]), (19, [1, 3, 4, 5, 6, 7, 8, 9, 10, 21, 22, 53, 54, 55, 68]), (20, [1, 3, 4, 5, 6, 7, 8, 9, 21, 22, 53, 54, 55]), (18, [1, 3, 4, 5, 6, 7, 8, 9, 21, 22, 53, 54, 55]), (21, [1, 3, 4, 5, 6, 7, 8, 9, 21, 22, 53, 54, 55]), (22, [1, 3, 4, 5, 21, 22]), (23, [1, 3, 4, 5, 21, 22]), (24, [3, 87]), (25, [3, 87, 89]), (26, [3, 13, 87]), (27, [3, 13, 87, 97]), (28, [3, 87]), (29, [2])], [(0, [1, 3, 4, 5, 21, 22]), (2, [1, 3, 4, 5, 6, 7, 8, 9, 21, 22, 53, 54, 55]), (5, [3, 87])], Tryz.func137, by kernel_rfl⟩
/-- slices.EqualFunc[[]stylus/api.Node,[]stylus/api.Node,stylus/api.Node,stylus/api.Node] -/
def a138 : AFunc where
  body :=
  (.seq (.seq (.ops none [oD 6 (.mov (.k (.bool false)))])
 (.keep [0, 1, 2]))
 (.seq (.seq (.seq (.ops none [oD 10 (.mov (.t 0)),
 oD 11 (.len .slice (.t 10)),
 oD 12 (.mov (.t 1)),
 oD 13 (.len .slice (.t 12)),
 oD 14 (.eq true (.leaf .int) (.t 11) (.t 13))])
 (.keep [0, 1, 2, 14]))
 (.cond (.t 14) (.seq (.seq (.ops none [oD 6 (.mov (.k (.bool false)))])
 (.keep [6]))
 .ret)
 .skip))
 (.seq (.seq (.seq (.ops none [oD 15 (.mov (.t 0)),
 oD 16 (.len .slice (.t 15)),
 oD 17 (.mov (.k (.int .i64 0)))])
 (.keep [1, 2, 15, 16, 17]))
 (.block 0 (.loop (.seq (.keep [1, 2, 15, 16, 17])
 (.seq (.seq (.ops none [oD 18 (.bin .lss (.t 17) (.t 16))])
 (.keep [1, 2, 15, 16, 17, 18]))
 (.seq (.cond (.t 18) .skip
 (.exit 0))
 (.seq (.block 1 (.seq (.seq (.ops none [oD 19 (.mov (.t 17)),
 oD 20 (.idxSl 4 (.t 15) (.t 17)),
 oD 21 (.loadN 4 (.t 20)),
 oD 8 (.alloc [(.int .u8 0), (.str []), (.int .i64 0), (.int .i64 0)]),
 oD 7 (.mov (.t 19)),
 oN (.store 4 (.t 8) (.t 21))])
 (.keep [1, 2, 7, 8, 15, 16, 17]))
 (.seq (.seq (.ops none [oD 22 (.mov (.t 1)),
 oD 23 (.mov (.t 7)),
 oD 24 (.idxSl 4 (.t 22) (.t 23)),
 oD 25 (.loadN 4 (.t 24)),
 oD 9 (.alloc [(.int .u8 0), (.str []), (.int .i64 0), (.int .i64 0)]),
 oN (.store 4 (.t 9) (.t 25))])
 (.keep [1, 2, 8, 9, 15, 16, 17]))
 (.seq (.seq (.ops none [oD 26 (.mov (.t 2)),
 oD 27 (.loadN 4 (.t 8)),
 oD 28 (.loadN 4 (.t 9)),
 oD 29 (.callv (.t 26) [(.t 27), (.t 28)]),
 oD 30 (.un .not (.t 29))])
 (.keep [1, 2, 15, 16, 17, 30]))
 (.cond (.t 30) (.seq (.seq (.ops none [oD 6 (.mov (.k (.bool false)))])
 (.keep [6]))
 .ret)
 .skip)))))
 (.seq (.ops none [oD 31 (.bin .add (.t 17) (.k (.int .i64 1))),
 oD 17 (.mov (.t 31))])
 (.keep [1, 2, 15, 16, 17])))))))))
 (.seq (.seq (.ops none [oD 6 (.mov (.k (.bool true)))])
 (.keep [6]))
 .ret))))
  results := [.tmp 6]
theorem ok138 : FnOK Tryz.prog pureL 138 a138 := ⟨Tryz.f138, [(0, [0, 1, 2]), (1, [0, 1, 2, 14]), (2, [6]), (3, [1, 2, 15, 16, 17]), (4, [1, 2, 15, 16, 17, 18]), (5, [1, 2, 7, 8, 15, 16, 17]), (6, [1, 2, 8, 9, 15, 16, 17]), (7, [1, 2, 15, 16, 17, 30]), (8, [6]), (9, [1, 2, 15, 16, 17]), (10, [6])], [(0, [1, 2, 15, 16, 17])], Tryz.func138, by kernel_rfl⟩
/-- stylus/tree.Same$1 -/
def a139 : AFunc where
  body :=
  (.seq (.seq (.ops none [oD 2 (.box (.t 0)),
 oD 3 (.box (.t 1)),
 oD 4 (.mov (.k (.bool false)))])
 (.keep [2, 3]))
 (.seq (.seq (.ops none [oD 5 (.fieldAddr 0 (.t 2)),
 oD 6 (.load1 (.t 5)),
 oD 7 (.fieldAddr 0 (.t 3)),
 oD 8 (.load1 (.t 7)),
 oD 9 (.eq false (.leaf .int) (.t 6) (.t 8)),
 oD 10 (.mov (.t 9)),
 oG 11 10 true (.fieldAddr 1 (.t 2)),
 oG 12 10 true (.load1 (.t 11)),
 oG 13 10 true (.fieldAddr 1 (.t 3)),
 oG 14 10 true (.load1 (.t 13)),
 oG 15 10 true (.eq false (.leaf .str) (.t 12) (.t 14)),
 oD 16 (.pick (.t 10) (.t 15) (.k (.bool false))),
 oD 17 (.mov (.t 16)),
 oG 18 17 true (.fieldAddr 3 (.t 2)),
 oG 19 17 true (.load1 (.t 18)),
 oG 20 17 true (.fieldAddr 3 (.t 3)),
 oG 21 17 true (.load1 (.t 20)),
 oG 22 17 true (.eq false (.leaf .int) (.t 19) (.t 21)),
 oD 23 (.pick (.t 17) (.t 22) (.k (.bool false))),
 oD 4 (.mov (.t 23))])
 (.keep [4]))
 .ret))
  results := [.tmp 4]
theorem ok139 : FnOK Tryz.prog pureL 139 a139 := ⟨Tryz.f139, [(0, [2, 3]), (1, [4])], [], Tryz.func139, by kernel_rfl⟩
/-- stylus/stylusref03.Letters -/
def a140 : AFunc where
  body :=
  (.seq (.seq (.ops none [oD 0 (.mov (.k (.str [])))])
 (.keep []))
 (.seq (.seq (.ops none [oD 0 (.mov (.k (.str [49, 50, 51, 112, 108, 105, 116, 114, 99, 110, 101, 115, 107])))])
 (.keep [0]))
 .ret))
  results := [.tmp 0]
theorem ok140 : FnOK Tryz.prog pureL 140 a140 := ⟨Tryz.f140, [(0, []), (1, [0])], [], Tryz.func140, by kernel_rfl⟩
/-- strings.TrimSuffix -/
def a141 : AFunc where
  body :=
  (.seq (.seq (.ops none [oD 4 (.mov (.k (.str [])))])
 (.keep [0, 1]))
 (.seq (.seq (.ops none [oD 5 (.mov (.t 0)),
 oD 6 (.mov (.t 1)),
 oD 7 (.call 171 [(.t 5), (.t 6)]),
 oD 4 (.mov (.t 7))])
 (.keep [4]))
 .ret))
  results := [.tmp 4]
theorem ok141 : FnOK Tryz.prog pureL 141 a141 := ⟨Tryz.f141, [(0, [0, 1]), (1, [4])], [], Tryz.func141, by kernel_rfl⟩
/-- strings.TrimPrefix -/
def a142 : AFunc where
  body :=
  (.seq (.seq (.ops none [oD 4 (.mov (.k (.str [])))])
 (.keep [0, 1]))
 (.seq (.seq (.ops none [oD 5 (.mov (.t 0)),
 oD 6 (.mov (.t 1)),
 oD 7 (.call 172 [(.t 5), (.t 6)]),
 oD 4 (.mov (.t 7))])
 (.keep [4]))
 .ret))
  results := [.tmp 4]
theorem ok142 : FnOK Tryz.prog pureL 142 a142 := ⟨Tryz.f142, [(0, [0, 1]), (1, [4])], [], Tryz.func142, by kernel_rfl⟩
/-- stylus/metric.right$1 -/
def a143 : AFunc where
  body :=
  (.seq (.seq (.ops none [oD 2 (.mov (.k (.bool false)))])
 (.keep [0]))
 (.seq (.seq (.ops none [oD 3 (.mov (.t 0)),
 oD 4 (.bin .lss (.t 3) (.k (.int .i32 97))),
 oD 5 (.mov (.t 4)),
 oG 6 5 false (.mov (.t 0)),
 oG 7 5 false (.bin .gtr (.t 6) (.k (.int .i32 122))),
 oD 8 (.pick (.t 5) (.k (.bool true)) (.t 7)),
 oD 2 (.mov (.t 8))])
 (.keep [2]))
 .ret))
  results := [.tmp 2]
theorem ok143 : FnOK Tryz.prog pureL 143 a143 := ⟨Tryz.f143, [(0, [0]), (1, [2])], [], Tryz.func143, by kernel_rfl⟩
/-- stylus/metric.right$2 -/
def a144 : AFunc where
  body :=
  (.seq (.seq (.ops none [oD 2 (.mov (.k (.bool false)))])
 (.keep [0]))
 (.seq (.seq (.ops none [oD 3 (.mov (.t 0)),
 oD 4 (.bin .lss (.t 3) (.k (.int .i32 48))),
 oD 5 (.mov (.t 4)),
 oG 6 5 false (.mov (.t 0)),
 oG 7 5 false (.bin .gtr (.t 6) (.k (.int .i32 57))),
 oD 8 (.pick (.t 5) (.k (.bool true)) (.t 7)),
 oD 2 (.mov (.t 8))])
 (.keep [2]))
 .ret))
  results := [.tmp 2]
theorem ok144 : FnOK Tryz.prog pureL 144 a144 := ⟨Tryz.f144, [(0, [0]), (1, [2])], [], Tryz.func144, by kernel_rfl⟩
/-- slices.IndexFunc[[]stylus/api.Pat,stylus/api.Pat] -/
def a145 : AFunc where
  body :=
  (.seq (.seq (.ops none [oD 4 (.mov (.k (.int .i64 0)))])
 (.keep [0, 1]))
 (.seq (.seq (.seq (.ops none [oD 6 (.mov (.t 0)),
 oD 7 (.len .slice (.t 6)),
 oD 8 (.mov (.k (.int .i64 0)))])
 (.keep [0, 1, 7, 8]))
 (.block 0 (.loop (.seq (.keep [0, 1, 7, 8])
 (.seq (.seq (.ops none [oD 9 (.bin .lss (.t 8) (.t 7))])
 (.keep [0, 1, 7, 8, 9]))
 (.seq (.cond (.t 9) .skip
 (.exit 0))
 (.seq (.block 1 (.seq (.seq (.ops none [oD 10 (.mov (.t 8)),
 oD 5 (.mov (.t 10))])
 (.keep [0, 1, 5, 7, 8]))
 (.seq (.seq (.ops none [oD 11 (.mov (.t 1)),
 oD 12 (.mov (.t 0)),
 oD 13 (.mov (.t 5)),
 oD 14 (.idxSl 2 (.t 12) (.t 13)),
 oD 15 (.loadN 2 (.t 14)),
 oD 16 (.callv (.t 11) [(.t 15)])])
 (.keep [0, 1, 5, 7, 8, 16]))
 (.cond (.t 16) (.seq (.seq (.ops none [oD 17 (.mov (.t 5)),
 oD 4 (.mov (.t 17))])
 (.keep [4]))
 .ret)
 .skip))))
 (.seq (.ops none [oD 18 (.bin .add (.t 8) (.k (.int .i64 1))),
 oD 8 (.mov (.t 18))])
 (.keep [0, 1, 7, 8])))))))))
 (.seq (.seq (.ops none [oD 4 (.mov (.k (.int .i64 (-1))))])
 (.keep [4]))
 .ret)))
  results := [.tmp 4]
theorem ok145 : FnOK Tryz.prog pureL 145 a145 := ⟨Tryz.f145, [(0, [0, 1]), (1, [0, 1, 7, 8]), (2, [0, 1, 7, 8, 9]), (3, [0, 1, 5, 7, 8]), (4, [0, 1, 5, 7, 8, 16]), (5, [4]), (6, [0, 1, 7, 8]), (7, [4])], [(0, [0, 1, 7, 8])], Tryz.func145, by kernel_rfl⟩
/-- strings.trimLeftByte -/
def a146 : AFunc where
  body :=
  (.seq (.seq (.ops none [oD 4 (.mov (.k (.str [])))])
 (.keep [0, 1]))
 (.seq (.block 0 (.loop (.seq (.keep [0, 1])
 (.seq (.seq (.seq (.ops none [oD 5 (.mov (.t 0)),
 oD 6 (.len .str (.t 5)),
 oD 7 (.bin .gtr (.t 6) (.k (.int .i64 0))),
 oD 8 (.mov (.t 7)),
 oG 9 8 true (.mov (.t 0)),
 oG 10 8 true (.indexStr (.t 9) (.k (.int .i64 0))),
 oG 11 8 true (.mov (.t 1)),
 oG 12 8 true (.eq false (.leaf .int) (.t 10) (.t 11)),
 oD 13 (.pick (.t 8) (.t 12) (.k (.bool false)))])
 (.keep [0, 1, 13]))
 (.cond (.t 13) .skip
 (.exit 0)))
 (.block 1 (.seq (.ops none [oD 14 (.mov (.t 0)),
 oD 15 (.sliceStr (.t 14) (some (.k (.int .i64 1))) none),
 oD 0 (.mov (.t 15))])
 (.keep [0, 1])))))))
 (.seq (.seq (.ops none [oD 16 (.mov (.t 0)),
 oD 4 (.mov (.t 16))])
 (.keep [4]))
 .ret)))
  results := [.tmp 4]
theorem ok146 : FnOK Tryz.prog pureL 146 a146 := ⟨Tryz.f146, [(0, [0, 1]), (1, [0, 1, 13]), (2, [0, 1]), (3, [4])], [(0, [0, 1])], Tryz.func146, by kernel_rfl⟩
/-- strings.trimRightByte -/
def a147 : AFunc where
  body :=
  (.seq (.seq (.ops none [oD 4 (.mov (.k (.str [])))])
 (.keep [0, 1]))
 (.seq (.block 0 (.loop (.seq (.keep [0, 1])
 (.seq (.seq (.seq (.ops none [oD 5 (.mov (.t 0)),
 oD 6 (.len .str (.t 5)),
 oD 7 (.bin .gtr (.t 6) (.k (.int .i64 0))),
 oD 8 (.mov (.t 7)),
 oG 9 8 true (.mov (.t 0)),
 oG 10 8 true (.mov (.t 0)),
 oG 11 8 true (.len .str (.t 10)),
 oG 12 8 true (.bin .sub (.t 11) (.k (.int .i64 1))),
 oG 13 8 true (.indexStr (.t 9) (.t 12)),
 oG 14 8 true (.mov (.t 1)),
 oG 15 8 true (.eq false (.leaf .int) (.t 13) (.t 14)),
 oD 16 (.pick (.t 8) (.t 15) (.k (.bool false)))])
 (.keep [0, 1, 16]))
 (.cond (.t 16) .skip
 (.exit 0)))
 (.block 1 (.seq (.ops none [oD 17 (.mov (.t 0)),
 oD 18 (.mov (.t 0)),
 oD 19 (.len .str (.t 18)),
 oD 20 (.bin .sub (.t 19) (.k (.int .i64 1))),
 oD 21 (.sliceStr (.t 17) none (some (.t 20))),
 oD 0 (.mov (.t 21))])
 (.keep [0, 1])))))))
 (.seq (.seq (.ops none [oD 22 (.mov (.t 0)),
 oD 4 (.mov (.t 22))])
 (.keep [4]))
 .ret)))
  results := [.tmp 4]
theorem ok147 : FnOK Tryz.prog pureL 147 a147 := ⟨Tryz.f147, [(0, [0, 1]), (1, [0, 1, 16]), (2, [0, 1]), (3, [4])], [(0, [0, 1])], Tryz.func147, by kernel_rfl⟩
/-- strings.makeASCIISet -/
def a148 : AFunc where
  body :=
  (.seq (.seq (.ops none [oD 2 (.alloc (List.replicate 256 (.bool false))),
 oD 3 (.mov (.k (.bool false)))])
 (.keep [0, 2]))
 (.seq (.seq (.seq (.ops none [oD 4 (.mov (.k (.int .i64 0)))])
 (.keep [0, 2, 4]))
 (.block 0 (.loop (.seq (.keep [0, 2, 4])
 (.seq (.seq (.seq (.ops none [oD 6 (.mov (.t 4)),
 oD 7 (.mov (.t 0)),
 oD 8 (.len .str (.t 7)),
 oD 9 (.bin .lss (.t 6) (.t 8))])
 (.keep [0, 2, 4, 9]))
 (.cond (.t 9) .skip
 (.exit 0)))
 (.seq (.block 1 (.seq (.seq (.ops none [oD 12 (.mov (.t 0)),
 oD 13 (.mov (.t 4)),
 oD 14 (.indexStr (.t 12) (.t 13)),
 oD 5 (.mov (.t 14))])
 (.keep [0, 2, 4, 5]))
 (.seq (.seq (.seq (.ops none [oD 15 (.mov (.t 5)),
 oD 16 (.bin .geq (.t 15) (.k (.int .u8 128)))])
 (.keep [0, 2, 4, 5, 16]))
 (.cond (.t 16) (.seq (.seq (.ops none [oD 17 (.loadN 256 (.t 2)),
 oN (.store 256 (.t 2) (.t 17)),
 oD 3 (.mov (.k (.bool false)))])
 (.keep [2, 3]))
 .ret)
 .skip))
 (.seq (.ops none [oD 18 (.mov (.t 5)),
 oD 19 (.idxArr 256 1 (.t 2) (.t 18)),
 oN (.store 1 (.t 19) (.k (.bool true)))])
 (.keep [0, 2, 4])))))
 (.seq (.ops none [oD 10 (.mov (.t 4)),
 oD 11 (.bin .add (.t 10) (.k (.int .i64 1))),
 oD 4 (.mov (.t 11))])
 (.keep [0, 2, 4]))))))))
 (.seq (.seq (.ops none [oD 20 (.loadN 256 (.t 2)),
 oN (.store 256 (.t 2) (.t 20)),
 oD 3 (.mov (.k (.bool true)))])
 (.keep [2, 3]))
 .ret)))
  results := [.cellN 2 256, .tmp 3]
theorem ok148 : FnOK Tryz.prog pureL 148 a148 := ⟨Tryz.f148, [(0, [0, 2]), (1, [0, 2, 4]), (2, [0, 2, 4, 9]), (4, [0, 2, 4, 5]), (5, [0, 2, 4, 5, 16]), (6, [2, 3]), (7, [0, 2, 4]), (3, [0, 2, 4]), (8, [2, 3])], [(0, [0, 2, 4])], Tryz.func148, by kernel_rfl⟩
/-- strings.trimLeftASCII -/
def a149 : AFunc where
  body :=
  (.seq (.seq (.ops none [oD 4 (.mov (.k (.str [])))])
 (.keep [0, 1]))
 (.seq (.block 0 (.loop (.seq (.keep [0, 1])
 (.seq (.seq (.seq (.ops none [oD 5 (.mov (.t 0)),
 oD 6 (.len .str (.t 5)),
 oD 7 (.bin .gtr (.t 6) (.k (.int .i64 0)))])
 (.keep [0, 1, 7]))
 (.cond (.t 7) .skip
 (.exit 0)))
 (.block 1 (.seq (.seq (.seq (.ops none [oD 8 (.mov (.t 1)),
 oD 9 (.mov (.t 0)),
 oD 10 (.indexStr (.t 9) (.k (.int .i64 0))),
 oD 11 (.call 173 [(.t 8), (.t 10)]),
 oD 12 (.un .not (.t 11))])
 (.keep [0, 1, 12]))
 (.cond (.t 12) (.exit 0)
 .skip))
 (.seq (.ops none [oD 13 (.mov (.t 0)),
 oD 14 (.sliceStr (.t 13) (some (.k (.int .i64 1))) none),
 oD 0 (.mov (.t 14))])
 (.keep [0, 1]))))))))
 (.seq (.seq (.ops none [oD 15 (.mov (.t 0)),
 oD 4 (.mov (.t 15))])
 (.keep [4]))
 .ret)))
  results := [.tmp 4]
theorem ok149 : FnOK Tryz.prog pureL 149 a149 := ⟨Tryz.f149, [(0, [0, 1]), (1, [0, 1, 7]), (2, [0, 1, 12]), (3, [0, 1]), (4, [4])], [(0, [0, 1])], Tryz.func149, by kernel_rfl⟩
/-- strings.trimRightASCII -/
def a150 : AFunc where
  body :=
  (.seq (.seq (.ops none [oD 4 (.mov (.k (.str [])))])
 (.keep [0, 1]))
 (.seq (.block 0 (.loop (.seq (.keep [0, 1])
 (.seq (.seq (.seq (.ops none [oD 5 (.mov (.t 0)),
 oD 6 (.len .str (.t 5)),
 oD 7 (.bin .gtr (.t 6) (.k (.int .i64 0)))])
 (.keep [0, 1, 7]))
 (.cond (.t 7) .skip
 (.exit 0)))
 (.block 1 (.seq (.seq (.seq (.ops none [oD 8 (.mov (.t 1)),
 oD 9 (.mov (.t 0)),
 oD 10 (.mov (.t 0)),
 oD 11 (.len .str (.t 10)),
 oD 12 (.bin .sub (.t 11) (.k (.int .i64 1))),
 oD 13 (.indexStr (.t 9) (.t 12)),
 oD 14 (.call 173 [(.t 8), (.t 13)]),
 oD 15 (.un .not (.t 14))])
 (.keep [0, 1, 15]))
 (.cond (.t 15) (.exit 0)
 .skip))
 (.seq (.ops none [oD 16 (.mov (.t 0)),
 oD 17 (.mov (.t 0)),
 oD 18 (.len .str (.t 17)),
 oD 19 (.bin .sub (.t 18) (.k (.int .i64 1))),
 oD 20 (.sliceStr (.t 16) none (some (.t 19))),
 oD 0 (.mov (.t 20))])
 (.keep [0, 1]))))))))
 (.seq (.seq (.ops none [oD 21 (.mov (.t 0)),
 oD 4 (.mov (.t 21))])
 (.keep [4]))
 .ret)))
  results := [.tmp 4]
theorem ok150 : FnOK Tryz.prog pureL 150 a150 := ⟨Tryz.f150, [(0, [0, 1]), (1, [0, 1, 7]), (2, [0, 1, 15]), (3, [0, 1]), (4, [4])], [(0, [0, 1])], Tryz.func150, by kernel_rfl⟩
/-- strings.trimLeftUnicode -/
def a151 : AFunc where
  body :=
  (.seq (.seq (.ops none [oD 4 (.mov (.k (.str [])))])
 (.keep [0, 1]))
 (.seq (.block 0 (.loop (.seq (.keep [0, 1])
 (.seq (.seq (.seq (.ops none [oD 7 (.mov (.t 0)),
 oD 8 (.len .str (.t 7)),
 oD 9 (.bin .gtr (.t 8) (.k (.int .i64 0)))])
 (.keep [0, 1, 9]))
 (.cond (.t 9) .skip
 (.exit 0)))
 (.block 1 (.seq (.seq (.ops none [oD 11 (.mov (.t 0)),
 oD 12 (.call 174 [(.t 11)]),
 oD 10 (.mov (.t 12)),
 oD 13 (.extract 0 (.t 10)),
 oD 14 (.extract 1 (.t 10)),
 oD 5 (.mov (.t 13)),
 oD 6 (.mov (.t 14))])
 (.keep [0, 1, 5, 6]))
 (.seq (.seq (.seq (.ops none [oD 15 (.mov (.t 1)),
 oD 16 (.mov (.t 5)),
 oD 17 (.call 175 [(.t 15), (.t 16)]),
 oD 18 (.un .not (.t 17))])
 (.keep [0, 1, 6, 18]))
 (.cond (.t 18) (.exit 0)
 .skip))
 (.seq (.ops none [oD 19 (.mov (.t 0)),
 oD 20 (.mov (.t 6)),
 oD 21 (.sliceStr (.t 19) (some (.t 20)) none),
 oD 0 (.mov (.t 21))])
 (.keep [0, 1])))))))))
 (.seq (.seq (.ops none [oD 22 (.mov (.t 0)),
 oD 4 (.mov (.t 22))])
 (.keep [4]))
 .ret)))
  results := [.tmp 4]
theorem ok151 : FnOK Tryz.prog pureL 151 a151 := ⟨Tryz.f151, [(0, [0, 1]), (1, [0, 1, 9]), (2, [0, 1, 5, 6]), (3, [0, 1, 6, 18]), (4, [0, 1]), (5, [4])], [(0, [0, 1])], Tryz.func151, by kernel_rfl⟩
/-- strings.trimRightUnicode -/
def a152 : AFunc where
  body :=
  (.seq (.seq (.ops none [oD 4 (.mov (.k (.str [])))])
 (.keep [0, 1]))
 (.seq (.block 0 (.loop (.seq (.keep [0, 1])
 (.seq (.seq (.seq (.ops none [oD 7 (.mov (.t 0)),
 oD 8 (.len .str (.t 7)),
 oD 9 (.bin .gtr (.t 8) (.k (.int .i64 0)))])
 (.keep [0, 1, 9]))
 (.cond (.t 9) .skip
 (.exit 0)))
 (.block 1 (.seq (.seq (.ops none [oD 10 (.mov (.t 0)),
 oD 11 (.mov (.t 0)),
 oD 12 (.len .str (.t 11)),
 oD 13 (.bin .sub (.t 12) (.k (.int .i64 1))),
 oD 14 (.indexStr (.t 10) (.t 13)),
 oD 15 (.convInt .i32 (.t 14)),
 oD 5 (.mov (.t 15)),
 oD 6 (.mov (.k (.int .i64 1)))])
 (.keep [0, 1, 5, 6]))
 (.seq (.seq (.seq (.ops none [oD 16 (.mov (.t 5)),
 oD 17 (.bin .geq (.t 16) (.k (.int .i32 128)))])
 (.keep [0, 1, 5, 6, 17]))
 (.cond (.t 17) (.seq (.ops none [oD 19 (.mov (.t 0)),
 oD 20 (.call 176 [(.t 19)]),
 oD 18 (.mov (.t 20)),
 oD 21 (.extract 0 (.t 18)),
 oD 22 (.extract 1 (.t 18)),
 oD 5 (.mov (.t 21)),
 oD 6 (.mov (.t 22))])
 (.keep [0, 1, 5, 6]))
 .skip))
 (.seq (.seq (.seq (.ops none [oD 23 (.mov (.t 1)),
 oD 24 (.mov (.t 5)),
 oD 25 (.call 175 [(.t 23), (.t 24)]),
 oD 26 (.un .not (.t 25))])
 (.keep [0, 1, 6, 26]))
 (.cond (.t 26) (.exit 0)
 .skip))
 (.seq (.ops none [oD 27 (.mov (.t 0)),
 oD 28 (.mov (.t 0)),
 oD 29 (.len .str (.t 28)),
 oD 30 (.mov (.t 6)),
 oD 31 (.bin .sub (.t 29) (.t 30)),
 oD 32 (.sliceStr (.t 27) none (some (.t 31))),
 oD 0 (.mov (.t 32))])
 (.keep [0, 1]))))))))))
 (.seq (.seq (.ops none [oD 33 (.mov (.t 0)),
 oD 4 (.mov (.t 33))])
 (.keep [4]))
 .ret)))
  results := [.tmp 4]
theorem ok152 : FnOK Tryz.prog pureL 152 a152 := ⟨Tryz.f152, [(0, [0, 1]), (1, [0, 1, 9]), (2, [0, 1, 5, 6]), (3, [0, 1, 5, 6, 17]), (4, [0, 1, 5, 6]), (5, [0, 1, 6, 26]), (6, [0, 1]), (7, [4])], [(0, [0, 1])], Tryz.func152, by kernel_rfl⟩
/-- strings.genSplit -/
def a153 : AFunc where
  body :=
  (.seq (.seq (.ops none [oD 8 (.mov (.k .nilslice))])
 (.keep [0, 1, 2, 3]))
 (.seq (.seq (.seq (.ops none [oD 12 (.mov (.t 3)),
 oD 13 (.eq false (.leaf .int) (.t 12) (.k (.int .i64 0)))])
 (.keep [0, 1, 2, 3, 13]))
 (.cond (.t 13) (.seq (.seq (.ops none [oD 8 (.mov (.k .nilslice))])
 (.keep [8]))
 .ret)
 .skip))
 (.seq (.seq (.seq (.ops none [oD 14 (.mov (.t 1)),
 oD 15 (.eq false (.leaf .str) (.t 14) (.k (.str [])))])
 (.keep [0, 1, 2, 3, 15]))
 (.cond (.t 15) (.seq (.seq (.ops none [oD 16 (.mov (.t 0)),
 oD 17 (.mov (.t 3)),
 oD 18 (.call 177 [(.t 16), (.t 17)]),
 oD 8 (.mov (.t 18))])
 (.keep [8]))
 .ret)
 .skip))
 (.seq (.seq (.seq (.ops none [oD 19 (.mov (.t 3)),
 oD 20 (.bin .lss (.t 19) (.k (.int .i64 0)))])
 (.keep [0, 1, 2, 3, 20]))
 (.cond (.t 20) (.seq (.ops none [oD 21 (.mov (.t 0)),
 oD 22 (.mov (.t 1)),
 oD 23 (.call 178 [(.t 21), (.t 22)]),
 oD 24 (.bin .add (.t 23) (.k (.int .i64 1))),
 oD 3 (.mov (.t 24))])
 (.keep [0, 1, 2, 3]))
 .skip))
 (.seq (.seq (.ops none [oD 25 (.mov (.t 3)),
 oD 26 (.mov (.t 0)),
 oD 27 (.len .str (.t 26)),
 oD 28 (.bin .add (.t 27) (.k (.int .i64 1))),
 oD 29 (.minmax false (.t 25) (.t 28)),
 oD 3 (.mov (.t 29))])
 (.keep [0, 1, 2, 3]))
 (.seq (.seq (.ops none [oD 30 (.mov (.t 3)),
 oD 31 (.makeSlice [(.str [])] 1 (.t 30) (.t 30)),
 oD 9 (.mov (.t 31))])
 (.keep [0, 1, 2, 3, 9]))
 (.seq (.seq (.ops none [oD 32 (.mov (.t 3)),
 oD 33 (.bin .sub (.t 32) (.k (.int .i64 1))),
 oD 3 (.mov (.t 33))])
 (.keep [0, 1, 2, 3, 9]))
 (.seq (.seq (.ops none [oD 10 (.mov (.k (.int .i64 0)))])
 (.keep [0, 1, 2, 3, 9, 10]))
 (.seq (.block 0 (.loop (.seq (.keep [0, 1, 2, 3, 9, 10])
 (.seq (.seq (.seq (.ops none [oD 34 (.mov (.t 10)),
 oD 35 (.mov (.t 3)),
 oD 36 (.bin .lss (.t 34) (.t 35))])
 (.keep [0, 1, 2, 3, 9, 10, 36]))
 (.cond (.t 36) .skip
 (.exit 0)))
 (.block 1 (.seq (.seq (.ops none [oD 37 (.mov (.t 0)),
 oD 38 (.mov (.t 1)),
 oD 39 (.call 179 [(.t 37), (.t 38)]),
 oD 11 (.mov (.t 39))])
 (.keep [0, 1, 2, 3, 9, 10, 11]))
 (.seq (.seq (.seq (.ops none [oD 40 (.mov (.t 11)),
 oD 41 (.bin .lss (.t 40) (.k (.int .i64 0)))])
 (.keep [0, 1, 2, 3, 9, 10, 11, 41]))
 (.cond (.t 41) (.exit 0)
 .skip))
 (.seq (.seq (.ops none [oD 42 (.mov (.t 9)),
 oD 43 (.mov (.t 10)),
 oD 44 (.mov (.t 0)),
 oD 45 (.mov (.t 11)),
 oD 46 (.mov (.t 2)),
 oD 47 (.bin .add (.t 45) (.t 46)),
 oD 48 (.sliceStr (.t 44) none (some (.t 47))),
 oD 49 (.idxSl 1 (.t 42) (.t 43)),
 oN (.store 1 (.t 49) (.t 48))])
 (.keep [0, 1, 2, 3, 9, 10, 11]))
 (.seq (.seq (.ops none [oD 50 (.mov (.t 0)),
 oD 51 (.mov (.t 11)),
 oD 52 (.mov (.t 1)),
 oD 53 (.len .str (.t 52)),
 oD 54 (.bin .add (.t 51) (.t 53)),
 oD 55 (.sliceStr (.t 50) (some (.t 54)) none),
 oD 0 (.mov (.t 55))])
 (.keep [0, 1, 2, 3, 9, 10]))
 (.seq (.ops none [oD 56 (.mov (.t 10)),
 oD 57 (.bin .add (.t 56) (.k (.int .i64 1))),
 oD 10 (.mov (.t 57))])
 (.keep [0, 1, 2, 3, 9, 10])))))))))))
 (.seq (.seq (.ops none [oD 58 (.mov (.t 9)),
 oD 59 (.mov (.t 10)),
 oD 60 (.mov (.t 0)),
 oD 61 (.idxSl 1 (.t 58) (.t 59)),
 oN (.store 1 (.t 61) (.t 60))])
 (.keep [9, 10]))
 (.seq (.seq (.ops none [oD 62 (.mov (.t 9)),
 oD 63 (.mov (.t 10)),
 oD 64 (.bin .add (.t 63) (.k (.int .i64 1))),
 oD 65 (.sliceSl 1 (.t 62) none (some (.t 64))),
 oD 8 (.mov (.t 65))])
 (.keep [8]))
 .ret)))))))))))
  results := [.tmp 8]
theorem ok153 : FnOK Tryz.prog pureL 153 a153 := ⟨Tryz.f153, [(0, [0, 1, 2, 3]), (1, [0, 1, 2, 3, 13]), (2, [8]), (3, [0, 1, 2, 3, 15]), (4, [8]), (5, [0, 1, 2, 3, 20]), (6, [0, 1, 2, 3]), (7, [0, 1, 2, 3]), (8, [0, 1, 2, 3, 9]), (9, [0, 1, 2, 3, 9]), (10, [0, 1, 2, 3, 9, 10]), (11, [0, 1, 2, 3, 9, 10, 36]), (12, [0, 1, 2, 3, 9, 10, 11]), (13, [0, 1, 2, 3, 9, 10, 11, 41]), (14, [0, 1, 2, 3, 9, 10, 11]), (15, [0, 1, 2, 3, 9, 10]), (16, [0, 1, 2, 3, 9, 10]), (17, [9, 10]), (18, [8])], [(0, [0, 1, 2, 3, 9, 10])], Tryz.func153, by kernel_rfl⟩
/-- slices.IndexFunc[[]string,string] -/
def a154 : AFunc where
  body :=
  (.seq (.seq (.ops none [oD 4 (.mov (.k (.int .i64 0)))])
 (.keep [0, 1]))
 (.seq (.seq (.seq (.ops none [oD 6 (.mov (.t 0)),
 oD 7 (.len .slice (.t 6)),
 oD 8 (.mov (.k (.int .i64 0)))])
 (.keep [0, 1, 7, 8]))
 (.block 0 (.loop (.seq (.keep [0, 1, 7, 8])
 (.seq (.seq (.ops none [oD 9 (.bin .lss (.t 8) (.t 7))])
 (.keep [0, 1, 7, 8, 9]))
 (.seq (.cond (.t 9) .skip
 (.exit 0))
 (.seq (.block 1 (.seq (.seq (.ops none [oD 10 (.mov (.t 8)),
 oD 5 (.mov (.t 10))])
 (.keep [0, 1, 5, 7, 8]))
 (.seq (.seq (.ops none [oD 11 (.mov (.t 1)),
 oD 12 (.mov (.t 0)),
 oD 13 (.mov (.t 5)),
 oD 14 (.idxSl 1 (.t 12) (.t 13)),
 oD 15 (.load1 (.t 14)),
 oD 16 (.callv (.t 11) [(.t 15)])])
 (.keep [0, 1, 5, 7, 8, 16]))
 (.cond (.t 16) (.seq (.seq (.ops none [oD 17 (.mov (.t 5)),
 oD 4 (.mov (.t 17))])
 (.keep [4]))
 .ret)
 .skip))))
 (.seq (.ops none [oD 18 (.bin .add (.t 8) (.k (.int .i64 1))),
 oD 8 (.mov (.t 18))])
 (.keep [0, 1, 7, 8])))))))))
 (.seq (.seq (.ops none [oD 4 (.mov (.k (.int .i64 (-1))))])
 (.keep [4]))
 .ret)))
  results := [.tmp 4]
theorem ok154 : FnOK Tryz.prog pureL 154 a154 := ⟨Tryz.f154, [(0, [0, 1]), (1, [0, 1, 7, 8]), (2, [0, 1, 7, 8, 9]), (3, [0, 1, 5, 7, 8]), (4, [0, 1, 5, 7, 8, 16]), (5, [4]), (6, [0, 1, 7, 8]), (7, [4])], [(0, [0, 1, 7, 8])], Tryz.func154, by kernel_rfl⟩
/-- strings.IndexByte -/
def a155 : AFunc where
  body :=
  (.seq (.seq (.ops none [oD 4 (.mov (.k (.int .i64 0)))])
 (.keep [0, 1]))
 (.seq (.seq (.ops none [oD 5 (.mov (.t 0)),
 oD 6 (.mov (.t 1)),
 oD 7 (.call 180 [(.t 5), (.t 6)]),
 oD 4 (.mov (.t 7))])
 (.keep [4]))
 .ret))
  results := [.tmp 4]
theorem ok155 : FnOK Tryz.prog pureL 155 a155 := ⟨Tryz.f155, [(0, [0, 1]), (1, [4])], [], Tryz.func155, by kernel_rfl⟩
/-- (*stylus/lay.layout).flow -/
def a156 : AFunc where
  body :=
  (.seq (.seq (.ops none [oD 6 (.mov (.k .nilslice))])
 (.keep [0, 1, 2]))
 (.seq (.ops (some [7]) [oD 10 (.mov (.t 0)),
 oD 11 (.nilCheck (.t 10)),
 oD 12 (.fieldAddr 5 (.t 11)),
 oD 13 (.load1 (.t 12)),
 oD 14 (.mov (.t 0)),
 oD 15 (.nilCheck (.t 14)),
 oD 16 (.fieldAddr 6 (.t 15)),
 oD 17 (.loadN 131 (.t 16)),
 oD 18 (.mov (.t 1)),
 oD 19 (.mov (.t 2)),
 oD 20 (.call 181 [(.t 13), (.t 17), (.t 18), (.t 19)]),
 oD 9 (.mov (.t 20)),
 oD 21 (.extract 0 (.t 9)),
 oD 22 (.extract 1 (.t 9)),
 oD 7 (.mov (.t 21)),
 oD 8 (.mov (.t 22))])
 (.seq (.seq (.ops none [oD 23 (.mov (.t 7)),
 oD 6 (.mov (.t 23))])
 (.keep [6]))
 .ret)))
  results := [.tmp 6]
theorem ok156 : FnOK Tryz.prog pureL 156 a156 := ⟨Tryz.f156, [(0, [0, 1, 2]), (1, [7]), (2, [6])], [], Tryz.func156, by kernel_rfl⟩
/-- (*stylus/lay.layout).notes -/
def a157 : AFunc where
  body :=
  (.seq (.seq (.ops none [oD 3 (.box (.t 1)),
 oD 4 (.mov (.k .nilslice))])
 (.keep [0, 3]))
 (.seq (.seq (.seq (.ops none [oD 9 (.fieldAddr 0 (.t 3)),
 oD 10 (.load1 (.t 9)),
 oD 11 (.len .slice (.t 10)),
 oD 12 (.mov (.k (.int .i64 0)))])
 (.keep [0, 10, 11, 12]))
 (.block 0 (.loop (.seq (.keep [0, 10, 11, 12])
 (.seq (.seq (.ops none [oD 13 (.bin .lss (.t 12) (.t 11))])
 (.keep [0, 10, 11, 12, 13]))
 (.seq (.cond (.t 13) .skip
 (.exit 0))
 (.seq (.block 1 (.seq (.seq (.ops none [oD 14 (.idxSl 4 (.t 10) (.t 12)),
 oD 15 (.loadN 4 (.t 14)),
 oD 6 (.alloc [(.int .i64 0), (.int .u8 0), (.int .i64 0), (.int .i64 0)]),
 oN (.store 4 (.t 6) (.t 15))])
 (.keep [0, 6, 10, 11, 12]))
 (.seq (.seq (.ops none [oD 16 (.fieldAddr 2 (.t 6)),
 oD 17 (.load1 (.t 16)),
 oD 18 (.eq false (.leaf .int) (.t 17) (.k (.int .i64 2)))])
 (.keep [0, 6, 10, 11, 12, 18]))
 (.cond (.t 18) (.seq (.ops (some [7]) [oD 20 (.mov (.t 0)),
 oD 21 (.nilCheck (.t 20)),
 oD 22 (.fieldAddr 5 (.t 21)),
 oD 23 (.load1 (.t 22)),
 oD 24 (.mov (.t 0)),
 oD 25 (.nilCheck (.t 24)),
 oD 26 (.fieldAddr 6 (.t 25)),
 oD 27 (.loadN 131 (.t 26)),
 oD 28 (.fieldAddr 3 (.t 6)),
 oD 29 (.load1 (.t 28)),
 oD 30 (.mov (.t 0)),
 oD 31 (.nilCheck (.t 30)),
 oD 32 (.fieldAddr 0 (.t 31)),
 oD 33 (.fieldAddr 0 (.t 32)),
 oD 34 (.load1 (.t 33)),
 oD 35 (.call 182 [(.t 23), (.t 27), (.t 29), (.t 34)]),
 oD 19 (.mov (.t 35)),
 oD 36 (.extract 0 (.t 19)),
 oD 37 (.extract 1 (.t 19)),
 oD 7 (.mov (.t 36)),
 oD 8 (.mov (.t 37))])
 (.seq (.seq (.ops none [oD 38 (.mov (.t 7)),
 oD 4 (.mov (.t 38))])
 (.keep [4]))
 .ret))
 .skip))))
 (.seq (.ops none [oD 39 (.bin .add (.t 12) (.k (.int .i64 1))),
 oD 12 (.mov (.t 39))])
 (.keep [0, 10, 11, 12])))))))))
 (.seq (.seq (.ops none [oD 4 (.mov (.k .nilslice))])
 (.keep [4]))
 .ret)))
  results := [.tmp 4]
theorem ok157 : FnOK Tryz.prog pureL 157 a157 := ⟨Tryz.f157, [(0, [0, 3]), (1, [0, 10, 11, 12]), (2, [0, 10, 11, 12, 13]), (3, [0, 6, 10, 11, 12]), (4, [0, 6, 10, 11, 12, 18]), (5, [7]), (6, [4]), (7, [0, 10, 11, 12]), (8, [4])], [(0, [0, 10, 11, 12])], Tryz.func157, by kernel_rfl⟩
/-- stylus/lay.beside -/
def a158 : AFunc where
  body :=
  (.seq (.seq (.ops none [oD 2 (.mov (.k (.bool false)))])
 (.keep [0]))
 (.seq (.seq (.ops none [oD 3 (.mov (.t 0)),
 oD 4 (.call 183 [(.t 3), (.k (.func (.fn 184) [] []))]),
 oD 5 (.un .not (.t 4)),
 oD 2 (.mov (.t 5))])
 (.keep [2]))
 .ret))
  results := [.tmp 2]
theorem ok158 : FnOK Tryz.prog pureL 158 a158 := ⟨Tryz.f158, [(0, [0]), (1, [2])], [], Tryz.func158, by kernel_rfl⟩
/-- stylus/lay.joined -/
def a159 : AFunc where
  body :=
  (.seq (.seq (.ops none [oD 4 (.alloc [.nilslice, (.int .i64 0), (.int .i64 0)])])
 (.keep [0, 1, 4]))
 (.seq (.seq (.ops none [oD 5 (.alloc [.nilslice, (.int .i64 0), (.int .i64 0)])])
 (.keep [0, 1, 4, 5]))
 (.seq (.seq (.seq (.ops none [oD 9 (.mov (.t 1)),
 oD 10 (.len .slice (.t 9)),
 oD 11 (.mov (.k (.int .i64 0)))])
 (.keep [0, 4, 5, 9, 10, 11]))
 (.block 0 (.loop (.seq (.keep [0, 4, 5, 9, 10, 11])
 (.seq (.seq (.ops none [oD 12 (.bin .lss (.t 11) (.t 10))])
 (.keep [0, 4, 5, 9, 10, 11, 12]))
 (.seq (.cond (.t 12) .skip
 (.exit 0))
 (.seq (.block 1 (.seq (.seq (.ops none [oD 13 (.mov (.t 11)),
 oD 14 (.idxSl 1 (.t 9) (.t 11)),
 oD 15 (.load1 (.t 14)),
 oD 6 (.mov (.t 13)),
 oD 7 (.mov (.t 15))])
 (.keep [0, 4, 5, 6, 7, 9, 10, 11]))
 (.seq (.seq (.seq (.ops none [oD 16 (.mov (.t 7)),
 oD 17 (.eq false .ptr (.t 16) (.k .nilptr))])
 (.keep [0, 4, 5, 6, 7, 9, 10, 11, 17]))
 (.cond (.t 17) (.exit 1)
 .skip))
 (.seq (.seq (.ops none [oD 18 (.mov (.t 7)),
 oD 19 (.nilCheck (.t 18)),
 oD 20 (.loadN 3 (.t 19)),
 oD 21 (.buildSlice [.nilslice, (.int .i64 0), (.int .i64 0)] 3 1 [(0, 3, (.t 20))]),
 oD 22 (.mov (.t 6)),
 oD 23 (.mov (.t 0)),
 oD 24 (.bin .mul (.t 22) (.t 23)),
 oD 25 (.call 68 [(.t 21), (.t 24)]),
 oD 26 (.idxSl 3 (.t 25) (.k (.int .i64 0))),
 oD 27 (.loadN 3 (.t 26)),
 oD 8 (.alloc [.nilslice, (.int .i64 0), (.int .i64 0)]),
 oN (.store 3 (.t 8) (.t 27))])
 (.keep [0, 4, 5, 6, 7, 8, 9, 10, 11]))
 (.seq (.seq (.ops none [oD 28 (.fieldAddr 0 (.t 5)),
 oD 29 (.load1 (.t 28)),
 oD 30 (.fieldAddr 0 (.t 8)),
 oD 31 (.load1 (.t 30)),
 oD 32 (.append 4 (.t 29) (.t 31)),
 oD 33 (.fieldAddr 0 (.t 5)),
 oN (.store 1 (.t 33) (.t 32))])
 (.keep [0, 4, 5, 6, 7, 9, 10, 11]))
 (.seq (.seq (.ops none [oD 34 (.mov (.t 7)),
 oD 35 (.nilCheck (.t 34)),
 oD 36 (.fieldAddr 1 (.t 35)),
 oD 37 (.load1 (.t 36)),
 oD 38 (.mov (.t 6)),
 oD 39 (.mov (.t 0)),
 oD 40 (.bin .mul (.t 38) (.t 39)),
 oD 41 (.bin .add (.t 37) (.t 40)),
 oD 42 (.fieldAddr 1 (.t 5)),
 oN (.store 1 (.t 42) (.t 41))])
 (.keep [0, 4, 5, 7, 9, 10, 11]))
 (.ops (some [0, 4, 5, 9, 10, 11]) [oD 43 (.fieldAddr 2 (.t 5)),
 oD 44 (.load1 (.t 43)),
 oD 45 (.mov (.t 7)),
 oD 46 (.nilCheck (.t 45)),
 oD 47 (.fieldAddr 2 (.t 46)),
 oD 48 (.load1 (.t 47)),
 oD 49 (.bin .or (.t 44) (.t 48)),
 oD 50 (.fieldAddr 2 (.t 5)),
 oN (.store 1 (.t 50) (.t 49))])))))))
 (.seq (.ops none [oD 51 (.bin .add (.t 11) (.k (.int .i64 1))),
 oD 11 (.mov (.t 51))])
 (.keep [0, 4, 5, 9, 10, 11])))))))))
 (.seq (.seq (.ops none [oD 52 (.loadN 3 (.t 5)),
 oN (.store 3 (.t 4) (.t 52))])
 (.keep [4]))
 .ret))))
  results := [.cellN 4 3]
theorem ok159 : FnOK Tryz.prog pureL 159 a159 := ⟨Tryz.f159, [(0, [0, 1, 4]), (1, [0, 1, 4, 5]), (2, [0, 4, 5, 9, 10, 11]), (3, [0, 4, 5, 9, 10, 11, 12]), (4, [0, 4, 5, 6, 7, 9, 10, 11]), (5, [0, 4, 5, 6, 7, 9, 10, 11, 17]), (6, [0, 4, 5, 6, 7, 8, 9, 10, 11]), (7, [0, 4, 5, 6, 7, 9, 10, 11]), (8, [0, 4, 5, 7, 9, 10, 11]), (9, [0, 4, 5, 9, 10, 11]), (10, [0, 4, 5, 9, 10, 11]), (11, [4])], [(0, [0, 4, 5, 9, 10, 11])], Tryz.func159, by kernel_rfl⟩
/-- stylus/stylusref01.Marks -/
def a160 : AFunc where
  body :=
  (.seq (.seq (.ops none [oD 0 (.mov (.k (.str [])))])
 (.keep []))
 (.seq (.seq (.ops none [oD 0 (.mov (.k (.str [46, 44, 59, 58, 33, 63, 39, 34, 45, 40, 41, 47])))])
 (.keep [0]))
 .ret))
  results := [.tmp 0]
theorem ok160 : FnOK Tryz.prog pureL 160 a160 := ⟨Tryz.f160, [(0, []), (1, [0])], [], Tryz.func160, by kernel_rfl⟩
/-- stylus/stylusref05.Flow -/
def a161 : AFunc where
  body :=
  (.seq (.seq (.ops none [oD 4 (.mov (.k (.int .i64 0)))])
 (.keep [0, 1]))
 (.seq (.seq (.seq (.ops none [oD 6 (.mov (.t 1)),
 oD 7 (.bin .sub (.t 6) (.k (.int .i64 1))),
 oD 5 (.mov (.t 7))])
 (.keep [0, 1, 5]))
 (.block 0 (.loop (.seq (.keep [0, 1, 5])
 (.seq (.seq (.seq (.ops none [oD 8 (.mov (.t 5)),
 oD 9 (.bin .geq (.t 8) (.k (.int .i64 0)))])
 (.keep [0, 1, 5, 9]))
 (.cond (.t 9) .skip
 (.exit 0)))
 (.seq (.block 1 (.seq (.seq (.ops none [oD 12 (.mov (.t 0)),
 oD 13 (.mov (.t 5)),
 oD 14 (.idxSl 4 (.t 12) (.t 13)),
 oD 15 (.fieldAddr 0 (.t 14)),
 oD 16 (.load1 (.t 15)),
 oD 17 (.call 121 [(.t 16)]),
 oD 18 (.mov (.t 17)),
 oG 19 18 true (.mov (.t 1)),
 oG 20 18 true (.mov (.t 5)),
 oG 21 18 true (.mov (.t 0)),
 oG 22 18 true (.mov (.t 5)),
 oG 23 18 true (.idxSl 4 (.t 21) (.t 22)),
 oG 24 18 true (.fieldAddr 3 (.t 23)),
 oG 25 18 true (.load1 (.t 24)),
 oG 26 18 true (.bin .add (.t 20) (.t 25)),
 oG 27 18 true (.bin .lss (.t 19) (.t 26)),
 oD 28 (.pick (.t 18) (.t 27) (.k (.bool false)))])
 (.keep [0, 1, 5, 28]))
 (.cond (.t 28) (.seq (.seq (.ops none [oD 29 (.mov (.t 5)),
 oD 4 (.mov (.t 29))])
 (.keep [4]))
 .ret)
 .skip)))
 (.seq (.ops none [oD 10 (.mov (.t 5)),
 oD 11 (.bin .sub (.t 10) (.k (.int .i64 1))),
 oD 5 (.mov (.t 11))])
 (.keep [0, 1, 5]))))))))
 (.seq (.seq (.ops none [oD 4 (.mov (.k (.int .i64 (-1))))])
 (.keep [4]))
 .ret)))
  results := [.tmp 4]
theorem ok161 : FnOK Tryz.prog pureL 161 a161 := ⟨Tryz.f161, [(0, [0, 1]), (1, [0, 1, 5]), (2, [0, 1, 5, 9]), (4, [0, 1, 5, 28]), (5, [4]), (3, [0, 1, 5]), (6, [4])], [(0, [0, 1, 5])], Tryz.func161, by kernel_rfl⟩
/-- stylus/lex.names -/
def a162 : AFunc where
  body :=
  (.seq (.seq (.ops none [oD 0 (.mov (.k .nilslice))])
 (.keep []))
 (.seq (.seq (.ops none [oD 1 (.buildSlice (List.replicate 13 (.str [])) 1 13 [(0, 1, (.k (.str [104, 49]))), (1, 1, (.k (.str [104, 50]))), (2, 1, (.k (.str [104, 51]))), (3, 1, (.k (.str [112]))), (4, 1, (.k (.str [108]))), (5, 1, (.k (.str [105]))), (6, 1, (.k (.str [116]))), (7, 1, (.k (.str [114]))), (8, 1, (.k (.str [99]))), (9, 1, (.k (.str [110]))), (10, 1, (.k (.str [101]))), (11, 1, (.k (.str [115]))), (12, 1, (.k (.str [107])))]),
 oD 0 (.mov (.t 1))])
 (.keep [0]))
 .ret))
  results := [.tmp 0]
theorem ok162 : FnOK Tryz.prog pureL 162 a162 := ⟨Tryz.f162, [(0, []), (1, [0])], [], Tryz.func162, by kernel_rfl⟩
/-- stylus/lex.Name$1 -/
def a163 : AFunc where
  body :=
  (.seq (.seq (.ops none [oD 3 (.mov (.k (.bool false)))])
 (.keep [0, 1]))
 (.seq (.ops (some [3]) [oD 4 (.mov (.t 0)),
 oD 6 (.load1 (.t 1)),
 ⟨(some 5), none, .call 164 [(.t 4)], [⟨6, none, .load1 (.t 1)⟩]⟩,
 oD 7 (.eq false (.leaf .int) (.t 5) (.t 6)),
 oD 3 (.mov (.t 7))])
 .ret))
  results := [.tmp 3]
theorem ok163 : FnOK Tryz.prog pureL 163 a163 := ⟨Tryz.f163, [(0, [0, 1]), (1, [3])], [], Tryz.func163, by kernel_rfl⟩
/-- stylus/lex.letter -/
def a164 : AFunc where
  body :=
  (.seq (.seq (.ops none [oD 2 (.mov (.k (.int .u8 0)))])
 (.keep [0]))
 (.seq (.seq (.ops none [oD 3 (.mov (.t 0)),
 oD 4 (.mov (.t 0)),
 oD 5 (.len .str (.t 4)),
 oD 6 (.bin .sub (.t 5) (.k (.int .i64 1))),
 oD 7 (.indexStr (.t 3) (.t 6)),
 oD 2 (.mov (.t 7))])
 (.keep [2]))
 .ret))
  results := [.tmp 2]
theorem ok164 : FnOK Tryz.prog pureL 164 a164 := ⟨Tryz.f164, [(0, [0]), (1, [2])], [], Tryz.func164, by kernel_rfl⟩
/-- stylus/chars.Class -/
def a165 : AFunc where
  body :=
  (.seq (.seq (.ops none [oD 2 (.mov (.k (.int .i64 0)))])
 (.keep [0]))
 (.seq (.seq (.seq (.ops none [oD 5 (.call 187 []),
 oD 6 (.mov (.k (.int .i64 0)))])
 (.keep [0, 5, 6]))
 (.block 0 (.loop (.seq (.keep [0, 5, 6])
 (.seq (.seq (.ops none [oD 7 (.bin .lss (.t 6) (.k (.int .i64 7)))])
 (.keep [0, 5, 6, 7]))
 (.seq (.cond (.t 7) .skip
 (.exit 0))
 (.seq (.block 1 (.seq (.seq (.ops none [oD 8 (.mov (.t 6)),
 oD 9 (.index 7 4 true (.t 5) (.t 6)),
 oD 4 (.alloc [(.int .u64 0), (.int .u64 0), (.int .u64 0), (.int .u64 0)]),
 oD 3 (.mov (.t 8)),
 oN (.store 4 (.t 4) (.t 9))])
 (.keep [0, 3, 4, 5, 6]))
 (.seq (.seq (.ops none [oD 10 (.loadN 4 (.t 4)),
 oD 11 (.mov (.t 0)),
 oD 12 (.call 188 [(.t 10), (.t 11)])])
 (.keep [0, 3, 5, 6, 12]))
 (.cond (.t 12) (.seq (.seq (.ops none [oD 13 (.mov (.t 3)),
 oD 2 (.mov (.t 13))])
 (.keep [2]))
 .ret)
 .skip))))
 (.seq (.ops none [oD 14 (.bin .add (.t 6) (.k (.int .i64 1))),
 oD 6 (.mov (.t 14))])
 (.keep [0, 5, 6])))))))))
 (.seq (.seq (.ops none [oD 2 (.mov (.k (.int .i64 0)))])
 (.keep [2]))
 .ret)))
  results := [.tmp 2]
theorem ok165 : FnOK Tryz.prog pureL 165 a165 := ⟨Tryz.f165, [(0, [0]), (1, [0, 5, 6]), (2, [0, 5, 6, 7]), (3, [0, 3, 4, 5, 6]), (4, [0, 3, 5, 6, 12]), (5, [2]), (6, [0, 5, 6]), (7, [2])], [(0, [0, 5, 6])], Tryz.func165, by kernel_rfl⟩
/-- strings.IndexFunc -/
def a166 : AFunc where
  body :=
  (.seq (.seq (.ops none [oD 4 (.mov (.k (.int .i64 0)))])
 (.keep [0, 1]))
 (.seq (.seq (.ops none [oD 5 (.mov (.t 0)),
 oD 6 (.mov (.t 1)),
 oD 7 (.call 189 [(.t 5), (.t 6), (.k (.bool true))]),
 oD 4 (.mov (.t 7))])
 (.keep [4]))
 .ret))
  results := [.tmp 4]
theorem ok166 : FnOK Tryz.prog pureL 166 a166 := ⟨Tryz.f166, [(0, [0, 1]), (1, [4])], [], Tryz.func166, by kernel_rfl⟩
/-- stylus/tree.pairs$1 -/
def a167 : AFunc where
  body :=
  (.seq (.seq (.ops none [oD 9 (.mov (.t 0)),
 oD 10 (.strBytes (.t 9)),
 oD 11 (.len .slice (.t 10)),
 oD 12 (.mov (.k (.int .i64 0)))])
 (.keep [1, 2, 10, 11, 12]))
 (.block 0 (.loop (.seq (.keep [1, 2, 10, 11, 12])
 (.seq (.seq (.ops none [oD 13 (.bin .lss (.t 12) (.t 11))])
 (.keep [1, 2, 10, 11, 12, 13]))
 (.seq (.cond (.t 13) .skip
 (.exit 0))
 (.seq (.block 1 (.seq (.seq (.ops none [oD 14 (.idxSl 1 (.t 10) (.t 12)),
 oD 15 (.load1 (.t 14)),
 oD 6 (.mov (.t 15))])
 (.keep [1, 2, 6, 10, 11, 12]))
 (.seq (.seq (.ops none [oD 16 (.mov (.t 1)),
 oD 17 (.strBytes (.t 16)),
 oD 18 (.len .slice (.t 17)),
 oD 19 (.mov (.k (.int .i64 0)))])
 (.keep [1, 2, 6, 10, 11, 12, 17, 18, 19]))
 (.block 2 (.loop (.seq (.keep [1, 2, 6, 10, 11, 12, 17, 18, 19])
 (.seq (.seq (.ops none [oD 20 (.bin .lss (.t 19) (.t 18))])
 (.keep [1, 2, 6, 10, 11, 12, 17, 18, 19, 20]))
 (.seq (.cond (.t 20) .skip
 (.exit 2))
 (.seq (.block 3 (.seq (.seq (.ops none [oD 21 (.idxSl 1 (.t 17) (.t 19)),
 oD 22 (.load1 (.t 21)),
 oD 8 (.mov (.t 22))])
 (.keep [1, 2, 6, 8, 10, 11, 12, 17, 18, 19]))
 (.seq (.ops none [oD 23 (.load1 (.t 2)),
 oD 24 (.mov (.t 6)),
 oD 25 (.mov (.t 8)),
 oD 26 (.build [(.int .u8 0), (.int .u8 0)] [(0, 1, (.t 24)), (1, 1, (.t 25))]),
 oN (.mapUpdate (.agg [.int, .int]) (.t 23) (.t 26) (.k (.int .i64 1)))])
 (.keep [1, 2, 6, 10, 11, 12, 17, 18, 19]))))
 (.seq (.ops none [oD 27 (.bin .add (.t 19) (.k (.int .i64 1))),
 oD 19 (.mov (.t 27))])
 (.keep [1, 2, 6, 10, 11, 12, 17, 18, 19])))))))))))
 (.seq (.ops none [oD 28 (.bin .add (.t 12) (.k (.int .i64 1))),
 oD 12 (.mov (.t 28))])
 (.keep [1, 2, 10, 11, 12])))))))))
  results := []
theorem ok167 : FnOK Tryz.prog pureL 167 a167 := ⟨Tryz.f167, [(0, [1, 2, 10, 11, 12]), (1, [1, 2, 10, 11, 12, 13]), (2, [1, 2, 6, 10, 11, 12]), (3, [1, 2, 6, 10, 11, 12, 17, 18, 19]), (4, [1, 2, 6, 10, 11, 12, 17, 18, 19, 20]), (5, [1, 2, 6, 8, 10, 11, 12, 17, 18, 19]), (6, [1, 2, 6, 10, 11, 12, 17, 18, 19]), (7, [1, 2, 6, 10, 11, 12, 17, 18, 19]), (8, [1, 2, 10, 11, 12])], [(0, [1, 2, 10, 11, 12]), (2, [1, 2, 6, 10, 11, 12, 17, 18, 19])], Tryz.func167, by kernel_rfl⟩
/-- stylus/norm.owners -/
def a168 : AFunc where
  body :=
  (.seq (.seq (.ops none [oD 2 (.mov (.k .nilslice))])
 (.keep [0]))
 (.seq (.seq (.ops none [oD 6 (.mov (.t 0)),
 oD 7 (.len .slice (.t 6)),
 oD 8 (.makeSlice [(.int .i64 0)] 1 (.t 7) (.t 7)),
 oD 3 (.mov (.t 8))])
 (.keep [0, 3]))
 (.seq (.seq (.ops none [oD 4 (.mov (.k .nilslice))])
 (.keep [0, 3, 4]))
 (.seq (.seq (.seq (.ops none [oD 9 (.mov (.t 0)),
 oD 10 (.len .slice (.t 9)),
 oD 11 (.mov (.k (.int .i64 0)))])
 (.keep [0, 3, 4, 10, 11]))
 (.block 0 (.loop (.seq (.keep [0, 3, 4, 10, 11])
 (.seq (.seq (.ops none [oD 12 (.bin .lss (.t 11) (.t 10))])
 (.keep [0, 3, 4, 10, 11, 12]))
 (.seq (.cond (.t 12) .skip
 (.exit 0))
 (.seq (.block 1 (.seq (.seq (.ops none [oD 13 (.mov (.t 11)),
 oD 5 (.mov (.t 13))])
 (.keep [0, 3, 4, 5, 10, 11]))
 (.seq (.block 2 (.loop (.seq (.keep [0, 3, 4, 5, 10, 11])
 (.seq (.seq (.ops (some [0, 3, 4, 5, 10, 11, 37]) [oD 14 (.mov (.t 4)),
 oD 15 (.len .slice (.t 14)),
 oD 16 (.bin .gtr (.t 15) (.k (.int .i64 0))),
 oD 17 (.mov (.t 16)),
 oG 18 17 true (.mov (.t 5)),
 oG 19 17 true (.mov (.t 4)),
 oG 20 17 true (.mov (.t 4)),
 oG 21 17 true (.len .slice (.t 20)),
 oG 22 17 true (.bin .sub (.t 21) (.k (.int .i64 1))),
 oG 23 17 true (.idxSl 1 (.t 19) (.t 22)),
 oG 24 17 true (.load1 (.t 23)),
 oG 25 17 true (.mov (.t 0)),
 oG 26 17 true (.mov (.t 4)),
 oG 27 17 true (.mov (.t 4)),
 oG 28 17 true (.len .slice (.t 27)),
 oG 29 17 true (.bin .sub (.t 28) (.k (.int .i64 1))),
 oG 30 17 true (.idxSl 1 (.t 26) (.t 29)),
 oG 31 17 true (.load1 (.t 30)),
 oG 32 17 true (.idxSl 4 (.t 25) (.t 31)),
 oG 33 17 true (.fieldAddr 3 (.t 32)),
 oG 34 17 true (.load1 (.t 33)),
 oG 35 17 true (.bin .add (.t 24) (.t 34)),
 oG 36 17 true (.bin .geq (.t 18) (.t 35)),
 oD 37 (.pick (.t 17) (.t 36) (.k (.bool false)))])
 (.cond (.t 37) .skip
 (.exit 2)))
 (.block 3 (.seq (.ops none [oD 38 (.mov (.t 4)),
 oD 39 (.mov (.t 4)),
 oD 40 (.len .slice (.t 39)),
 oD 41 (.bin .sub (.t 40) (.k (.int .i64 1))),
 oD 42 (.sliceSl 1 (.t 38) none (some (.t 41))),
 oD 4 (.mov (.t 42))])
 (.keep [0, 3, 4, 5, 10, 11])))))))
 (.seq (.seq (.seq (.ops none [oD 43 (.mov (.t 4)),
 oD 44 (.len .slice (.t 43)),
 oD 45 (.bin .gtr (.t 44) (.k (.int .i64 0)))])
 (.keep [0, 3, 4, 5, 10, 11, 45]))
 (.cond (.t 45) (.seq (.ops none [oD 46 (.mov (.t 3)),
 oD 47 (.mov (.t 5)),
 oD 48 (.mov (.t 4)),
 oD 49 (.mov (.t 4)),
 oD 50 (.len .slice (.t 49)),
 oD 51 (.bin .sub (.t 50) (.k (.int .i64 1))),
 oD 52 (.idxSl 1 (.t 48) (.t 51)),
 oD 53 (.load1 (.t 52)),
 oD 54 (.idxSl 1 (.t 46) (.t 47)),
 oN (.store 1 (.t 54) (.t 53))])
 (.keep [0, 3, 4, 5, 10, 11]))
 .skip))
 (.seq (.seq (.ops none [oD 55 (.mov (.t 0)),
 oD 56 (.mov (.t 5)),
 oD 57 (.idxSl 4 (.t 55) (.t 56)),
 oD 58 (.fieldAddr 0 (.t 57)),
 oD 59 (.load1 (.t 58)),
 oD 60 (.call 155 [(.k (.str [49, 50, 51, 112, 105, 99, 110])), (.t 59)]),
 oD 61 (.bin .geq (.t 60) (.k (.int .i64 0)))])
 (.keep [0, 3, 4, 5, 10, 11, 61]))
 (.cond (.t 61) (.seq (.ops none [oD 62 (.mov (.t 4)),
 oD 63 (.mov (.t 5)),
 oD 64 (.buildSlice [(.int .i64 0)] 1 1 [(0, 1, (.t 63))]),
 oD 65 (.append 1 (.t 62) (.t 64)),
 oD 4 (.mov (.t 65))])
 (.keep [0, 3, 4, 10, 11]))
 .skip))))))
 (.seq (.ops none [oD 66 (.bin .add (.t 11) (.k (.int .i64 1))),
 oD 11 (.mov (.t 66))])
 (.keep [0, 3, 4, 10, 11])))))))))
 (.seq (.seq (.ops none [oD 67 (.mov (.t 3)),
 oD 2 (.mov (.t 67))])
 (.keep [2]))
 .ret)))))
  results := [.tmp 2]
theorem ok168 : FnOK Tryz.prog pureL 168 a168 := ⟨Tryz.f168, [(0, [0]), (1, [0, 3]), (2, [0, 3, 4]), (3, [0, 3, 4, 10, 11]), (4, [0, 3, 4, 10, 11, 12]), (5, [0, 3, 4, 5, 10, 11]), (6, [0, 3, 4, 5, 10, 11, 37]), (7, [0, 3, 4, 5, 10, 11]), (8, [0, 3, 4, 5, 10, 11, 45]), (9, [0, 3, 4, 5, 10, 11]), (10, [0, 3, 4, 5, 10, 11, 61]), (11, [0, 3, 4, 10, 11]), (12, [0, 3, 4, 10, 11]), (13, [2])], [(0, [0, 3, 4, 10, 11]), (2, [0, 3, 4, 5, 10, 11])], Tryz.func168, by kernel_rfl⟩
/-- stylus/norm.squeezed$1 -/
def a169 : AFunc where
  body :=
  (.seq (.seq (.seq (.ops none [oD 9 (.load1 (.t 2)),
 oD 10 (.len .slice (.t 9)),
 oD 11 (.eq false (.leaf .int) (.t 10) (.k (.int .i64 0)))])
 (.keep [0, 1, 2, 3, 4, 5, 6, 11]))
 (.cond (.t 11) (.ops (some [1, 2, 4, 6]) [oD 12 (.load1 (.t 5)),
 oD 13 (.load1 (.t 4)),
 oD 14 (.load1 (.t 3)),
 oD 15 (.load1 (.t 4)),
 oD 16 (.idxSl 4 (.t 14) (.t 15)),
 oD 17 (.fieldAddr 2 (.t 16)),
 oD 18 (.load1 (.t 17)),
 oD 19 (.mov (.t 0)),
 oD 20 (.bin .add (.t 18) (.t 19)),
 oD 21 (.idxSl 4 (.t 12) (.t 13)),
 oD 22 (.fieldAddr 2 (.t 21)),
 oN (.store 1 (.t 22) (.t 20))])
 .skip))
 (.seq (.seq (.ops none [oD 23 (.load1 (.t 2)),
 oD 24 (.mov (.t 1)),
 oD 25 (.buildSlice [(.int .u8 0)] 1 1 [(0, 1, (.t 24))]),
 oD 26 (.append 1 (.t 23) (.t 25)),
 oN (.store 1 (.t 2) (.t 26))])
 (.keep [1, 4, 6]))
 (.seq (.ops none [oD 27 (.load1 (.t 6)),
 oD 28 (.mov (.t 1)),
 oD 29 (.load1 (.t 4)),
 oD 30 (.build [(.int .u8 0), (.int .i64 0)] [(0, 1, (.t 28)), (1, 1, (.t 29))]),
 oD 31 (.nilCheck (.t 27)),
 oD 32 (.fieldAddr 0 (.t 31)),
 oN (.store 2 (.t 32) (.t 30))])
 (.keep []))))
  results := []
theorem ok169 : FnOK Tryz.prog pureL 169 a169 := ⟨Tryz.f169, [(0, [0, 1, 2, 3, 4, 5, 6, 11]), (1, [1, 2, 4, 6]), (2, [1, 4, 6]), (3, [])], [], Tryz.func169, by kernel_rfl⟩
/-- (stylus/norm.said).blank -/
def a170 : AFunc where
  body :=
  (.seq (.seq (.ops none [oD 1 (.box (.t 0)),
 oD 2 (.mov (.k (.bool false)))])
 (.keep [1]))
 (.seq (.seq (.ops none [oD 3 (.fieldAddr 0 (.t 1)),
 oD 4 (.load1 (.t 3)),
 oD 5 (.eq false (.leaf .int) (.t 4) (.k (.int .u8 0))),
 oD 6 (.mov (.t 5)),
 oG 7 6 false (.fieldAddr 0 (.t 1)),
 oG 8 6 false (.load1 (.t 7)),
 oG 9 6 false (.eq false (.leaf .int) (.t 8) (.k (.int .u8 32))),
 oD 10 (.pick (.t 6) (.k (.bool true)) (.t 9)),
 oD 2 (.mov (.t 10))])
 (.keep [2]))
 .ret))
  results := [.tmp 2]
theorem ok170 : FnOK Tryz.prog pureL 170 a170 := ⟨Tryz.f170, [(0, [1]), (1, [2])], [], Tryz.func170, by kernel_rfl⟩
/-- internal/stringslite.TrimSuffix -/
def a171 : AFunc where
  body :=
  (.seq (.seq (.ops none [oD 4 (.mov (.k (.str [])))])
 (.keep [0, 1]))
 (.seq (.seq (.seq (.ops none [oD 5 (.mov (.t 0)),
 oD 6 (.mov (.t 1)),
 oD 7 (.call 190 [(.t 5), (.t 6)])])
 (.keep [0, 1, 7]))
 (.cond (.t 7) (.seq (.seq (.ops none [oD 8 (.mov (.t 0)),
 oD 9 (.mov (.t 0)),
 oD 10 (.len .str (.t 9)),
 oD 11 (.mov (.t 1)),
 oD 12 (.len .str (.t 11)),
 oD 13 (.bin .sub (.t 10) (.t 12)),
 oD 14 (.sliceStr (.t 8) none (some (.t 13))),
 oD 4 (.mov (.t 14))])
 (.keep [4]))
 .ret)
 .skip))
 (.seq (.seq (.ops none [oD 15 (.mov (.t 0)),
 oD 4 (.mov (.t 15))])
 (.keep [4]))
 .ret)))
  results := [.tmp 4]
theorem ok171 : FnOK Tryz.prog pureL 171 a171 := ⟨Tryz.f171, [(0, [0, 1]), (1, [0, 1, 7]), (2, [4]), (3, [4])], [], Tryz.func171, by kernel_rfl⟩
/-- internal/stringslite.TrimPrefix -/
def a172 : AFunc where
  body :=
  (.seq (.seq (.ops none [oD 4 (.mov (.k (.str [])))])
 (.keep [0, 1]))
 (.seq (.seq (.seq (.ops none [oD 5 (.mov (.t 0)),
 oD 6 (.mov (.t 1)),
 oD 7 (.call 191 [(.t 5), (.t 6)])])
 (.keep [0, 1, 7]))
 (.cond (.t 7) (.seq (.seq (.ops none [oD 8 (.mov (.t 0)),
 oD 9 (.mov (.t 1)),
 oD 10 (.len .str (.t 9)),
 oD 11 (.sliceStr (.t 8) (some (.t 10)) none),
 oD 4 (.mov (.t 11))])
 (.keep [4]))
 .ret)
 .skip))
 (.seq (.seq (.ops none [oD 12 (.mov (.t 0)),
 oD 4 (.mov (.t 12))])
 (.keep [4]))
 .ret)))
  results := [.tmp 4]
theorem ok172 : FnOK Tryz.prog pureL 172 a172 := ⟨Tryz.f172, [(0, [0, 1]), (1, [0, 1, 7]), (2, [4]), (3, [4])], [], Tryz.func172, by kernel_rfl⟩
/-- (*strings.asciiSet).contains -/
def a173 : AFunc where
  body :=
  (.seq (.seq (.ops none [oD 4 (.mov (.k (.bool false)))])
 (.keep [0, 1]))
 (.seq (.seq (.ops none [oD 5 (.mov (.t 0)),
 oD 6 (.mov (.t 1)),
 oD 7 (.nilCheck (.t 5)),
 oD 8 (.idxArr 256 1 (.t 7) (.t 6)),
 oD 9 (.load1 (.t 8)),
 oD 4 (.mov (.t 9))])
 (.keep [4]))
 .ret))
  results := [.tmp 4]
theorem ok173 : FnOK Tryz.prog pureL 173 a173 := ⟨Tryz.f173, [(0, [0, 1]), (1, [4])], [], Tryz.func173, by kernel_rfl⟩
/-- unicode/utf8.DecodeRuneInString -/
def a174 : AFunc where
  body :=
  (.seq (.seq (.ops none [oD 2 (.mov (.k (.int .i32 0))),
 oD 3 (.mov (.k (.int .i64 0)))])
 (.keep [0]))
 (.seq (.seq (.seq (.ops none [oD 4 (.mov (.t 0)),
 oD 5 (.eq true (.leaf .str) (.t 4) (.k (.str []))),
 oD 6 (.mov (.t 5)),
 oG 7 6 true (.mov (.t 0)),
 oG 8 6 true (.indexStr (.t 7) (.k (.int .i64 0))),
 oG 9 6 true (.bin .lss (.t 8) (.k (.int .u8 128))),
 oD 10 (.pick (.t 6) (.t 9) (.k (.bool false)))])
 (.keep [0, 10]))
 (.cond (.t 10) (.seq (.seq (.ops none [oD 11 (.mov (.t 0)),
 oD 12 (.indexStr (.t 11) (.k (.int .i64 0))),
 oD 13 (.convInt .i32 (.t 12)),
 oD 2 (.mov (.t 13)),
 oD 3 (.mov (.k (.int .i64 1)))])
 (.keep [2, 3]))
 .ret)
 (.seq (.ops none [oD 15 (.mov (.t 0)),
 oD 16 (.call 192 [(.t 15)]),
 oD 14 (.mov (.t 16)),
 oD 17 (.extract 0 (.t 14)),
 oD 18 (.extract 1 (.t 14)),
 oD 2 (.mov (.t 17)),
 oD 3 (.mov (.t 18))])
 (.keep [2, 3]))))
 .ret))
  results := [.tmp 2, .tmp 3]
theorem ok174 : FnOK Tryz.prog pureL 174 a174 := ⟨Tryz.f174, [(0, [0]), (1, [0, 10]), (3, [2, 3]), (2, [2, 3])], [], Tryz.func174, by kernel_rfl⟩
/-- strings.ContainsRune -/
def a175 : AFunc where
  body :=
  (.seq (.seq (.ops none [oD 4 (.mov (.k (.bool false)))])
 (.keep [0, 1]))
 (.seq (.seq (.ops none [oD 5 (.mov (.t 0)),
 oD 6 (.mov (.t 1)),
 oD 7 (.call 193 [(.t 5), (.t 6)]),
 oD 8 (.bin .geq (.t 7) (.k (.int .i64 0))),
 oD 4 (.mov (.t 8))])
 (.keep [4]))
 .ret))
  results := [.tmp 4]
theorem ok175 : FnOK Tryz.prog pureL 175 a175 := ⟨Tryz.f175, [(0, [0, 1]), (1, [4])], [], Tryz.func175, by kernel_rfl⟩
/-- unicode/utf8.DecodeLastRuneInString -/
def a176 : AFunc where
  body :=
  (.seq (.seq (.ops none [oD 2 (.mov (.k (.int .i32 0))),
 oD 3 (.mov (.k (.int .i64 0)))])
 (.keep [0]))
 (.seq (.seq (.ops none [oD 7 (.mov (.t 0)),
 oD 8 (.len .str (.t 7)),
 oD 4 (.mov (.t 8))])
 (.keep [0, 4]))
 (.seq (.seq (.seq (.ops none [oD 9 (.mov (.t 4)),
 oD 10 (.eq false (.leaf .int) (.t 9) (.k (.int .i64 0)))])
 (.keep [0, 4, 10]))
 (.cond (.t 10) (.seq (.seq (.ops none [oD 2 (.mov (.k (.int .i32 65533))),
 oD 3 (.mov (.k (.int .i64 0)))])
 (.keep [2, 3]))
 .ret)
 .skip))
 (.seq (.seq (.ops none [oD 11 (.mov (.t 4)),
 oD 12 (.bin .sub (.t 11) (.k (.int .i64 1))),
 oD 5 (.mov (.t 12))])
 (.keep [0, 4, 5]))
 (.seq (.seq (.ops none [oD 13 (.mov (.t 0)),
 oD 14 (.mov (.t 5)),
 oD 15 (.indexStr (.t 13) (.t 14)),
 oD 16 (.convInt .i32 (.t 15)),
 oD 2 (.mov (.t 16))])
 (.keep [0, 2, 4, 5]))
 (.seq (.seq (.seq (.ops none [oD 17 (.mov (.t 2)),
 oD 18 (.bin .lss (.t 17) (.k (.int .i32 128)))])
 (.keep [0, 2, 4, 5, 18]))
 (.cond (.t 18) (.seq (.seq (.ops none [oD 19 (.mov (.t 2)),
 oD 2 (.mov (.t 19)),
 oD 3 (.mov (.k (.int .i64 1)))])
 (.keep [2, 3]))
 .ret)
 .skip))
 (.seq (.seq (.ops none [oD 20 (.mov (.t 4)),
 oD 21 (.bin .sub (.t 20) (.k (.int .i64 4))),
 oD 22 (.minmax true (.t 21) (.k (.int .i64 0))),
 oD 6 (.mov (.t 22))])
 (.keep [0, 4, 5, 6]))
 (.seq (.seq (.seq (.ops none [oD 23 (.mov (.t 5)),
 oD 24 (.bin .sub (.t 23) (.k (.int .i64 1))),
 oD 5 (.mov (.t 24))])
 (.keep [0, 4, 5, 6]))
 (.block 0 (.loop (.seq (.keep [0, 4, 5, 6])
 (.seq (.seq (.seq (.ops none [oD 25 (.mov (.t 5)),
 oD 26 (.mov (.t 6)),
 oD 27 (.bin .geq (.t 25) (.t 26))])
 (.keep [0, 4, 5, 6, 27]))
 (.cond (.t 27) .skip
 (.exit 0)))
 (.seq (.block 1 (.seq (.seq (.ops none [oD 30 (.mov (.t 0)),
 oD 31 (.mov (.t 5)),
 oD 32 (.indexStr (.t 30) (.t 31)),
 oD 33 (.call 194 [(.t 32)])])
 (.keep [0, 4, 5, 6, 33]))
 (.cond (.t 33) (.exit 0)
 .skip)))
 (.seq (.ops none [oD 28 (.mov (.t 5)),
 oD 29 (.bin .sub (.t 28) (.k (.int .i64 1))),
 oD 5 (.mov (.t 29))])
 (.keep [0, 4, 5, 6]))))))))
 (.seq (.seq (.seq (.ops none [oD 34 (.mov (.t 5)),
 oD 35 (.bin .lss (.t 34) (.k (.int .i64 0)))])
 (.keep [0, 4, 5, 35]))
 (.cond (.t 35) (.seq (.ops none [oD 5 (.mov (.k (.int .i64 0)))])
 (.keep [0, 4, 5]))
 .skip))
 (.seq (.seq (.ops none [oD 37 (.mov (.t 0)),
 oD 38 (.mov (.t 5)),
 oD 39 (.mov (.t 4)),
 oD 40 (.sliceStr (.t 37) (some (.t 38)) (some (.t 39))),
 oD 41 (.call 174 [(.t 40)]),
 oD 36 (.mov (.t 41)),
 oD 42 (.extract 0 (.t 36)),
 oD 43 (.extract 1 (.t 36)),
 oD 2 (.mov (.t 42)),
 oD 3 (.mov (.t 43))])
 (.keep [2, 3, 4, 5]))
 (.seq (.seq (.seq (.ops none [oD 44 (.mov (.t 5)),
 oD 45 (.mov (.t 3)),
 oD 46 (.bin .add (.t 44) (.t 45)),
 oD 47 (.mov (.t 4)),
 oD 48 (.eq true (.leaf .int) (.t 46) (.t 47))])
 (.keep [2, 3, 48]))
 (.cond (.t 48) (.seq (.seq (.ops none [oD 2 (.mov (.k (.int .i32 65533))),
 oD 3 (.mov (.k (.int .i64 1)))])
 (.keep [2, 3]))
 .ret)
 .skip))
 (.seq (.seq (.ops none [oD 49 (.mov (.t 2)),
 oD 50 (.mov (.t 3)),
 oD 2 (.mov (.t 49)),
 oD 3 (.mov (.t 50))])
 (.keep [2, 3]))
 .ret))))))))))))
  results := [.tmp 2, .tmp 3]
theorem ok176 : FnOK Tryz.prog pureL 176 a176 := ⟨Tryz.f176, [(0, [0]), (1, [0, 4]), (2, [0, 4, 10]), (3, [2, 3]), (4, [0, 4, 5]), (5, [0, 2, 4, 5]), (6, [0, 2, 4, 5, 18]), (7, [2, 3]), (8, [0, 4, 5, 6]), (9, [0, 4, 5, 6]), (10, [0, 4, 5, 6, 27]), (12, [0, 4, 5, 6, 33]), (11, [0, 4, 5, 6]), (13, [0, 4, 5, 35]), (14, [0, 4, 5]), (15, [2, 3, 4, 5]), (16, [2, 3, 48]), (17, [2, 3]), (18, [2, 3])], [(0, [0, 4, 5, 6])], Tryz.func176, by kernel_rfl⟩
/-- strings.explode -/
def a177 : AFunc where
  body :=
  (.seq (.seq (.ops none [oD 4 (.mov (.k .nilslice))])
 (.keep [0, 1]))
 (.seq (.seq (.ops none [oD 10 (.mov (.t 0)),
 oD 11 (.call 195 [(.t 10)]),
 oD 5 (.mov (.t 11))])
 (.keep [0, 1, 5]))
 (.seq (.seq (.seq (.ops none [oD 12 (.mov (.t 1)),
 oD 13 (.bin .lss (.t 12) (.k (.int .i64 0))),
 oD 14 (.mov (.t 13)),
 oG 15 14 false (.mov (.t 1)),
 oG 16 14 false (.mov (.t 5)),
 oG 17 14 false (.bin .gtr (.t 15) (.t 16)),
 oD 18 (.pick (.t 14) (.k (.bool true)) (.t 17))])
 (.keep [0, 1, 5, 18]))
 (.cond (.t 18) (.seq (.ops none [oD 19 (.mov (.t 5)),
 oD 1 (.mov (.t 19))])
 (.keep [0, 1]))
 .skip))
 (.seq (.seq (.ops none [oD 20 (.mov (.t 1)),
 oD 21 (.makeSlice [(.str [])] 1 (.t 20) (.t 20)),
 oD 6 (.mov (.t 21))])
 (.keep [0, 1, 6]))
 (.seq (.seq (.seq (.ops none [oD 7 (.mov (.k (.int .i64 0)))])
 (.keep [0, 1, 6, 7]))
 (.block 0 (.loop (.seq (.keep [0, 1, 6, 7])
 (.seq (.seq (.seq (.ops none [oD 22 (.mov (.t 7)),
 oD 23 (.mov (.t 1)),
 oD 24 (.bin .sub (.t 23) (.k (.int .i64 1))),
 oD 25 (.bin .lss (.t 22) (.t 24))])
 (.keep [0, 1, 6, 7, 25]))
 (.cond (.t 25) .skip
 (.exit 0)))
 (.seq (.block 1 (.seq (.seq (.ops none [oD 29 (.mov (.t 0)),
 oD 30 (.call 174 [(.t 29)]),
 oD 28 (.mov (.t 30)),
 oD 31 (.extract 0 (.t 28)),
 oD 32 (.extract 1 (.t 28)),
 oD 8 (.mov (.t 31)),
 oD 9 (.mov (.t 32))])
 (.keep [0, 1, 6, 7, 9]))
 (.seq (.seq (.ops none [oD 33 (.mov (.t 6)),
 oD 34 (.mov (.t 7)),
 oD 35 (.mov (.t 0)),
 oD 36 (.mov (.t 9)),
 oD 37 (.sliceStr (.t 35) none (some (.t 36))),
 oD 38 (.idxSl 1 (.t 33) (.t 34)),
 oN (.store 1 (.t 38) (.t 37))])
 (.keep [0, 1, 6, 7, 9]))
 (.seq (.ops none [oD 39 (.mov (.t 0)),
 oD 40 (.mov (.t 9)),
 oD 41 (.sliceStr (.t 39) (some (.t 40)) none),
 oD 0 (.mov (.t 41))])
 (.keep [0, 1, 6, 7])))))
 (.seq (.ops none [oD 26 (.mov (.t 7)),
 oD 27 (.bin .add (.t 26) (.k (.int .i64 1))),
 oD 7 (.mov (.t 27))])
 (.keep [0, 1, 6, 7]))))))))
 (.seq (.seq (.seq (.ops none [oD 42 (.mov (.t 1)),
 oD 43 (.bin .gtr (.t 42) (.k (.int .i64 0)))])
 (.keep [0, 1, 6, 43]))
 (.cond (.t 43) (.seq (.ops none [oD 44 (.mov (.t 6)),
 oD 45 (.mov (.t 1)),
 oD 46 (.bin .sub (.t 45) (.k (.int .i64 1))),
 oD 47 (.mov (.t 0)),
 oD 48 (.idxSl 1 (.t 44) (.t 46)),
 oN (.store 1 (.t 48) (.t 47))])
 (.keep [6]))
 .skip))
 (.seq (.seq (.ops none [oD 49 (.mov (.t 6)),
 oD 4 (.mov (.t 49))])
 (.keep [4]))
 .ret)))))))
  results := [.tmp 4]
theorem ok177 : FnOK Tryz.prog pureL 177 a177 := ⟨Tryz.f177, [(0, [0, 1]), (1, [0, 1, 5]), (2, [0, 1, 5, 18]), (3, [0, 1]), (4, [0, 1, 6]), (5, [0, 1, 6, 7]), (6, [0, 1, 6, 7, 25]), (8, [0, 1, 6, 7, 9]), (9, [0, 1, 6, 7, 9]), (10, [0, 1, 6, 7]), (7, [0, 1, 6, 7]), (11, [0, 1, 6, 43]), (12, [6]), (13, [4])], [(0, [0, 1, 6, 7])], Tryz.func177, by kernel_rfl⟩
/-- strings.Count -/
def a178 : AFunc where
  body :=
  (.seq (.seq (.ops none [oD 4 (.mov (.k (.int .i64 0)))])
 (.keep [0, 1]))
 (.seq (.seq (.seq (.ops none [oD 7 (.mov (.t 1)),
 oD 8 (.len .str (.t 7)),
 oD 9 (.eq false (.leaf .int) (.t 8) (.k (.int .i64 0)))])
 (.keep [0, 1, 9]))
 (.cond (.t 9) (.seq (.seq (.ops none [oD 10 (.mov (.t 0)),
 oD 11 (.call 195 [(.t 10)]),
 oD 12 (.bin .add (.t 11) (.k (.int .i64 1))),
 oD 4 (.mov (.t 12))])
 (.keep [4]))
 .ret)
 .skip))
 (.seq (.seq (.seq (.ops none [oD 13 (.mov (.t 1)),
 oD 14 (.len .str (.t 13)),
 oD 15 (.eq false (.leaf .int) (.t 14) (.k (.int .i64 1)))])
 (.keep [0, 1, 15]))
 (.cond (.t 15) (.seq (.seq (.ops none [oD 16 (.mov (.t 0)),
 oD 17 (.mov (.t 1)),
 oD 18 (.indexStr (.t 17) (.k (.int .i64 0))),
 oD 19 (.ext .count [(.t 16), (.t 18)]),
 oD 4 (.mov (.t 19))])
 (.keep [4]))
 .ret)
 .skip))
 (.seq (.seq (.ops none [oD 5 (.mov (.k (.int .i64 0)))])
 (.keep [0, 1, 5]))
 (.block 0 (.loop (.seq (.keep [0, 1, 5])
 (.block 1 (.seq (.seq (.ops none [oD 20 (.mov (.t 0)),
 oD 21 (.mov (.t 1)),
 oD 22 (.call 179 [(.t 20), (.t 21)]),
 oD 6 (.mov (.t 22))])
 (.keep [0, 1, 5, 6]))
 (.seq (.seq (.seq (.ops none [oD 23 (.mov (.t 6)),
 oD 24 (.eq false (.leaf .int) (.t 23) (.k (.int .i64 (-1))))])
 (.keep [0, 1, 5, 6, 24]))
 (.cond (.t 24) (.seq (.seq (.ops none [oD 25 (.mov (.t 5)),
 oD 4 (.mov (.t 25))])
 (.keep [4]))
 .ret)
 .skip))
 (.seq (.seq (.ops none [oD 26 (.mov (.t 5)),
 oD 27 (.bin .add (.t 26) (.k (.int .i64 1))),
 oD 5 (.mov (.t 27))])
 (.keep [0, 1, 5, 6]))
 (.seq (.ops none [oD 28 (.mov (.t 0)),
 oD 29 (.mov (.t 6)),
 oD 30 (.mov (.t 1)),
 oD 31 (.len .str (.t 30)),
 oD 32 (.bin .add (.t 29) (.t 31)),
 oD 33 (.sliceStr (.t 28) (some (.t 32)) none),
 oD 0 (.mov (.t 33))])
 (.keep [0, 1, 5])))))))))))))
  results := [.tmp 4]
theorem ok178 : FnOK Tryz.prog pureL 178 a178 := ⟨Tryz.f178, [(0, [0, 1]), (1, [0, 1, 9]), (2, [4]), (3, [0, 1, 15]), (4, [4]), (5, [0, 1, 5]), (6, [0, 1, 5, 6]), (7, [0, 1, 5, 6, 24]), (8, [4]), (9, [0, 1, 5, 6]), (10, [0, 1, 5])], [(0, [0, 1, 5])], Tryz.func178, by kernel_rfl⟩
/-- strings.Index -/
def a179 : AFunc where
  body :=
  (.seq (.seq (.ops none [oD 4 (.mov (.k (.int .i64 0)))])
 (.keep [0, 1]))
 (.seq (.seq (.ops none [oD 5 (.mov (.t 0)),
 oD 6 (.mov (.t 1)),
 oD 7 (.call 197 [(.t 5), (.t 6)]),
 oD 4 (.mov (.t 7))])
 (.keep [4]))
 .ret))
  results := [.tmp 4]
theorem ok179 : FnOK Tryz.prog pureL 179 a179 := ⟨Tryz.f179, [(0, [0, 1]), (1, [4])], [], Tryz.func179, by kernel_rfl⟩
/-- internal/stringslite.IndexByte -/
def a180 : AFunc where
  body :=
  (.seq (.seq (.ops none [oD 4 (.mov (.k (.int .i64 0)))])
 (.keep [0, 1]))
 (.seq (.seq (.ops none [oD 5 (.mov (.t 0)),
 oD 6 (.mov (.t 1)),
 oD 7 (.ext .index [(.t 5), (.t 6)]),
 oD 4 (.mov (.t 7))])
 (.keep [4]))
 .ret))
  results := [.tmp 4]
theorem ok180 : FnOK Tryz.prog pureL 180 a180 := ⟨Tryz.f180, [(0, [0, 1]), (1, [4])], [], Tryz.func180, by kernel_rfl⟩
/-- stylus/lay.Flow -/
def a181 : AFunc where
  body :=
  (.seq (.seq (.ops none [oD 5 (.box (.t 1)),
 oD 8 (.mov (.k .nilslice)),
 oD 9 (.mov (.k (.int .i64 0)))])
 (.keep [0, 2, 3, 5]))
 (.seq (.seq (.ops none [oD 14 (.mov (.t 0)),
 oD 15 (.loadN 131 (.t 5)),
 oD 16 (.mov (.t 2)),
 oD 17 (.call 199 [(.t 14), (.t 15), (.t 16)]),
 oD 13 (.mov (.t 17)),
 oD 18 (.extract 0 (.t 13)),
 oD 19 (.extract 1 (.t 13)),
 oD 10 (.mov (.t 18)),
 oD 11 (.mov (.t 19))])
 (.keep [0, 3, 10, 11]))
 (.seq (.seq (.seq (.ops none [oD 20 (.mov (.t 11)),
 oD 21 (.eq true (.leaf .int) (.t 20) (.k (.int .i64 0)))])
 (.keep [0, 3, 10, 11, 21]))
 (.cond (.t 21) (.seq (.seq (.ops none [oD 22 (.mov (.t 11)),
 oD 8 (.mov (.k .nilslice)),
 oD 9 (.mov (.t 22))])
 (.keep [8, 9]))
 .ret)
 .skip))
 (.seq (.seq (.ops none [oD 24 (.mov (.t 10)),
 oD 25 (.mov (.t 3)),
 oD 26 (.call 200 [(.t 24), (.t 25)]),
 oD 23 (.mov (.t 26)),
 oD 27 (.extract 0 (.t 23)),
 oD 28 (.extract 1 (.t 23)),
 oD 12 (.mov (.t 27)),
 oD 11 (.mov (.t 28))])
 (.keep [0, 3, 10, 11, 12]))
 (.seq (.seq (.seq (.ops none [oD 29 (.mov (.t 11)),
 oD 30 (.eq true (.leaf .int) (.t 29) (.k (.int .i64 0))),
 oD 31 (.mov (.t 30)),
 oG 32 31 false (.mov (.t 10)),
 oG 33 31 false (.len .slice (.t 32)),
 oG 34 31 false (.eq false (.leaf .int) (.t 33) (.k (.int .i64 0))),
 oD 35 (.pick (.t 31) (.k (.bool true)) (.t 34))])
 (.keep [0, 3, 10, 11, 12, 35]))
 (.cond (.t 35) (.seq (.seq (.ops none [oD 36 (.mov (.t 11)),
 oD 8 (.mov (.k .nilslice)),
 oD 9 (.mov (.t 36))])
 (.keep [8, 9]))
 .ret)
 .skip))
 (.seq (.seq (.ops none [oD 37 (.mov (.t 0)),
 oD 38 (.mov (.t 10)),
 oD 39 (.mov (.t 3)),
 oD 40 (.mov (.t 12)),
 oD 41 (.call 201 [(.t 37), (.t 38), (.t 39), (.t 40)]),
 oD 42 (.extract 0 (.t 41)),
 oD 43 (.extract 1 (.t 41)),
 oD 8 (.mov (.t 42)),
 oD 9 (.mov (.t 43))])
 (.keep [8, 9]))
 .ret))))))
  results := [.tmp 8, .tmp 9]
theorem ok181 : FnOK Tryz.prog pureL 181 a181 := ⟨Tryz.f181, [(0, [0, 2, 3, 5]), (1, [0, 3, 10, 11]), (2, [0, 3, 10, 11, 21]), (3, [8, 9]), (4, [0, 3, 10, 11, 12]), (5, [0, 3, 10, 11, 12, 35]), (6, [8, 9]), (7, [8, 9])], [], Tryz.func181, by kernel_rfl⟩
/-- stylus/lay.Note -/
def a182 : AFunc where
  body :=
  (.seq (.seq (.ops none [oD 5 (.box (.t 1)),
 oD 8 (.mov (.k .nilslice)),
 oD 9 (.mov (.k (.int .i64 0)))])
 (.keep [0, 2, 3, 5]))
 (.seq (.seq (.ops none [oD 20 (.mov (.t 0)),
 oD 21 (.loadN 131 (.t 5)),
 oD 22 (.mov (.t 2)),
 oD 23 (.call 199 [(.t 20), (.t 21), (.t 22)]),
 oD 19 (.mov (.t 23)),
 oD 24 (.extract 0 (.t 19)),
 oD 25 (.extract 1 (.t 19)),
 oD 10 (.mov (.t 24)),
 oD 11 (.mov (.t 25))])
 (.keep [0, 2, 3, 10, 11]))
 (.seq (.seq (.seq (.ops none [oD 26 (.mov (.t 11)),
 oD 27 (.eq true (.leaf .int) (.t 26) (.k (.int .i64 0)))])
 (.keep [0, 2, 3, 10, 11, 27]))
 (.cond (.t 27) (.seq (.seq (.ops none [oD 28 (.mov (.t 11)),
 oD 8 (.mov (.k .nilslice)),
 oD 9 (.mov (.t 28))])
 (.keep [8, 9]))
 .ret)
 .skip))
 (.seq (.seq (.seq (.ops none [oD 29 (.mov (.t 0)),
 oD 30 (.mov (.t 2)),
 oD 31 (.idxSl 3 (.t 29) (.t 30)),
 oD 32 (.fieldAddr 1 (.t 31)),
 oD 33 (.load1 (.t 32)),
 oD 34 (.eq true (.leaf .int) (.t 33) (.k (.int .u8 110)))])
 (.keep [0, 3, 10, 34]))
 (.cond (.t 34) (.seq (.seq (.ops none [oD 8 (.mov (.k .nilslice)),
 oD 9 (.mov (.k (.int .i64 1)))])
 (.keep [8, 9]))
 .ret)
 .skip))
 (.seq (.seq (.ops none [oD 36 (.mov (.t 10)),
 oD 37 (.mov (.t 3)),
 oD 38 (.call 202 [(.t 36), (.t 37)]),
 oD 35 (.mov (.t 38)),
 oD 39 (.extract 0 (.t 35)),
 oD 40 (.extract 1 (.t 35)),
 oD 12 (.mov (.t 39)),
 oD 11 (.mov (.t 40))])
 (.keep [0, 3, 10, 11, 12]))
 (.seq (.seq (.seq (.ops none [oD 41 (.mov (.t 11)),
 oD 42 (.eq true (.leaf .int) (.t 41) (.k (.int .i64 0))),
 oD 43 (.mov (.t 42)),
 oG 44 43 false (.mov (.t 10)),
 oG 45 43 false (.len .slice (.t 44)),
 oG 46 43 false (.eq false (.leaf .int) (.t 45) (.k (.int .i64 0))),
 oD 47 (.pick (.t 43) (.k (.bool true)) (.t 46))])
 (.keep [0, 3, 10, 11, 12, 47]))
 (.cond (.t 47) (.seq (.seq (.ops none [oD 48 (.mov (.t 11)),
 oD 8 (.mov (.k .nilslice)),
 oD 9 (.mov (.t 48))])
 (.keep [8, 9]))
 .ret)
 .skip))
 (.seq (.seq (.ops none [oD 13 (.mov (.k .nilslice))])
 (.keep [0, 3, 10, 12, 13]))
 (.seq (.seq (.ops none [oD 14 (.mov (.k (.int .i64 0)))])
 (.keep [0, 3, 10, 12, 13, 14]))
 (.seq (.seq (.seq (.ops none [oD 49 (.mov (.t 12)),
 oD 50 (.len .slice (.t 49)),
 oD 51 (.mov (.k (.int .i64 0)))])
 (.keep [0, 3, 10, 13, 14, 49, 50, 51]))
 (.block 0 (.loop (.seq (.keep [0, 3, 10, 13, 14, 49, 50, 51])
 (.seq (.seq (.ops none [oD 52 (.bin .lss (.t 51) (.t 50))])
 (.keep [0, 3, 10, 13, 14, 49, 50, 51, 52]))
 (.seq (.cond (.t 52) .skip
 (.exit 0))
 (.seq (.block 1 (.seq (.seq (.ops none [oD 53 (.idxSl 1 (.t 49) (.t 51)),
 oD 54 (.load1 (.t 53)),
 oD 16 (.mov (.t 54))])
 (.keep [0, 3, 10, 13, 14, 16, 49, 50, 51]))
 (.seq (.seq (.ops none [oD 56 (.mov (.t 0)),
 oD 57 (.mov (.t 10)),
 oD 58 (.mov (.t 14)),
 oD 59 (.mov (.t 16)),
 oD 60 (.sliceSl 5 (.t 57) (some (.t 58)) (some (.t 59))),
 oD 61 (.mov (.t 3)),
 oD 62 (.mov (.t 16)),
 oD 63 (.mov (.t 14)),
 oD 64 (.bin .sub (.t 62) (.t 63)),
 oD 65 (.buildSlice [(.int .i64 0)] 1 1 [(0, 1, (.t 64))]),
 oD 66 (.call 201 [(.t 56), (.t 60), (.t 61), (.t 65)]),
 oD 55 (.mov (.t 66)),
 oD 67 (.extract 0 (.t 55)),
 oD 68 (.extract 1 (.t 55)),
 oD 17 (.mov (.t 67)),
 oD 18 (.mov (.t 68))])
 (.keep [0, 3, 10, 13, 16, 17, 49, 50, 51]))
 (.seq (.ops none [oD 69 (.mov (.t 13)),
 oD 70 (.mov (.t 17)),
 oD 71 (.append 3 (.t 69) (.t 70)),
 oD 72 (.mov (.t 16)),
 oD 73 (.bin .add (.t 72) (.k (.int .i64 1))),
 oD 13 (.mov (.t 71)),
 oD 14 (.mov (.t 73))])
 (.keep [0, 3, 10, 13, 14, 49, 50, 51])))))
 (.seq (.ops none [oD 74 (.bin .add (.t 51) (.k (.int .i64 1))),
 oD 51 (.mov (.t 74))])
 (.keep [0, 3, 10, 13, 14, 49, 50, 51])))))))))
 (.seq (.seq (.ops none [oD 75 (.mov (.t 13)),
 oD 8 (.mov (.t 75)),
 oD 9 (.mov (.k (.int .i64 0)))])
 (.keep [8, 9]))
 .ret))))))))))
  results := [.tmp 8, .tmp 9]
theorem ok182 : FnOK Tryz.prog pureL 182 a182 := ⟨Tryz.f182, [(0, [0, 2, 3, 5]), (1, [0, 2, 3, 10, 11]), (2, [0, 2, 3, 10, 11, 27]), (3, [8, 9]), (4, [0, 3, 10, 34]), (5, [8, 9]), (6, [0, 3, 10, 11, 12]), (7, [0, 3, 10, 11, 12, 47]), (8, [8, 9]), (9, [0, 3, 10, 12, 13]), (10, [0, 3, 10, 12, 13, 14]), (11, [0, 3, 10, 13, 14, 49, 50, 51]), (12, [0, 3, 10, 13, 14, 49, 50, 51, 52]), (13, [0, 3, 10, 13, 14, 16, 49, 50, 51]), (14, [0, 3, 10, 13, 16, 17, 49, 50, 51]), (15, [0, 3, 10, 13, 14, 49, 50, 51]), (16, [0, 3, 10, 13, 14, 49, 50, 51]), (17, [8, 9])], [(0, [0, 3, 10, 13, 14, 49, 50, 51])], Tryz.func182, by kernel_rfl⟩
/-- slices.ContainsFunc[[][]stylus/api.Line,[]stylus/api.Line] -/
def a183 : AFunc where
  body :=
  (.seq (.seq (.ops none [oD 4 (.mov (.k (.bool false)))])
 (.keep [0, 1]))
 (.seq (.seq (.ops none [oD 5 (.mov (.t 0)),
 oD 6 (.mov (.t 1)),
 oD 7 (.call 203 [(.t 5), (.t 6)]),
 oD 8 (.bin .geq (.t 7) (.k (.int .i64 0))),
 oD 4 (.mov (.t 8))])
 (.keep [4]))
 .ret))
  results := [.tmp 4]
theorem ok183 : FnOK Tryz.prog pureL 183 a183 := ⟨Tryz.f183, [(0, [0, 1]), (1, [4])], [], Tryz.func183, by kernel_rfl⟩
/-- stylus/lay.beside$1 -/
def a184 : AFunc where
  body :=
  (.seq (.seq (.ops none [oD 2 (.mov (.k (.bool false)))])
 (.keep [0]))
 (.seq (.seq (.ops none [oD 3 (.mov (.k (.func (.fn 185) [] [])))])
 (.keep [0, 3]))
 (.seq (.seq (.ops none [oD 4 (.mov (.t 0)),
 oD 5 (.len .slice (.t 4)),
 oD 6 (.bin .gtr (.t 5) (.k (.int .i64 4))),
 oD 7 (.mov (.t 6)),
 oG 8 7 false (.mov (.t 0)),
 oG 9 7 false (.mov (.t 3)),
 oG 10 7 false (.call 186 [(.t 8), (.t 9)]),
 oD 11 (.pick (.t 7) (.k (.bool true)) (.t 10)),
 oD 2 (.mov (.t 11))])
 (.keep [2]))
 .ret)))
  results := [.tmp 2]
theorem ok184 : FnOK Tryz.prog pureL 184 a184 := ⟨Tryz.f184, [(0, [0]), (1, [0, 3]), (2, [2])], [], Tryz.func184, by kernel_rfl⟩
/-- stylus/lay.beside$1$1 -/
def a185 : AFunc where
  body :=
  (.seq (.seq (.ops none [oD 1 (.box (.t 0)),
 oD 2 (.mov (.k (.bool false)))])
 (.keep [1]))
 (.seq (.seq (.ops none [oD 3 (.fieldAddr 2 (.t 1)),
 oD 4 (.load1 (.t 3)),
 oD 5 (.bin .and (.t 4) (.k (.int .i64 1))),
 oD 6 (.eq true (.leaf .int) (.t 5) (.k (.int .i64 0))),
 oD 2 (.mov (.t 6))])
 (.keep [2]))
 .ret))
  results := [.tmp 2]
theorem ok185 : FnOK Tryz.prog pureL 185 a185 := ⟨Tryz.f185, [(0, [1]), (1, [2])], [], Tryz.func185, by kernel_rfl⟩
/-- slices.ContainsFunc[[]stylus/api.Line,stylus/api.Line] -/
def a186 : AFunc where
  body :=
  (.seq (.seq (.ops none [oD 4 (.mov (.k (.bool false)))])
 (.keep [0, 1]))
 (.seq (.seq (.ops none [oD 5 (.mov (.t 0)),
 oD 6 (.mov (.t 1)),
 oD 7 (.call 204 [(.t 5), (.t 6)]),
 oD 8 (.bin .geq (.t 7) (.k (.int .i64 0))),
 oD 4 (.mov (.t 8))])
 (.keep [4]))
 .ret))
  results := [.tmp 4]
theorem ok186 : FnOK Tryz.prog pureL 186 a186 := ⟨Tryz.f186, [(0, [0, 1]), (1, [4])], [], Tryz.func186, by kernel_rfl⟩
/-- stylus/chars.classes -/
def a187 : AFunc where
  body :=
  (.seq (.seq (.ops none [oD 0 (.alloc (List.replicate 28 (.int .u64 0)))])
 (.keep [0]))
 (.seq (.seq (.ops none [oD 1 (.call 205 [(.k (.str [97, 98, 99, 100, 101, 102, 103, 104, 105, 106, 107, 108, 109, 110, 111, 112, 113, 114, 115, 116, 117, 118, 119, 120, 121, 122]))]),
 oD 2 (.call 205 [(.k (.str [65, 66, 67, 68, 69, 70, 71, 72, 73, 74, 75, 76, 77, 78, 79, 80, 81, 82, 83, 84, 85, 86, 87, 88, 89, 90]))]),
 oD 3 (.call 205 [(.k (.str [48, 49, 50, 51, 52, 53, 54, 55, 56, 57]))]),
 oD 4 (.call 206 []),
 oD 5 (.call 205 [(.t 4)]),
 oD 6 (.call 205 [(.k (.str [32]))]),
 oD 7 (.call 205 [(.k (.str [10]))]),
 oD 8 (.build (List.replicate 28 (.int .u64 0)) [(4, 4, (.t 1)), (8, 4, (.t 2)), (12, 4, (.t 3)), (16, 4, (.t 5)), (20, 4, (.t 6)), (24, 4, (.t 7))]),
 oN (.store 28 (.t 0) (.t 8))])
 (.keep [0]))
 .ret))
  results := [.cellN 0 28]
theorem ok187 : FnOK Tryz.prog pureL 187 a187 := ⟨Tryz.f187, [(0, [0]), (1, [0])], [], Tryz.func187, by kernel_rfl⟩
/-- (stylus/chars.bits).has -/
def a188 : AFunc where
  body :=
  (.seq (.seq (.ops none [oD 2 (.box (.t 0)),
 oD 4 (.mov (.k (.bool false)))])
 (.keep [1, 2]))
 (.seq (.seq (.ops none [oD 5 (.mov (.t 1)),
 oD 6 (.bin .shr (.t 5) (.k (.int .u64 6))),
 oD 7 (.idxArr 4 1 (.t 2) (.t 6)),
 oD 8 (.load1 (.t 7)),
 oD 9 (.mov (.t 1)),
 oD 10 (.bin .and (.t 9) (.k (.int .u8 63))),
 oD 11 (.bin .shr (.t 8) (.t 10)),
 oD 12 (.bin .and (.t 11) (.k (.int .u64 1))),
 oD 13 (.eq false (.leaf .int) (.t 12) (.k (.int .u64 1))),
 oD 4 (.mov (.t 13))])
 (.keep [4]))
 .ret))
  results := [.tmp 4]
theorem ok188 : FnOK Tryz.prog pureL 188 a188 := ⟨Tryz.f188, [(0, [1, 2]), (1, [4])], [], Tryz.func188, by kernel_rfl⟩
/-- strings.indexFunc -/
def a189 : AFunc where
  body :=
  (.seq (.seq (.ops none [oD 6 (.mov (.k (.int .i64 0)))])
 (.keep [0, 1, 2]))
 (.seq (.seq (.seq (.ops none [oD 9 (.mov (.t 0)),
 oD 10 (.range (.t 9))])
 (.keep [1, 2, 10]))
 (.block 0 (.loop (.seq (.keep [1, 2, 10])
 (.seq (.seq (.ops none [oD 11 (.next (.t 10)),
 oD 12 (.extract 0 (.t 11))])
 (.keep [1, 2, 10, 11, 12]))
 (.seq (.cond (.t 12) .skip
 (.exit 0))
 (.block 1 (.seq (.seq (.ops none [oD 13 (.extract 1 (.t 11)),
 oD 14 (.extract 2 (.t 11)),
 oD 7 (.mov (.t 13)),
 oD 8 (.mov (.t 14))])
 (.keep [1, 2, 7, 8, 10]))
 (.seq (.seq (.ops none [oD 15 (.mov (.t 1)),
 oD 16 (.mov (.t 8)),
 oD 17 (.callv (.t 15) [(.t 16)]),
 oD 18 (.mov (.t 2)),
 oD 19 (.eq false (.leaf .bool) (.t 17) (.t 18))])
 (.keep [1, 2, 7, 10, 19]))
 (.cond (.t 19) (.seq (.seq (.ops none [oD 20 (.mov (.t 7)),
 oD 6 (.mov (.t 20))])
 (.keep [6]))
 .ret)
 .skip))))))))))
 (.seq (.seq (.ops none [oD 6 (.mov (.k (.int .i64 (-1))))])
 (.keep [6]))
 .ret)))
  results := [.tmp 6]
theorem ok189 : FnOK Tryz.prog pureL 189 a189 := ⟨Tryz.f189, [(0, [0, 1, 2]), (1, [1, 2, 10]), (2, [1, 2, 10, 11, 12]), (3, [1, 2, 7, 8, 10]), (4, [1, 2, 7, 10, 19]), (5, [6]), (6, [6])], [(0, [1, 2, 10])], Tryz.func189, by kernel_rfl⟩
/-- internal/stringslite.HasSuffix -/
def a190 : AFunc where
  body :=
  (.seq (.seq (.ops none [oD 4 (.mov (.k (.bool false)))])
 (.keep [0, 1]))
 (.seq (.seq (.ops none [oD 5 (.mov (.t 0)),
 oD 6 (.len .str (.t 5)),
 oD 7 (.mov (.t 1)),
 oD 8 (.len .str (.t 7)),
 oD 9 (.bin .geq (.t 6) (.t 8)),
 oD 10 (.mov (.t 9)),
 oG 11 10 true (.mov (.t 0)),
 oG 12 10 true (.mov (.t 0)),
 oG 13 10 true (.len .str (.t 12)),
 oG 14 10 true (.mov (.t 1)),
 oG 15 10 true (.len .str (.t 14)),
 oG 16 10 true (.bin .sub (.t 13) (.t 15)),
 oG 17 10 true (.sliceStr (.t 11) (some (.t 16)) none),
 oG 18 10 true (.mov (.t 1)),
 oG 19 10 true (.eq false (.leaf .str) (.t 17) (.t 18)),
 oD 20 (.pick (.t 10) (.t 19) (.k (.bool false))),
 oD 4 (.mov (.t 20))])
 (.keep [4]))
 .ret))
  results := [.tmp 4]
theorem ok190 : FnOK Tryz.prog pureL 190 a190 := ⟨Tryz.f190, [(0, [0, 1]), (1, [4])], [], Tryz.func190, by kernel_rfl⟩
/-- internal/stringslite.HasPrefix -/
def a191 : AFunc where
  body :=
  (.seq (.seq (.ops none [oD 4 (.mov (.k (.bool false)))])
 (.keep [0, 1]))
 (.seq (.seq (.ops none [oD 5 (.mov (.t 0)),
 oD 6 (.len .str (.t 5)),
 oD 7 (.mov (.t 1)),
 oD 8 (.len .str (.t 7)),
 oD 9 (.bin .geq (.t 6) (.t 8)),
 oD 10 (.mov (.t 9)),
 oG 11 10 true (.mov (.t 0)),
 oG 12 10 true (.mov (.t 1)),
 oG 13 10 true (.len .str (.t 12)),
 oG 14 10 true (.sliceStr (.t 11) none (some (.t 13))),
 oG 15 10 true (.mov (.t 1)),
 oG 16 10 true (.eq false (.leaf .str) (.t 14) (.t 15)),
 oD 17 (.pick (.t 10) (.t 16) (.k (.bool false))),
 oD 4 (.mov (.t 17))])
 (.keep [4]))
 .ret))
  results := [.tmp 4]
theorem ok191 : FnOK Tryz.prog pureL 191 a191 := ⟨Tryz.f191, [(0, [0, 1]), (1, [4])], [], Tryz.func191, by kernel_rfl⟩
/-- unicode/utf8.decodeRuneInStringSlow -/
def a192 : AFunc where
  body :=
  (.seq (.seq (.ops none [oD 2 (.mov (.k (.int .i32 0))),
 oD 3 (.mov (.k (.int .i64 0)))])
 (.keep [0, 6, 9]))
 (.seq (.seq (.ops none [oD 13 (.mov (.t 0)),
 oD 14 (.len .str (.t 13)),
 oD 4 (.mov (.t 14))])
 (.keep [0, 4, 6, 9]))
 (.seq (.seq (.seq (.ops none [oD 15 (.mov (.t 4)),
 oD 16 (.bin .lss (.t 15) (.k (.int .i64 1)))])
 (.keep [0, 4, 6, 9, 16]))
 (.cond (.t 16) (.seq (.seq (.ops none [oD 2 (.mov (.k (.int .i32 65533))),
 oD 3 (.mov (.k (.int .i64 0)))])
 (.keep [2, 3]))
 .ret)
 .skip))
 (.seq (.seq (.ops none [oD 17 (.mov (.t 0)),
 oD 18 (.indexStr (.t 17) (.k (.int .i64 0))),
 oD 5 (.mov (.t 18))])
 (.keep [0, 4, 5, 6, 9]))
 (.seq (.ops none [oN (.nilCheck (.k .nilptr))])
 (.seq (.seq (.seq (.ops none [oD 22 (.mov (.t 6)),
 oD 23 (.bin .geq (.t 22) (.k (.int .u8 240)))])
 (.keep [0, 4, 5, 6, 9, 23]))
 (.cond (.t 23) (.seq (.seq (.ops none [oD 24 (.mov (.t 6)),
 oD 25 (.convInt .i32 (.t 24)),
 oD 26 (.bin .shl (.t 25) (.k (.int .u64 31))),
 oD 27 (.bin .shr (.t 26) (.k (.int .u64 31))),
 oD 7 (.mov (.t 27))])
 (.keep [0, 7]))
 (.seq (.seq (.ops none [oD 28 (.mov (.t 0)),
 oD 29 (.indexStr (.t 28) (.k (.int .i64 0))),
 oD 30 (.convInt .i32 (.t 29)),
 oD 31 (.mov (.t 7)),
 oD 32 (.bin .andNot (.t 30) (.t 31)),
 oD 33 (.mov (.t 7)),
 oD 34 (.bin .and (.k (.int .i32 65533)) (.t 33)),
 oD 35 (.bin .or (.t 32) (.t 34)),
 oD 2 (.mov (.t 35)),
 oD 3 (.mov (.k (.int .i64 1)))])
 (.keep [2, 3]))
 .ret))
 .skip))
 (.seq (.seq (.ops none [oD 36 (.mov (.t 6)),
 oD 37 (.bin .and (.t 36) (.k (.int .u8 7))),
 oD 38 (.convInt .i64 (.t 37)),
 oD 8 (.mov (.t 38))])
 (.keep [0, 4, 5, 8, 9]))
 (.seq (.ops none [oN (.nilCheck (.k .nilptr))])
 (.seq (.seq (.seq (.ops none [oD 43 (.mov (.t 4)),
 oD 44 (.mov (.t 8)),
 oD 45 (.bin .lss (.t 43) (.t 44))])
 (.keep [0, 5, 8, 9, 45]))
 (.cond (.t 45) (.seq (.seq (.ops none [oD 2 (.mov (.k (.int .i32 65533))),
 oD 3 (.mov (.k (.int .i64 1)))])
 (.keep [2, 3]))
 .ret)
 .skip))
 (.seq (.seq (.ops none [oD 46 (.mov (.t 0)),
 oD 47 (.indexStr (.t 46) (.k (.int .i64 1))),
 oD 10 (.mov (.t 47))])
 (.keep [0, 5, 8, 9, 10]))
 (.seq (.seq (.seq (.ops none [oD 48 (.mov (.t 10)),
 oD 49 (.fieldAddr 0 (.t 9)),
 oD 50 (.load1 (.t 49)),
 oD 51 (.bin .lss (.t 48) (.t 50)),
 oD 52 (.mov (.t 51)),
 oG 53 52 false (.fieldAddr 1 (.t 9)),
 oG 54 52 false (.load1 (.t 53)),
 oG 55 52 false (.mov (.t 10)),
 oG 56 52 false (.bin .lss (.t 54) (.t 55)),
 oD 57 (.pick (.t 52) (.k (.bool true)) (.t 56))])
 (.keep [0, 5, 8, 10, 57]))
 (.cond (.t 57) (.seq (.seq (.ops none [oD 2 (.mov (.k (.int .i32 65533))),
 oD 3 (.mov (.k (.int .i64 1)))])
 (.keep [2, 3]))
 .ret)
 .skip))
 (.seq (.seq (.seq (.ops none [oD 58 (.mov (.t 8)),
 oD 59 (.bin .leq (.t 58) (.k (.int .i64 2)))])
 (.keep [0, 5, 8, 10, 59]))
 (.cond (.t 59) (.seq (.seq (.ops none [oD 60 (.mov (.t 5)),
 oD 61 (.bin .and (.t 60) (.k (.int .u8 31))),
 oD 62 (.convInt .i32 (.t 61)),
 oD 63 (.bin .shl (.t 62) (.k (.int .u64 6))),
 oD 64 (.mov (.t 10)),
 oD 65 (.bin .and (.t 64) (.k (.int .u8 63))),
 oD 66 (.convInt .i32 (.t 65)),
 oD 67 (.bin .or (.t 63) (.t 66)),
 oD 2 (.mov (.t 67)),
 oD 3 (.mov (.k (.int .i64 2)))])
 (.keep [2, 3]))
 .ret)
 .skip))
 (.seq (.seq (.ops none [oD 68 (.mov (.t 0)),
 oD 69 (.indexStr (.t 68) (.k (.int .i64 2))),
 oD 11 (.mov (.t 69))])
 (.keep [0, 5, 8, 10, 11]))
 (.seq (.seq (.seq (.ops none [oD 70 (.mov (.t 11)),
 oD 71 (.bin .lss (.t 70) (.k (.int .u8 128))),
 oD 72 (.mov (.t 71)),
 oG 73 72 false (.mov (.t 11)),
 oG 74 72 false (.bin .lss (.k (.int .u8 191)) (.t 73)),
 oD 75 (.pick (.t 72) (.k (.bool true)) (.t 74))])
 (.keep [0, 5, 8, 10, 11, 75]))
 (.cond (.t 75) (.seq (.seq (.ops none [oD 2 (.mov (.k (.int .i32 65533))),
 oD 3 (.mov (.k (.int .i64 1)))])
 (.keep [2, 3]))
 .ret)
 .skip))
 (.seq (.seq (.seq (.ops none [oD 76 (.mov (.t 8)),
 oD 77 (.bin .leq (.t 76) (.k (.int .i64 3)))])
 (.keep [0, 5, 10, 11, 77]))
 (.cond (.t 77) (.seq (.seq (.ops none [oD 78 (.mov (.t 5)),
 oD 79 (.bin .and (.t 78) (.k (.int .u8 15))),
 oD 80 (.convInt .i32 (.t 79)),
 oD 81 (.bin .shl (.t 80) (.k (.int .u64 12))),
 oD 82 (.mov (.t 10)),
 oD 83 (.bin .and (.t 82) (.k (.int .u8 63))),
 oD 84 (.convInt .i32 (.t 83)),
 oD 85 (.bin .shl (.t 84) (.k (.int .u64 6))),
 oD 86 (.bin .or (.t 81) (.t 85)),
 oD 87 (.mov (.t 11)),
 oD 88 (.bin .and (.t 87) (.k (.int .u8 63))),
 oD 89 (.convInt .i32 (.t 88)),
 oD 90 (.bin .or (.t 86) (.t 89)),
 oD 2 (.mov (.t 90)),
 oD 3 (.mov (.k (.int .i64 3)))])
 (.keep [2, 3]))
 .ret)
 .skip))
 (.seq (.seq (.ops none [oD 91 (.mov (.t 0)),
 oD 92 (.indexStr (.t 91) (.k (.int .i64 3))),
 oD 12 (.mov (.t 92))])
 (.keep [5, 10, 11, 12]))
 (.seq (.seq (.seq (.ops none [oD 93 (.mov (.t 12)),
 oD 94 (.bin .lss (.t 93) (.k (.int .u8 128))),
 oD 95 (.mov (.t 94)),
 oG 96 95 false (.mov (.t 12)),
 oG 97 95 false (.bin .lss (.k (.int .u8 191)) (.t 96)),
 oD 98 (.pick (.t 95) (.k (.bool true)) (.t 97))])
 (.keep [5, 10, 11, 12, 98]))
 (.cond (.t 98) (.seq (.seq (.ops none [oD 2 (.mov (.k (.int .i32 65533))),
 oD 3 (.mov (.k (.int .i64 1)))])
 (.keep [2, 3]))
 .ret)
 .skip))
 (.seq (.seq (.ops none [oD 99 (.mov (.t 5)),
 oD 100 (.bin .and (.t 99) (.k (.int .u8 7))),
 oD 101 (.convInt .i32 (.t 100)),
 oD 102 (.bin .shl (.t 101) (.k (.int .u64 18))),
 oD 103 (.mov (.t 10)),
 oD 104 (.bin .and (.t 103) (.k (.int .u8 63))),
 oD 105 (.convInt .i32 (.t 104)),
 oD 106 (.bin .shl (.t 105) (.k (.int .u64 12))),
 oD 107 (.bin .or (.t 102) (.t 106)),
 oD 108 (.mov (.t 11)),
 oD 109 (.bin .and (.t 108) (.k (.int .u8 63))),
 oD 110 (.convInt .i32 (.t 109)),
 oD 111 (.bin .shl (.t 110) (.k (.int .u64 6))),
 oD 112 (.bin .or (.t 107) (.t 111)),
 oD 113 (.mov (.t 12)),
 oD 114 (.bin .and (.t 113) (.k (.int .u8 63))),
 oD 115 (.convInt .i32 (.t 114)),
 oD 116 (.bin .or (.t 112) (.t 115)),
 oD 2 (.mov (.t 116)),
 oD 3 (.mov (.k (.int .i64 4)))])
 (.keep [2, 3]))
 .ret))))))))))))))))))
  results := [.tmp 2, .tmp 3]
theorem ok192 : FnOK Tryz.prog pureL 192 a192 := ⟨Tryz.f192, [(0, [0, 6, 9]), (1, [0, 4, 6, 9]), (2, [0, 4, 6, 9, 16]), (3, [2, 3]), (4, [0, 4, 5, 6, 9]), (6, [0, 4, 5, 6, 9, 23]), (7, [0, 7]), (8, [2, 3]), (9, [0, 4, 5, 8, 9]), (11, [0, 5, 8, 9, 45]), (12, [2, 3]), (13, [0, 5, 8, 9, 10]), (14, [0, 5, 8, 10, 57]), (15, [2, 3]), (16, [0, 5, 8, 10, 59]), (17, [2, 3]), (18, [0, 5, 8, 10, 11]), (19, [0, 5, 8, 10, 11, 75]), (20, [2, 3]), (21, [0, 5, 10, 11, 77]), (22, [2, 3]), (23, [5, 10, 11, 12]), (24, [5, 10, 11, 12, 98]), (25, [2, 3]), (26, [2, 3])], [], Tryz.func192, by kernel_rfl⟩
/-- strings.IndexRune -/
def a193 : AFunc where
  body :=
  (.seq (.seq (.ops none [oD 4 (.mov (.k (.int .i64 0)))])
 (.keep [0, 1, 7]))
 (.block 0 (.seq (.seq (.ops none [oD 161 (.mov (.t 1)),
 oD 162 (.bin .leq (.k (.int .i32 0)) (.t 161)),
 oD 163 (.mov (.t 162)),
 oG 164 163 true (.mov (.t 1)),
 oG 165 163 true (.bin .lss (.t 164) (.k (.int .i32 128))),
 oD 166 (.pick (.t 163) (.t 165) (.k (.bool false))),
 oD 160 (.mov (.t 166))])
 (.keep [0, 1, 7, 160]))
 (.cond (.t 160) (.seq (.seq (.ops none [oD 167 (.mov (.t 0)),
 oD 168 (.mov (.t 1)),
 oD 169 (.convInt .u8 (.t 168)),
 oD 170 (.call 155 [(.t 167), (.t 169)]),
 oD 4 (.mov (.t 170))])
 (.keep [4]))
 .ret)
 (.seq (.seq (.ops none [oD 172 (.mov (.t 1)),
 oD 173 (.eq false (.leaf .int) (.t 172) (.k (.int .i32 65533))),
 oD 171 (.mov (.t 173))])
 (.keep [0, 1, 7, 171]))
 (.cond (.t 171) (.seq (.seq (.seq (.ops none [oD 174 (.mov (.t 0)),
 oD 175 (.range (.t 174))])
 (.keep [175]))
 (.block 9 (.loop (.seq (.keep [175])
 (.seq (.seq (.ops none [oD 176 (.next (.t 175)),
 oD 177 (.extract 0 (.t 176))])
 (.keep [175, 176, 177]))
 (.seq (.cond (.t 177) .skip
 (.exit 9))
 (.block 10 (.seq (.seq (.ops none [oD 178 (.extract 1 (.t 176)),
 oD 179 (.extract 2 (.t 176)),
 oD 5 (.mov (.t 178)),
 oD 6 (.mov (.t 179))])
 (.keep [5, 6, 175]))
 (.seq (.seq (.ops none [oD 180 (.mov (.t 6)),
 oD 181 (.eq false (.leaf .int) (.t 180) (.k (.int .i32 65533)))])
 (.keep [5, 175, 181]))
 (.cond (.t 181) (.seq (.seq (.ops none [oD 182 (.mov (.t 5)),
 oD 4 (.mov (.t 182))])
 (.keep [4]))
 .ret)
 .skip))))))))))
 (.seq (.seq (.ops none [oD 4 (.mov (.k (.int .i64 (-1))))])
 (.keep [4]))
 .ret))
 (.seq (.seq (.ops none [oD 184 (.mov (.t 1)),
 oD 185 (.call 207 [(.t 184)]),
 oD 186 (.un .not (.t 185)),
 oD 183 (.mov (.t 186))])
 (.keep [0, 7, 183]))
 (.cond (.t 183) (.seq (.seq (.ops none [oD 4 (.mov (.k (.int .i64 (-1))))])
 (.keep [4]))
 .ret)
 (.seq (.ops none [oN (.nilCheck (.k .nilptr))])
 (.seq (.seq (.ops none [oD 19 (.mov (.t 7)),
 oD 20 (.len .str (.t 19)),
 oD 21 (.bin .sub (.t 20) (.k (.int .i64 1))),
 oD 8 (.mov (.t 21))])
 (.keep [0, 7, 8]))
 (.seq (.seq (.ops none [oD 22 (.mov (.t 8)),
 oD 9 (.mov (.t 22))])
 (.keep [0, 7, 8, 9]))
 (.seq (.seq (.ops none [oD 10 (.mov (.k (.int .i64 0)))])
 (.keep [0, 7, 8, 9]))
 (.seq (.block 1 (.loop (.seq (.keep [0, 7, 8, 9])
 (.seq (.seq (.seq (.ops none [oD 23 (.mov (.t 9)),
 oD 24 (.mov (.t 0)),
 oD 25 (.len .str (.t 24)),
 oD 26 (.bin .lss (.t 23) (.t 25))])
 (.keep [0, 7, 8, 9, 26]))
 (.cond (.t 26) .skip
 (.exit 1)))
 (.block 2 (.seq (.seq (.ops (some [0, 7, 8, 9, 33]) [oD 27 (.mov (.t 0)),
 oD 28 (.mov (.t 9)),
 oD 29 (.indexStr (.t 27) (.t 28)),
 oD 30 (.mov (.t 7)),
 oD 31 (.mov (.t 8)),
 oD 32 (.indexStr (.t 30) (.t 31)),
 oD 33 (.eq true (.leaf .int) (.t 29) (.t 32))])
 (.cond (.t 33) (.seq (.ops (some [0, 7, 8, 9, 11]) [oD 34 (.mov (.t 0)),
 oD 35 (.mov (.t 9)),
 oD 36 (.bin .add (.t 35) (.k (.int .i64 1))),
 oD 37 (.sliceStr (.t 34) (some (.t 36)) none),
 oD 38 (.mov (.t 7)),
 oD 39 (.mov (.t 8)),
 oD 40 (.indexStr (.t 38) (.t 39)),
 oD 41 (.call 155 [(.t 37), (.t 40)]),
 oD 11 (.mov (.t 41))])
 (.seq (.seq (.seq (.ops none [oD 42 (.mov (.t 11)),
 oD 43 (.bin .lss (.t 42) (.k (.int .i64 0)))])
 (.keep [0, 7, 8, 9, 11, 43]))
 (.cond (.t 43) (.seq (.seq (.ops none [oD 4 (.mov (.k (.int .i64 (-1))))])
 (.keep [4]))
 .ret)
 .skip))
 (.seq (.ops none [oD 44 (.mov (.t 9)),
 oD 45 (.mov (.t 11)),
 oD 46 (.bin .add (.t 45) (.k (.int .i64 1))),
 oD 47 (.bin .add (.t 44) (.t 46)),
 oD 9 (.mov (.t 47))])
 (.keep [0, 7, 8, 9]))))
 .skip))
 (.seq (.seq (.seq (.ops none [oD 12 (.mov (.k (.int .i64 1)))])
 (.keep [0, 7, 8, 9, 12]))
 (.block 3 (.loop (.seq (.keep [0, 7, 8, 9, 12])
 (.seq (.seq (.seq (.ops none [oD 48 (.mov (.t 12)),
 oD 49 (.mov (.t 7)),
 oD 50 (.len .str (.t 49)),
 oD 51 (.bin .lss (.t 48) (.t 50))])
 (.keep [0, 7, 8, 9, 12, 51]))
 (.cond (.t 51) .skip
 (.exit 3)))
 (.seq (.block 4 (.seq (.ops (some [0, 7, 8, 9, 12, 64]) [oD 54 (.mov (.t 0)),
 oD 55 (.mov (.t 9)),
 oD 56 (.mov (.t 12)),
 oD 57 (.bin .sub (.t 55) (.t 56)),
 oD 58 (.indexStr (.t 54) (.t 57)),
 oD 59 (.mov (.t 7)),
 oD 60 (.mov (.t 8)),
 oD 61 (.mov (.t 12)),
 oD 62 (.bin .sub (.t 60) (.t 61)),
 oD 63 (.indexStr (.t 59) (.t 62)),
 oD 64 (.eq true (.leaf .int) (.t 58) (.t 63))])
 (.cond (.t 64) (.ops none [oN (.nilCheck (.k .nilptr))])
 .skip)))
 (.seq (.ops none [oD 52 (.mov (.t 12)),
 oD 53 (.bin .add (.t 52) (.k (.int .i64 1))),
 oD 12 (.mov (.t 53))])
 (.keep [0, 7, 8, 9, 12]))))))))
 (.seq (.seq (.seq (.ops none [oD 65 (.mov (.t 9)),
 oD 66 (.mov (.t 8)),
 oD 67 (.bin .sub (.t 65) (.t 66)),
 oD 4 (.mov (.t 67))])
 (.keep [4]))
 .ret)
 (.seq .skip
 (.seq (.seq (.ops none [oD 68 (.mov (.t 10)),
 oD 69 (.bin .add (.t 68) (.k (.int .i64 1))),
 oD 10 (.mov (.t 69))])
 (.keep [0, 7, 8, 9, 10]))
 (.seq (.seq (.ops none [oD 70 (.mov (.t 9)),
 oD 71 (.bin .add (.t 70) (.k (.int .i64 1))),
 oD 9 (.mov (.t 71))])
 (.keep [0, 7, 8, 9, 10]))
 (.seq (.seq (.ops none [oD 72 (.mov (.k (.bool true))),
 oG 73 72 true (.mov (.t 10)),
 oG 74 72 true (.mov (.t 9)),
 oG 75 72 true (.call 208 [(.t 74)]),
 oG 76 72 true (.bin .gtr (.t 73) (.t 75)),
 oD 77 (.pick (.t 72) (.t 76) (.k (.bool false))),
 oD 78 (.mov (.t 77)),
 oG 79 78 true (.mov (.t 9)),
 oG 80 78 true (.mov (.t 0)),
 oG 81 78 true (.len .str (.t 80)),
 oG 82 78 true (.bin .lss (.t 79) (.t 81)),
 oD 83 (.pick (.t 78) (.t 82) (.k (.bool false))),
 oD 84 (.mov (.t 83)),
 oG 85 84 false (.mov (.k (.bool false))),
 oG 86 85 true (.mov (.t 10)),
 oG 87 85 true (.mov (.t 9)),
 oG 88 85 true (.bin .shr (.t 87) (.k (.int .u64 4))),
 oG 89 85 true (.bin .add (.k (.int .i64 4)) (.t 88)),
 oG 90 85 true (.bin .geq (.t 86) (.t 89)),
 oG 91 84 false (.pick (.t 85) (.t 90) (.k (.bool false))),
 oG 92 84 false (.mov (.t 91)),
 oG 93 92 true (.mov (.t 9)),
 oG 94 92 true (.mov (.t 0)),
 oG 95 92 true (.len .str (.t 94)),
 oG 96 92 true (.bin .lss (.t 93) (.t 95)),
 oG 97 84 false (.pick (.t 92) (.t 96) (.k (.bool false))),
 oD 98 (.pick (.t 84) (.k (.bool true)) (.t 97))])
 (.keep [0, 7, 8, 9, 98]))
 (.cond (.t 98) (.ops none [oN (.nilCheck (.k .nilptr))])
 .skip)))))))))))))
 (.seq (.seq (.seq (.ops none [oD 4 (.mov (.k (.int .i64 (-1))))])
 (.keep [4]))
 .ret)
 (.seq .skip
 (.seq (.cond (.k (.bool true)) (.seq (.ops none [oN (.nilCheck (.k .nilptr))])
 (.seq (.seq (.ops none [oD 107 (.mov (.t 13)),
 oD 108 (.bin .geq (.t 107) (.k (.int .i64 0)))])
 (.keep [8, 9, 13, 108]))
 (.cond (.t 108) (.seq (.seq (.ops none [oD 109 (.mov (.t 9)),
 oD 110 (.mov (.t 13)),
 oD 111 (.bin .add (.t 109) (.t 110)),
 oD 112 (.mov (.t 8)),
 oD 113 (.bin .sub (.t 111) (.t 112)),
 oD 4 (.mov (.t 113))])
 (.keep [4]))
 .ret)
 .skip)))
 (.seq (.seq (.ops none [oD 114 (.mov (.t 7)),
 oD 115 (.mov (.t 8)),
 oD 116 (.indexStr (.t 114) (.t 115)),
 oD 14 (.mov (.t 116))])
 (.keep [0, 7, 8, 9, 14]))
 (.seq (.seq (.ops none [oD 117 (.mov (.t 7)),
 oD 118 (.mov (.t 8)),
 oD 119 (.bin .sub (.t 118) (.k (.int .i64 1))),
 oD 120 (.indexStr (.t 117) (.t 119)),
 oD 15 (.mov (.t 120))])
 (.keep [0, 7, 8, 9, 14, 15]))
 (.seq .skip
 (.block 5 (.loop (.seq (.keep [0, 7, 8, 9, 14, 15])
 (.seq (.seq (.seq (.ops none [oD 121 (.mov (.t 9)),
 oD 122 (.mov (.t 0)),
 oD 123 (.len .str (.t 122)),
 oD 124 (.bin .lss (.t 121) (.t 123))])
 (.keep [0, 7, 8, 9, 14, 15, 124]))
 (.cond (.t 124) .skip
 (.exit 5)))
 (.seq (.block 6 (.seq (.seq (.ops none [oD 127 (.mov (.t 0)),
 oD 128 (.mov (.t 9)),
 oD 129 (.indexStr (.t 127) (.t 128)),
 oD 130 (.mov (.t 14)),
 oD 131 (.eq false (.leaf .int) (.t 129) (.t 130)),
 oD 132 (.mov (.t 131)),
 oG 133 132 true (.mov (.t 0)),
 oG 134 132 true (.mov (.t 9)),
 oG 135 132 true (.bin .sub (.t 134) (.k (.int .i64 1))),
 oG 136 132 true (.indexStr (.t 133) (.t 135)),
 oG 137 132 true (.mov (.t 15)),
 oG 138 132 true (.eq false (.leaf .int) (.t 136) (.t 137)),
 oD 139 (.pick (.t 132) (.t 138) (.k (.bool false)))])
 (.keep [0, 7, 8, 9, 14, 15, 139]))
 (.cond (.t 139) (.seq (.seq (.seq (.ops none [oD 16 (.mov (.k (.int .i64 2)))])
 (.keep [0, 7, 8, 9, 14, 15, 16]))
 (.block 7 (.loop (.seq (.keep [0, 7, 8, 9, 14, 15, 16])
 (.seq (.seq (.seq (.ops none [oD 140 (.mov (.t 16)),
 oD 141 (.mov (.t 7)),
 oD 142 (.len .str (.t 141)),
 oD 143 (.bin .lss (.t 140) (.t 142))])
 (.keep [0, 7, 8, 9, 14, 15, 16, 143]))
 (.cond (.t 143) .skip
 (.exit 7)))
 (.seq (.block 8 (.seq (.ops (some [0, 7, 8, 9, 14, 15, 16, 156]) [oD 146 (.mov (.t 0)),
 oD 147 (.mov (.t 9)),
 oD 148 (.mov (.t 16)),
 oD 149 (.bin .sub (.t 147) (.t 148)),
 oD 150 (.indexStr (.t 146) (.t 149)),
 oD 151 (.mov (.t 7)),
 oD 152 (.mov (.t 8)),
 oD 153 (.mov (.t 16)),
 oD 154 (.bin .sub (.t 152) (.t 153)),
 oD 155 (.indexStr (.t 151) (.t 154)),
 oD 156 (.eq true (.leaf .int) (.t 150) (.t 155))])
 (.cond (.t 156) (.exit 6)
 .skip)))
 (.seq (.ops none [oD 144 (.mov (.t 16)),
 oD 145 (.bin .add (.t 144) (.k (.int .i64 1))),
 oD 16 (.mov (.t 145))])
 (.keep [0, 7, 8, 9, 14, 15, 16]))))))))
 (.seq (.seq (.ops none [oD 157 (.mov (.t 9)),
 oD 158 (.mov (.t 8)),
 oD 159 (.bin .sub (.t 157) (.t 158)),
 oD 4 (.mov (.t 159))])
 (.keep [4]))
 .ret))
 .skip)))
 (.seq (.ops none [oD 125 (.mov (.t 9)),
 oD 126 (.bin .add (.t 125) (.k (.int .i64 1))),
 oD 9 (.mov (.t 126))])
 (.keep [0, 7, 8, 9, 14, 15])))))))))))
 (.seq (.seq (.ops none [oD 4 (.mov (.k (.int .i64 (-1))))])
 (.keep [4]))
 .ret)))))))))))))))))
  results := [.tmp 4]
theorem ok193 : FnOK Tryz.prog pureL 193 a193 := ⟨Tryz.f193, [(0, [0, 1, 7]), (34, [0, 1, 7, 160]), (36, [0, 1, 7, 171]), (43, [0, 7, 183]), (2, [0, 7, 8]), (3, [0, 7, 8, 9]), (4, [0, 7, 8, 9]), (5, [0, 7, 8, 9, 26]), (6, [0, 7, 8, 9, 33]), (7, [0, 7, 8, 9, 11]), (8, [0, 7, 8, 9, 11, 43]), (9, [4]), (10, [0, 7, 8, 9]), (11, [0, 7, 8, 9, 12]), (12, [0, 7, 8, 9, 12, 51]), (14, [0, 7, 8, 9, 12, 64]), (13, [0, 7, 8, 9, 12]), (15, [4]), (16, [0, 7, 8, 9, 10]), (17, [0, 7, 8, 9, 10]), (18, [0, 7, 8, 9, 98]), (19, [4]), (23, [0, 7, 8, 9, 14]), (24, [0, 7, 8, 9, 14, 15]), (25, [0, 7, 8, 9, 14, 15, 124]), (27, [0, 7, 8, 9, 14, 15, 139]), (28, [0, 7, 8, 9, 14, 15, 16]), (29, [0, 7, 8, 9, 14, 15, 16, 143]), (31, [0, 7, 8, 9, 14, 15, 16, 156]), (30, [0, 7, 8, 9, 14, 15, 16]), (32, [4]), (26, [0, 7, 8, 9, 14, 15]), (21, [8, 9, 13, 108]), (22, [4]), (33, [4]), (44, [4]), (37, [175]), (38, [175, 176, 177]), (39, [5, 6, 175]), (40, [5, 175, 181]), (41, [4]), (42, [4]), (35, [4])], [(1, [0, 7, 8, 9]), (3, [0, 7, 8, 9, 12]), (5, [0, 7, 8, 9, 14, 15]), (7, [0, 7, 8, 9, 14, 15, 16]), (9, [175])], Tryz.func193, by kernel_rfl⟩
/-- unicode/utf8.RuneStart -/
def a194 : AFunc where
  body :=
  (.seq (.seq (.ops none [oD 2 (.mov (.k (.bool false)))])
 (.keep [0]))
 (.seq (.seq (.ops none [oD 3 (.mov (.t 0)),
 oD 4 (.bin .and (.t 3) (.k (.int .u8 192))),
 oD 5 (.eq true (.leaf .int) (.t 4) (.k (.int .u8 128))),
 oD 2 (.mov (.t 5))])
 (.keep [2]))
 .ret))
  results := [.tmp 2]
theorem ok194 : FnOK Tryz.prog pureL 194 a194 := ⟨Tryz.f194, [(0, [0]), (1, [2])], [], Tryz.func194, by kernel_rfl⟩
/-- unicode/utf8.RuneCountInString -/
def a195 : AFunc where
  body :=
  (.seq (.seq (.ops none [oD 2 (.mov (.k (.int .i64 0)))])
 (.keep [0, 2]))
 (.seq (.seq (.seq (.ops none [oD 3 (.mov (.t 0)),
 oD 4 (.range (.t 3))])
 (.keep [2, 4]))
 (.block 0 (.loop (.seq (.keep [2, 4])
 (.seq (.seq (.ops none [oD 5 (.next (.t 4)),
 oD 6 (.extract 0 (.t 5))])
 (.keep [2, 4, 6]))
 (.seq (.cond (.t 6) .skip
 (.exit 0))
 (.block 1 (.seq (.ops none [oD 7 (.mov (.t 2)),
 oD 8 (.bin .add (.t 7) (.k (.int .i64 1))),
 oD 2 (.mov (.t 8))])
 (.keep [2, 4])))))))))
 (.seq (.seq (.ops none [oD 9 (.mov (.t 2)),
 oD 2 (.mov (.t 9))])
 (.keep [2]))
 .ret)))
  results := [.tmp 2]
theorem ok195 : FnOK Tryz.prog pureL 195 a195 := ⟨Tryz.f195, [(0, [0, 2]), (1, [2, 4]), (2, [2, 4, 6]), (3, [2, 4]), (4, [2])], [(0, [2, 4])], Tryz.func195, by kernel_rfl⟩
/-- internal/stringslite.Index -/
def a197 : AFunc where
  body :=
  (.seq (.seq (.ops none [oD 4 (.mov (.k (.int .i64 0)))])
 (.keep [0, 1, 36, 107, 132]))
 (.seq (.seq (.ops none [oD 14 (.mov (.t 1)),
 oD 15 (.len .str (.t 14)),
 oD 5 (.mov (.t 15))])
 (.keep [0, 1, 5, 36, 107, 132]))
 (.seq (.block 0 (.seq (.seq (.ops none [oD 17 (.mov (.t 5)),
 oD 18 (.eq false (.leaf .int) (.t 17) (.k (.int .i64 0))),
 oD 19 (.mov (.t 18)),
 oG 20 19 false (.mov (.t 1)),
 oG 21 19 false (.mov (.t 0)),
 oG 22 19 false (.eq false (.leaf .str) (.t 20) (.t 21)),
 oD 23 (.pick (.t 19) (.k (.bool true)) (.t 22)),
 oD 16 (.mov (.t 23))])
 (.keep [0, 1, 5, 16, 36, 107, 132]))
 (.cond (.t 16) (.seq (.seq (.ops none [oD 4 (.mov (.k (.int .i64 0)))])
 (.keep [4]))
 .ret)
 (.seq (.seq (.ops none [oD 25 (.mov (.t 5)),
 oD 26 (.eq false (.leaf .int) (.t 25) (.k (.int .i64 1))),
 oD 24 (.mov (.t 26))])
 (.keep [0, 1, 5, 24, 36, 107, 132]))
 (.cond (.t 24) (.seq (.seq (.ops none [oD 27 (.mov (.t 0)),
 oD 28 (.mov (.t 1)),
 oD 29 (.indexStr (.t 28) (.k (.int .i64 0))),
 oD 30 (.call 180 [(.t 27), (.t 29)]),
 oD 4 (.mov (.t 30))])
 (.keep [4]))
 .ret)
 (.seq (.seq (.ops none [oD 32 (.mov (.t 5)),
 oD 33 (.mov (.t 0)),
 oD 34 (.len .str (.t 33)),
 oD 35 (.bin .geq (.t 32) (.t 34)),
 oD 31 (.mov (.t 35))])
 (.keep [0, 1, 5, 31, 36, 107, 132]))
 (.cond (.t 31) (.seq (.seq (.ops none [oD 4 (.mov (.k (.int .i64 (-1))))])
 (.keep [4]))
 .ret)
 (.seq (.ops none [oN (.nilCheck (.k .nilptr))])
 (.cond (.t 36) (.seq (.seq (.ops none [oD 45 (.mov (.t 0)),
 oD 46 (.mov (.t 1)),
 oD 47 (.call 209 [(.t 45), (.t 46)]),
 oD 4 (.mov (.t 47))])
 (.keep [4]))
 .ret)
 .skip)))))))))
 (.seq (.seq (.ops none [oD 48 (.mov (.t 1)),
 oD 49 (.indexStr (.t 48) (.k (.int .i64 0))),
 oD 6 (.mov (.t 49))])
 (.keep [0, 1, 5, 6, 107, 132]))
 (.seq (.seq (.ops none [oD 50 (.mov (.t 1)),
 oD 51 (.indexStr (.t 50) (.k (.int .i64 1))),
 oD 7 (.mov (.t 51))])
 (.keep [0, 1, 5, 6, 7, 107, 132]))
 (.seq (.seq (.ops none [oD 8 (.mov (.k (.int .i64 0)))])
 (.keep [0, 1, 5, 6, 7, 8, 107, 132]))
 (.seq (.seq (.ops none [oD 52 (.mov (.t 0)),
 oD 53 (.len .str (.t 52)),
 oD 54 (.mov (.t 5)),
 oD 55 (.bin .sub (.t 53) (.t 54)),
 oD 56 (.bin .add (.t 55) (.k (.int .i64 1))),
 oD 9 (.mov (.t 56))])
 (.keep [0, 1, 5, 6, 7, 8, 9, 107, 132]))
 (.seq (.seq (.ops none [oD 10 (.mov (.k (.int .i64 0)))])
 (.keep [0, 1, 5, 6, 7, 8, 9, 10, 107, 132]))
 (.seq (.block 1 (.loop (.seq (.keep [0, 1, 5, 6, 7, 8, 9, 10, 107, 132])
 (.seq (.seq (.seq (.ops none [oD 57 (.mov (.t 8)),
 oD 58 (.mov (.t 9)),
 oD 59 (.bin .lss (.t 57) (.t 58))])
 (.keep [0, 1, 5, 6, 7, 8, 9, 10, 59, 107, 132]))
 (.cond (.t 59) .skip
 (.exit 1)))
 (.block 2 (.seq (.seq (.seq (.ops none [oD 60 (.mov (.t 0)),
 oD 61 (.mov (.t 8)),
 oD 62 (.indexStr (.t 60) (.t 61)),
 oD 63 (.mov (.t 6)),
 oD 64 (.eq true (.leaf .int) (.t 62) (.t 63))])
 (.keep [0, 1, 5, 6, 7, 8, 9, 10, 64, 107, 132]))
 (.cond (.t 64) (.seq (.seq (.ops none [oD 65 (.mov (.t 0)),
 oD 66 (.mov (.t 8)),
 oD 67 (.bin .add (.t 66) (.k (.int .i64 1))),
 oD 68 (.mov (.t 9)),
 oD 69 (.sliceStr (.t 65) (some (.t 67)) (some (.t 68))),
 oD 70 (.mov (.t 6)),
 oD 71 (.call 180 [(.t 69), (.t 70)]),
 oD 11 (.mov (.t 71))])
 (.keep [0, 1, 5, 6, 7, 8, 9, 10, 11, 107, 132]))
 (.seq (.seq (.seq (.ops none [oD 72 (.mov (.t 11)),
 oD 73 (.bin .lss (.t 72) (.k (.int .i64 0)))])
 (.keep [0, 1, 5, 6, 7, 8, 9, 10, 11, 73, 107, 132]))
 (.cond (.t 73) (.seq (.seq (.ops none [oD 4 (.mov (.k (.int .i64 (-1))))])
 (.keep [4]))
 .ret)
 .skip))
 (.seq (.ops none [oD 74 (.mov (.t 8)),
 oD 75 (.mov (.t 11)),
 oD 76 (.bin .add (.t 75) (.k (.int .i64 1))),
 oD 77 (.bin .add (.t 74) (.t 76)),
 oD 8 (.mov (.t 77))])
 (.keep [0, 1, 5, 6, 7, 8, 9, 10, 107, 132]))))
 .skip))
 (.seq (.seq (.seq (.ops none [oD 78 (.mov (.t 0)),
 oD 79 (.mov (.t 8)),
 oD 80 (.bin .add (.t 79) (.k (.int .i64 1))),
 oD 81 (.indexStr (.t 78) (.t 80)),
 oD 82 (.mov (.t 7)),
 oD 83 (.eq false (.leaf .int) (.t 81) (.t 82)),
 oD 84 (.mov (.t 83)),
 oG 85 84 true (.mov (.t 0)),
 oG 86 84 true (.mov (.t 8)),
 oG 87 84 true (.mov (.t 8)),
 oG 88 84 true (.mov (.t 5)),
 oG 89 84 true (.bin .add (.t 87) (.t 88)),
 oG 90 84 true (.sliceStr (.t 85) (some (.t 86)) (some (.t 89))),
 oG 91 84 true (.mov (.t 1)),
 oG 92 84 true (.eq false (.leaf .str) (.t 90) (.t 91)),
 oD 93 (.pick (.t 84) (.t 92) (.k (.bool false)))])
 (.keep [0, 1, 5, 6, 7, 8, 9, 10, 93, 107, 132]))
 (.cond (.t 93) (.seq (.seq (.ops none [oD 94 (.mov (.t 8)),
 oD 4 (.mov (.t 94))])
 (.keep [4]))
 .ret)
 .skip))
 (.seq (.seq (.ops none [oD 95 (.mov (.t 8)),
 oD 96 (.bin .add (.t 95) (.k (.int .i64 1))),
 oD 8 (.mov (.t 96))])
 (.keep [0, 1, 5, 6, 7, 8, 9, 10, 107, 132]))
 (.seq (.seq (.ops none [oD 97 (.mov (.t 10)),
 oD 98 (.bin .add (.t 97) (.k (.int .i64 1))),
 oD 10 (.mov (.t 98))])
 (.keep [0, 1, 5, 6, 7, 8, 9, 10, 107, 132]))
 (.seq (.ops none [oN (.nilCheck (.k .nilptr))])
 (.cond (.t 107) (.seq (.seq (.ops none [oD 108 (.mov (.t 0)),
 oD 109 (.mov (.t 8)),
 oD 110 (.sliceStr (.t 108) (some (.t 109)) none),
 oD 111 (.mov (.t 1)),
 oD 112 (.call 209 [(.t 110), (.t 111)]),
 oD 12 (.mov (.t 112))])
 (.keep [8, 12]))
 (.seq (.seq (.seq (.ops none [oD 113 (.mov (.t 12)),
 oD 114 (.bin .geq (.t 113) (.k (.int .i64 0)))])
 (.keep [8, 12, 114]))
 (.cond (.t 114) (.seq (.seq (.ops none [oD 115 (.mov (.t 12)),
 oD 116 (.mov (.t 8)),
 oD 117 (.bin .add (.t 115) (.t 116)),
 oD 4 (.mov (.t 117))])
 (.keep [4]))
 .ret)
 .skip))
 (.seq (.seq (.ops none [oD 4 (.mov (.k (.int .i64 (-1))))])
 (.keep [4]))
 .ret)))
 (.seq (.ops none [oN (.nilCheck (.k .nilptr))])
 (.cond (.t 132) (.seq (.seq (.ops none [oD 133 (.mov (.t 0)),
 oD 134 (.mov (.t 8)),
 oD 135 (.sliceStr (.t 133) (some (.t 134)) none),
 oD 136 (.mov (.t 1)),
 oD 137 (.call 210 [(.t 135), (.t 136)]),
 oD 13 (.mov (.t 137))])
 (.keep [8, 13]))
 (.seq (.seq (.seq (.ops none [oD 138 (.mov (.t 13)),
 oD 139 (.bin .lss (.t 138) (.k (.int .i64 0)))])
 (.keep [8, 13, 139]))
 (.cond (.t 139) (.seq (.seq (.ops none [oD 4 (.mov (.k (.int .i64 (-1))))])
 (.keep [4]))
 .ret)
 .skip))
 (.seq (.seq (.ops none [oD 140 (.mov (.t 8)),
 oD 141 (.mov (.t 13)),
 oD 142 (.bin .add (.t 140) (.t 141)),
 oD 4 (.mov (.t 142))])
 (.keep [4]))
 .ret)))
 .skip)))))))))))))
 (.seq (.seq (.ops none [oD 4 (.mov (.k (.int .i64 (-1))))])
 (.keep [4]))
 .ret))))))))))
  results := [.tmp 4]
theorem ok197 : FnOK Tryz.prog pureL 197 a197 := ⟨Tryz.f197, [(0, [0, 1, 36, 107, 132]), (1, [0, 1, 5, 36, 107, 132]), (2, [0, 1, 5, 16, 36, 107, 132]), (4, [0, 1, 5, 24, 36, 107, 132]), (6, [0, 1, 5, 31, 36, 107, 132]), (9, [4]), (7, [4]), (5, [4]), (3, [4]), (10, [0, 1, 5, 6, 107, 132]), (11, [0, 1, 5, 6, 7, 107, 132]), (12, [0, 1, 5, 6, 7, 8, 107, 132]), (13, [0, 1, 5, 6, 7, 8, 9, 107, 132]), (14, [0, 1, 5, 6, 7, 8, 9, 10, 107, 132]), (15, [0, 1, 5, 6, 7, 8, 9, 10, 59, 107, 132]), (16, [0, 1, 5, 6, 7, 8, 9, 10, 64, 107, 132]), (17, [0, 1, 5, 6, 7, 8, 9, 10, 11, 107, 132]), (18, [0, 1, 5, 6, 7, 8, 9, 10, 11, 73, 107, 132]), (19, [4]), (20, [0, 1, 5, 6, 7, 8, 9, 10, 107, 132]), (21, [0, 1, 5, 6, 7, 8, 9, 10, 93, 107, 132]), (22, [4]), (23, [0, 1, 5, 6, 7, 8, 9, 10, 107, 132]), (24, [0, 1, 5, 6, 7, 8, 9, 10, 107, 132]), (31, [8, 13]), (32, [8, 13, 139]), (33, [4]), (34, [4]), (26, [8, 12]), (27, [8, 12, 114]), (28, [4]), (29, [4]), (35, [4])], [(1, [0, 1, 5, 6, 7, 8, 9, 10, 107, 132])], Tryz.func197, by kernel_rfl⟩
/-- stylus/items.Of -/
def a199 : AFunc where
  body :=
  (.seq (.seq (.ops none [oD 4 (.box (.t 1)),
 oD 6 (.mov (.k .nilslice)),
 oD 7 (.mov (.k (.int .i64 0)))])
 (.keep [0, 2, 4, 6, 7]))
 (.seq (.seq (.seq (.ops none [oD 15 (.mov (.t 0)),
 oD 16 (.call 25 [(.t 15)]),
 oD 14 (.mov (.t 16)),
 oD 17 (.extract 0 (.t 14)),
 oD 18 (.extract 1 (.t 14)),
 oD 8 (.mov (.t 17)),
 oD 9 (.mov (.t 18))])
 (.keep [0, 2, 4, 6, 7, 9]))
 (.seq (.seq (.ops none [oD 19 (.mov (.t 9)),
 oD 20 (.eq true (.leaf .int) (.t 19) (.k (.int .i64 0)))])
 (.keep [0, 2, 4, 6, 7, 9, 20]))
 (.cond (.t 20) (.seq (.seq (.ops none [oD 21 (.mov (.t 9)),
 oD 6 (.mov (.k .nilslice)),
 oD 7 (.mov (.t 21))])
 (.keep [6, 7]))
 .ret)
 .skip)))
 (.seq (.seq (.seq (.ops none [oD 22 (.loadN 131 (.t 4)),
 oD 23 (.call 60 [(.t 22)]),
 oD 10 (.mov (.t 23))])
 (.keep [0, 2, 4, 6, 7, 10]))
 (.seq (.seq (.ops none [oD 24 (.mov (.t 10)),
 oD 25 (.eq true (.leaf .int) (.t 24) (.k (.int .i64 0)))])
 (.keep [0, 2, 4, 6, 7, 10, 25]))
 (.cond (.t 25) (.seq (.seq (.ops none [oD 26 (.mov (.t 10)),
 oD 6 (.mov (.k .nilslice)),
 oD 7 (.mov (.t 26))])
 (.keep [6, 7]))
 .ret)
 .skip)))
 (.seq (.seq (.seq (.ops none [oD 27 (.mov (.t 2)),
 oD 28 (.bin .lss (.t 27) (.k (.int .i64 0))),
 oD 29 (.mov (.t 28)),
 oG 30 29 false (.mov (.t 2)),
 oG 31 29 false (.mov (.t 0)),
 oG 32 29 false (.len .slice (.t 31)),
 oG 33 29 false (.bin .geq (.t 30) (.t 32)),
 oD 34 (.pick (.t 29) (.k (.bool true)) (.t 33)),
 oD 35 (.mov (.t 34)),
 oG 36 35 false (.mov (.t 0)),
 oG 37 35 false (.mov (.t 2)),
 oG 38 35 false (.idxSl 3 (.t 36) (.t 37)),
 oG 39 35 false (.loadN 3 (.t 38)),
 oG 40 35 false (.call 211 [(.t 39)]),
 oG 41 35 false (.un .not (.t 40)),
 oD 42 (.pick (.t 35) (.k (.bool true)) (.t 41))])
 (.keep [0, 2, 4, 6, 7, 42]))
 (.cond (.t 42) (.seq (.seq (.ops none [oD 6 (.mov (.k .nilslice)),
 oD 7 (.mov (.k (.int .i64 1)))])
 (.keep [6, 7]))
 .ret)
 .skip))
 (.seq (.seq (.ops none [oD 43 (.loadN 131 (.t 4)),
 oD 44 (.build [(.int .i64 0), (.int .i64 0), (.int .i64 0), (.int .i64 0), (.int .i64 0), (.int .i64 0), (.int .i64 0), (.int .i64 0), (.int .i64 0), (.int .i64 0), (.int .i64 0), (.int .i64 0), (.int .i64 0), (.int .i64 0), (.int .i64 0), (.int .i64 0), (.int .i64 0), (.int .i64 0), (.int .i64 0), (.int .i64 0), (.int .i64 0), (.int .i64 0), (.int .i64 0), (.int .i64 0), (.int .i64 0), (.int .i64 0), (.int .i64 0), (.int .i64 0), (.int .i64 0), (.int .i64 0), (.int .i64 0), (.int .i64 0), (.int .i64 0), (.int .i64 0), (.int .i64 0), (.int .i64 0), (.int .i64 0), (.int .i64 0), (.int .i64 0), (.int .i64 0), (.int .i64 0), (.int .i64 0), (.int .i64 0), (.int .i64 0), (.int .i64 0), (.int .i64 0), (.int .i64 0), (.int .i64 0), (.int .i64 0), (.int .i64 0), (.int .i64 0), (.int .i64 0), (.int .i64 0), (.int .i64 0), (.int .i64 0), (.int .i64 0), (.int .i64 0), (.int .i64 0), (.int .i64 0), (.int .i64 0), (.int .i64 0), (.int .i64 0), (.int .i64 0), (.int .i64 0), (.int .i64 0), (.int .i64 0), (.int .i64 0), (.int .i64 0), (.int .i64 0), (.int .i64 0), (.int .i64 0), (.int .i64 0), (.int .i64 0), (.int .i64 0), (.int .i64 0), (.int .i64 0), (.int .i64 0), (.int .i64 0), (.int .i64 0), (.int .i64 0), (.int .i64 0), (.int .i64 0), (.int .i64 0), (.int .i64 0), (.int .i64 0), (.int .i64 0), (.int .i64 0), (.int .i64 0), (.int .i64 0), (.int .i64 0), (.int .i64 0), (.int .i64 0), (.int .i64 0), (.int .i64 0), (.int .i64 0), (.int .i64 0), (.int .i64 0), (.int .i64 0), (.int .i64 0), (.int .i64 0), (.int .i64 0), (.int .i64 0), (.int .i64 0), (.int .i64 0), (.int .i64 0), (.int .i64 0), (.int .i64 0), (.int .i64 0), (.int .i64 0), (.int .i64 0), (.int .i64 0), (.int .i64 0), (.int .i64 0), (.int .i64 0), (.int .i64 0), (.int .i64 0), (.int .i64 0), (.int .i64 0), (.int .i64 0), (.int .i64 0), (.int .i64 0), (.int .i64 0), (.int .i64 0), (.int .i64 0), (.int .i64 0), (.int .i64 0), (.int .i64 0), (.int .i64 0), (.int .i64 0), (.int .i64 0), .nilslice, .nilslice, .nilslice, (.int .i64 0)] [(0, 131, (.t 43))]),
 oD 45 (.box (.t 44)),
 oD 11 (.alloc [.nilptr]),
 oN (.store 1 (.t 11) (.t 45))])
 (.keep [0, 2, 6, 7, 11]))
 (.seq (.seq (.seq (.ops none [oD 46 (.mov (.t 0)),
 oD 47 (.mov (.t 2)),
 oD 48 (.call 212 [(.t 46), (.t 47)])])
 (.keep [6, 7, 11, 48]))
 (.block 0 (.rangeFunc (.t 48) [49, 50] (.seq (.seq (.ops none [oD 12 (.mov (.t 49))])
 (.keep [11, 12, 50]))
 (.seq (.ops none [oD 13 (.alloc [(.int .i64 0), (.int .u8 0), (.int .i64 0)]),
 oN (.store 3 (.t 13) (.t 50))])
 (.keep [11, 12, 13])))
 (.block 1 (.seq (.ops none [oD 51 (.load1 (.t 11)),
 oD 52 (.mov (.t 12)),
 oD 53 (.loadN 3 (.t 13)),
 oD 54 (.call 213 [(.t 51), (.t 52), (.t 53)])])
 (.keep []))))))
 (.seq (.seq (.ops none [oD 55 (.load1 (.t 11)),
 oD 56 (.call 214 [(.t 55)])])
 (.keep [11]))
 (.seq (.seq (.ops none [oD 57 (.load1 (.t 11)),
 oD 58 (.nilCheck (.t 57)),
 oD 59 (.fieldAddr 131 (.t 58)),
 oD 60 (.load1 (.t 59)),
 oD 6 (.mov (.t 60)),
 oD 7 (.mov (.k (.int .i64 0)))])
 (.keep [6, 7]))
 .ret))))))))
  results := [.tmp 6, .tmp 7]
theorem ok199 : FnOK Tryz.prog pureL 199 a199 := ⟨Tryz.f199, [(0, [0, 2, 4, 6, 7]), (1, [0, 2, 4, 6, 7, 9]), (2, [0, 2, 4, 6, 7, 9, 20]), (3, [6, 7]), (4, [0, 2, 4, 6, 7, 10]), (5, [0, 2, 4, 6, 7, 10, 25]), (6, [6, 7]), (7, [0, 2, 4, 6, 7, 42]), (8, [6, 7]), (9, [0, 2, 6, 7, 11]), (10, [6, 7, 11, 48]), (11, [11, 12, 50]), (12, [11, 12, 13]), (13, []), (14, [11]), (15, [6, 7])], [], Tryz.func199, by kernel_rfl⟩
/-- stylus/best.Of -/
def a200 : AFunc where
  body :=
  (.seq (.seq (.ops none [oD 4 (.mov (.k .nilslice)),
 oD 5 (.mov (.k (.int .i64 0)))])
 (.keep [0, 1, 4, 5]))
 (.seq (.seq (.seq (.ops none [oD 17 (.mov (.t 0)),
 oD 18 (.mov (.t 1)),
 oD 19 (.call 215 [(.t 17), (.t 18)]),
 oD 6 (.mov (.t 19))])
 (.keep [0, 1, 4, 5, 6]))
 (.seq (.seq (.ops none [oD 20 (.mov (.t 6)),
 oD 21 (.eq true (.leaf .int) (.t 20) (.k (.int .i64 0)))])
 (.keep [0, 1, 4, 5, 6, 21]))
 (.cond (.t 21) (.seq (.seq (.ops none [oD 22 (.mov (.t 6)),
 oD 4 (.mov (.k .nilslice)),
 oD 5 (.mov (.t 22))])
 (.keep [4, 5]))
 .ret)
 .skip)))
 (.seq (.seq (.ops none [oD 23 (.mov (.t 0)),
 oD 24 (.mov (.t 1)),
 oD 25 (.call 216 [(.t 23), (.t 24)]),
 oD 7 (.alloc [.nilslice, (.int .i64 0), .nilslice]),
 oN (.store 3 (.t 7) (.t 25))])
 (.keep [0, 4, 5, 7]))
 (.seq (.seq (.ops none [oD 26 (.build [(.int .i64 0), (.int .i64 0), (.int .i64 0)] [(0, 1, (.k (.int .i64 (-1))))]),
 oD 27 (.buildSlice [(.int .i64 0), (.int .i64 0), (.int .i64 0)] 3 1 [(0, 3, (.t 26))]),
 oD 8 (.alloc [.nilslice]),
 oN (.store 1 (.t 8) (.t 27))])
 (.keep [0, 4, 5, 7, 8]))
 (.seq (.seq (.ops none [oD 28 (.makeMap),
 oD 9 (.alloc [.nilmap]),
 oN (.store 1 (.t 9) (.t 28))])
 (.keep [0, 4, 5, 7, 8, 9]))
 (.seq (.seq (.seq (.ops none [oD 29 (.loadN 3 (.t 7)),
 oD 30 (.call 217 [(.t 29)])])
 (.keep [0, 4, 5, 7, 8, 9, 30]))
 (.block 0 (.rangeFunc (.t 30) [31] (.seq (.ops none [oD 10 (.mov (.t 31))])
 (.keep [7, 8, 9, 10]))
 (.block 1 (.seq (.seq (.ops none [oD 32 (.mov (.t 10)),
 oD 33 (.build [(.int .i64 0), (.int .i64 0), (.int .i64 0)] [(0, 1, (.t 32)), (1, 1, (.k (.int .i64 (-1))))]),
 oD 11 (.alloc [(.int .i64 0), (.int .i64 0), (.int .i64 0)]),
 oN (.store 3 (.t 11) (.t 33))])
 (.keep [7, 8, 9, 10, 11]))
 (.seq (.seq (.seq (.ops none [oD 34 (.load1 (.t 8)),
 oD 35 (.len .slice (.t 34)),
 oD 36 (.mov (.k (.int .i64 0)))])
 (.keep [7, 8, 9, 10, 11, 34, 35, 36]))
 (.block 2 (.loop (.seq (.keep [7, 8, 9, 10, 11, 34, 35, 36])
 (.seq (.seq (.ops none [oD 37 (.bin .lss (.t 36) (.t 35))])
 (.keep [7, 8, 9, 10, 11, 34, 35, 36, 37]))
 (.seq (.cond (.t 37) .skip
 (.exit 2))
 (.seq (.block 3 (.seq (.seq (.ops none [oD 38 (.idxSl 3 (.t 34) (.t 36)),
 oD 39 (.loadN 3 (.t 38)),
 oD 13 (.alloc [(.int .i64 0), (.int .i64 0), (.int .i64 0)]),
 oN (.store 3 (.t 13) (.t 39))])
 (.keep [7, 8, 9, 10, 11, 13, 34, 35, 36]))
 (.seq (.seq (.seq (.ops none [oD 40 (.loadN 3 (.t 7)),
 oD 41 (.fieldAddr 0 (.t 13)),
 oD 42 (.load1 (.t 41)),
 oD 43 (.mov (.t 10)),
 oD 44 (.call 218 [(.t 40), (.t 42), (.t 43)]),
 oD 45 (.un .not (.t 44))])
 (.keep [7, 8, 9, 10, 11, 13, 34, 35, 36, 45]))
 (.cond (.t 45) (.exit 3)
 .skip))
 (.seq (.ops (some [7, 8, 9, 10, 11, 13, 14, 34, 35, 36]) [oD 46 (.fieldAddr 1 (.t 13)),
 oD 47 (.load1 (.t 46)),
 oD 48 (.loadN 3 (.t 7)),
 oD 49 (.fieldAddr 0 (.t 13)),
 oD 50 (.load1 (.t 49)),
 oD 51 (.mov (.t 10)),
 ⟨(some 52), none, .call 219 [(.t 48), (.t 50), (.t 51)], [⟨47, none, .load1 (.t 46)⟩]⟩,
 oD 53 (.bin .add (.t 47) (.t 52)),
 oD 14 (.mov (.t 53))])
 (.seq (.seq (.ops none [oD 54 (.fieldAddr 1 (.t 11)),
 oD 55 (.load1 (.t 54)),
 oD 56 (.bin .lss (.t 55) (.k (.int .i64 0))),
 oD 57 (.mov (.t 56)),
 oG 58 57 false (.mov (.t 14)),
 oG 59 57 false (.fieldAddr 1 (.t 11)),
 oG 60 57 false (.load1 (.t 59)),
 oG 61 57 false (.bin .lss (.t 58) (.t 60)),
 oD 62 (.pick (.t 57) (.k (.bool true)) (.t 61))])
 (.keep [7, 8, 9, 10, 11, 13, 14, 34, 35, 36, 62]))
 (.cond (.t 62) (.ops (some [7, 8, 9, 10, 11, 34, 35, 36]) [oD 63 (.mov (.t 14)),
 oD 64 (.fieldAddr 0 (.t 13)),
 oD 65 (.load1 (.t 64)),
 oD 66 (.fieldAddr 1 (.t 11)),
 ⟨none, none, .store 1 (.t 66) (.t 63), [⟨65, none, .load1 (.t 64)⟩]⟩,
 oD 67 (.fieldAddr 2 (.t 11)),
 oN (.store 1 (.t 67) (.t 65))])
 .skip))))))
 (.seq (.ops none [oD 68 (.bin .add (.t 36) (.k (.int .i64 1))),
 oD 36 (.mov (.t 68))])
 (.keep [7, 8, 9, 10, 11, 34, 35, 36])))))))))
 (.seq (.seq (.ops none [oD 69 (.load1 (.t 8)),
 oD 70 (.loadN 3 (.t 11)),
 oD 71 (.buildSlice [(.int .i64 0), (.int .i64 0), (.int .i64 0)] 3 1 [(0, 3, (.t 70))]),
 oD 72 (.append 3 (.t 69) (.t 71)),
 oN (.store 1 (.t 8) (.t 72))])
 (.keep [9, 10, 11]))
 (.seq (.ops none [oD 73 (.load1 (.t 9)),
 oD 74 (.mov (.t 10)),
 oD 75 (.fieldAddr 2 (.t 11)),
 oD 76 (.load1 (.t 75)),
 oN (.mapUpdate (.leaf .int) (.t 73) (.t 74) (.t 76))])
 (.keep [])))))))))
 (.seq (.seq (.ops none [oD 15 (.mov (.k .nilslice))])
 (.keep [0, 9, 15]))
 (.seq (.seq (.seq (.ops none [oD 77 (.mov (.t 0)),
 oD 78 (.len .slice (.t 77)),
 oD 16 (.mov (.t 78))])
 (.keep [9, 15, 16]))
 (.block 4 (.loop (.seq (.keep [9, 15, 16])
 (.seq (.seq (.seq (.ops none [oD 79 (.mov (.t 16)),
 oD 80 (.bin .geq (.t 79) (.k (.int .i64 0)))])
 (.keep [9, 15, 16, 80]))
 (.cond (.t 80) .skip
 (.exit 4)))
 (.seq (.block 5 (.seq (.ops none [oD 84 (.mov (.t 15)),
 oD 85 (.mov (.t 16)),
 oD 86 (.buildSlice [(.int .i64 0)] 1 1 [(0, 1, (.t 85))]),
 oD 87 (.append 1 (.t 84) (.t 86)),
 oD 15 (.mov (.t 87))])
 (.keep [9, 15, 16])))
 (.seq (.ops none [oD 81 (.load1 (.t 9)),
 oD 82 (.mov (.t 16)),
 oD 83 (.lookup (.leaf .int) (.int .i64 0) false (.t 81) (.t 82)),
 oD 16 (.mov (.t 83))])
 (.keep [9, 15, 16]))))))))
 (.seq (.seq (.ops none [oD 88 (.mov (.t 15)),
 oD 89 (.call 220 [(.t 88)])])
 (.keep [15]))
 (.seq (.seq (.ops none [oD 90 (.mov (.t 15)),
 oD 4 (.mov (.t 90)),
 oD 5 (.mov (.k (.int .i64 0)))])
 (.keep [4, 5]))
 .ret))))))))))
  results := [.tmp 4, .tmp 5]
theorem ok200 : FnOK Tryz.prog pureL 200 a200 := ⟨Tryz.f200, [(0, [0, 1, 4, 5]), (1, [0, 1, 4, 5, 6]), (2, [0, 1, 4, 5, 6, 21]), (3, [4, 5]), (4, [0, 4, 5, 7]), (5, [0, 4, 5, 7, 8]), (6, [0, 4, 5, 7, 8, 9]), (7, [0, 4, 5, 7, 8, 9, 30]), (8, [7, 8, 9, 10]), (9, [7, 8, 9, 10, 11]), (10, [7, 8, 9, 10, 11, 34, 35, 36]), (11, [7, 8, 9, 10, 11, 34, 35, 36, 37]), (12, [7, 8, 9, 10, 11, 13, 34, 35, 36]), (13, [7, 8, 9, 10, 11, 13, 34, 35, 36, 45]), (14, [7, 8, 9, 10, 11, 13, 14, 34, 35, 36]), (15, [7, 8, 9, 10, 11, 13, 14, 34, 35, 36, 62]), (16, [7, 8, 9, 10, 11, 34, 35, 36]), (17, [7, 8, 9, 10, 11, 34, 35, 36]), (18, [9, 10, 11]), (19, []), (20, [0, 9, 15]), (21, [9, 15, 16]), (22, [9, 15, 16, 80]), (24, [9, 15, 16]), (23, [9, 15, 16]), (25, [15]), (26, [4, 5])], [(2, [7, 8, 9, 10, 11, 34, 35, 36]), (4, [9, 15, 16])], Tryz.func200, by kernel_rfl⟩
/-- stylus/lines.Of -/
def a201 : AFunc where
  body :=
  (.seq (.seq (.ops none [oD 4 (.box (.t 0)),
 oD 8 (.mov (.k .nilslice)),
 oD 9 (.mov (.k (.int .i64 0)))])
 (.keep [1, 2, 3, 4]))
 (.seq (.seq (.seq (.ops none [oD 19 (.mov (.t 1)),
 oD 20 (.mov (.t 2)),
 oD 21 (.mov (.t 3)),
 oD 22 (.call 221 [(.t 19), (.t 20), (.t 21)]),
 oD 18 (.mov (.t 22)),
 oD 23 (.extract 0 (.t 18)),
 oD 24 (.extract 1 (.t 18)),
 oD 10 (.mov (.t 23)),
 oD 11 (.mov (.t 24))])
 (.keep [1, 2, 3, 4, 11]))
 (.seq (.seq (.ops none [oD 25 (.mov (.t 11)),
 oD 26 (.eq true (.leaf .int) (.t 25) (.k (.int .i64 0)))])
 (.keep [1, 2, 3, 4, 11, 26]))
 (.cond (.t 26) (.seq (.seq (.ops none [oD 27 (.mov (.t 11)),
 oD 8 (.mov (.k .nilslice)),
 oD 9 (.mov (.t 27))])
 (.keep [8, 9]))
 .ret)
 .skip)))
 (.seq (.seq (.ops none [oD 28 (.makeFunc 222 [] [(.t 4)]),
 oD 12 (.mov (.t 28))])
 (.keep [1, 2, 3, 4, 12]))
 (.seq (.seq (.seq (.ops none [oD 29 (.mov (.t 1)),
 oD 30 (.mov (.t 12)),
 oD 31 (.call 224 [(.t 29), (.t 30)])])
 (.keep [1, 2, 3, 4, 31]))
 (.cond (.t 31) (.seq (.seq (.ops none [oD 8 (.mov (.k .nilslice)),
 oD 9 (.mov (.k (.int .i64 1)))])
 (.keep [8, 9]))
 .ret)
 .skip))
 (.seq (.seq (.ops none [oD 13 (.mov (.k .nilslice))])
 (.keep [1, 2, 3, 4, 13]))
 (.seq (.seq (.ops none [oD 14 (.mov (.k (.int .i64 0)))])
 (.keep [1, 2, 3, 4, 13, 14]))
 (.seq (.seq (.seq (.ops none [oD 32 (.mov (.t 3)),
 oD 33 (.len .slice (.t 32)),
 oD 34 (.mov (.k (.int .i64 0)))])
 (.keep [1, 2, 4, 13, 14, 32, 33, 34]))
 (.block 0 (.loop (.seq (.keep [1, 2, 4, 13, 14, 32, 33, 34])
 (.seq (.seq (.ops none [oD 35 (.bin .lss (.t 34) (.t 33))])
 (.keep [1, 2, 4, 13, 14, 32, 33, 34, 35]))
 (.seq (.cond (.t 35) .skip
 (.exit 0))
 (.seq (.block 1 (.seq (.seq (.ops none [oD 36 (.idxSl 1 (.t 32) (.t 34)),
 oD 37 (.load1 (.t 36)),
 oD 16 (.mov (.t 37))])
 (.keep [1, 2, 4, 13, 14, 16, 32, 33, 34]))
 (.seq (.seq (.ops none [oD 17 (.mov (.k .nilslice))])
 (.keep [1, 2, 4, 13, 14, 16, 17, 32, 33, 34]))
 (.seq (.seq (.seq (.ops none [oD 38 (.mov (.t 16)),
 oD 39 (.mov (.t 1)),
 oD 40 (.len .slice (.t 39)),
 oD 41 (.bin .lss (.t 38) (.t 40)),
 oD 42 (.mov (.t 41)),
 oG 43 42 true (.mov (.t 1)),
 oG 44 42 true (.mov (.t 16)),
 oG 45 42 true (.idxSl 5 (.t 43) (.t 44)),
 oG 46 42 true (.fieldAddr 0 (.t 45)),
 oG 47 42 true (.load1 (.t 46)),
 oG 48 42 true (.eq false (.leaf .int) (.t 47) (.k (.int .i64 3))),
 oD 49 (.pick (.t 42) (.t 48) (.k (.bool false)))])
 (.keep [1, 2, 4, 13, 14, 16, 17, 32, 33, 34, 49]))
 (.cond (.t 49) (.seq (.ops none [oD 50 (.mov (.t 1)),
 oD 51 (.mov (.t 16)),
 oD 52 (.mov (.t 16)),
 oD 53 (.bin .add (.t 52) (.k (.int .i64 1))),
 oD 54 (.sliceSl 5 (.t 50) (some (.t 51)) (some (.t 53))),
 oD 17 (.mov (.t 54))])
 (.keep [1, 2, 4, 13, 14, 16, 17, 32, 33, 34]))
 .skip))
 (.seq (.ops (some [1, 2, 4, 13, 16, 32, 33, 34]) [oD 55 (.mov (.t 13)),
 oD 56 (.load1 (.t 4)),
 oD 57 (.mov (.t 1)),
 oD 58 (.mov (.t 14)),
 oD 59 (.mov (.t 16)),
 oD 60 (.sliceSl 5 (.t 57) (some (.t 58)) (some (.t 59))),
 oD 61 (.mov (.t 2)),
 oD 62 (.mov (.t 16)),
 oD 63 (.mov (.t 1)),
 oD 64 (.len .slice (.t 63)),
 oD 65 (.eq false (.leaf .int) (.t 62) (.t 64)),
 oD 66 (.mov (.t 17)),
 oD 67 (.call 225 [(.t 56), (.t 60), (.t 61), (.t 65), (.t 66)]),
 oD 68 (.buildSlice [.nilslice, (.int .i64 0), (.int .i64 0)] 3 1 [(0, 3, (.t 67))]),
 oD 69 (.append 3 (.t 55) (.t 68)),
 oD 13 (.mov (.t 69))])
 (.seq (.ops none [oD 70 (.mov (.t 16)),
 oD 71 (.bin .add (.t 70) (.k (.int .i64 1))),
 oD 14 (.mov (.t 71))])
 (.keep [1, 2, 4, 13, 14, 32, 33, 34])))))))
 (.seq (.ops none [oD 72 (.bin .add (.t 34) (.k (.int .i64 1))),
 oD 34 (.mov (.t 72))])
 (.keep [1, 2, 4, 13, 14, 32, 33, 34])))))))))
 (.seq (.seq (.ops none [oD 73 (.mov (.t 13)),
 oD 8 (.mov (.t 73)),
 oD 9 (.mov (.k (.int .i64 0)))])
 (.keep [8, 9]))
 .ret))))))))
  results := [.tmp 8, .tmp 9]
theorem ok201 : FnOK Tryz.prog pureL 201 a201 := ⟨Tryz.f201, [(0, [1, 2, 3, 4]), (1, [1, 2, 3, 4, 11]), (2, [1, 2, 3, 4, 11, 26]), (3, [8, 9]), (4, [1, 2, 3, 4, 12]), (5, [1, 2, 3, 4, 31]), (6, [8, 9]), (7, [1, 2, 3, 4, 13]), (8, [1, 2, 3, 4, 13, 14]), (9, [1, 2, 4, 13, 14, 32, 33, 34]), (10, [1, 2, 4, 13, 14, 32, 33, 34, 35]), (11, [1, 2, 4, 13, 14, 16, 32, 33, 34]), (12, [1, 2, 4, 13, 14, 16, 17, 32, 33, 34]), (13, [1, 2, 4, 13, 14, 16, 17, 32, 33, 34, 49]), (14, [1, 2, 4, 13, 14, 16, 17, 32, 33, 34]), (15, [1, 2, 4, 13, 16, 32, 33, 34]), (16, [1, 2, 4, 13, 14, 32, 33, 34]), (17, [1, 2, 4, 13, 14, 32, 33, 34]), (18, [8, 9])], [(0, [1, 2, 4, 13, 14, 32, 33, 34])], Tryz.func201, by kernel_rfl⟩
/-- stylus/lines.Fill -/
def a202 : AFunc where
  body :=
  (.seq (.seq (.ops none [oD 4 (.mov (.k .nilslice)),
 oD 5 (.mov (.k (.int .i64 0)))])
 (.keep [0, 1]))
 (.seq (.seq (.seq (.ops none [oD 9 (.mov (.t 0)),
 oD 10 (.mov (.t 1)),
 oD 11 (.call 215 [(.t 9), (.t 10)]),
 oD 6 (.mov (.t 11))])
 (.keep [0, 1, 6]))
 (.seq (.seq (.ops none [oD 12 (.mov (.t 6)),
 oD 13 (.eq true (.leaf .int) (.t 12) (.k (.int .i64 0)))])
 (.keep [0, 1, 6, 13]))
 (.cond (.t 13) (.seq (.seq (.ops none [oD 14 (.mov (.t 6)),
 oD 4 (.mov (.k .nilslice)),
 oD 5 (.mov (.t 14))])
 (.keep [4, 5]))
 .ret)
 .skip)))
 (.seq (.seq (.ops none [oD 7 (.mov (.k .nilslice))])
 (.keep [0, 1, 7]))
 (.seq (.seq (.seq (.ops none [oD 8 (.mov (.k (.int .i64 0)))])
 (.keep [0, 1, 7, 8]))
 (.block 0 (.loop (.seq (.keep [0, 1, 7, 8])
 (.seq (.seq (.seq (.ops none [oD 15 (.mov (.t 7)),
 oD 16 (.len .slice (.t 15)),
 oD 17 (.eq false (.leaf .int) (.t 16) (.k (.int .i64 0))),
 oD 18 (.mov (.t 17)),
 oG 19 18 false (.mov (.t 7)),
 oG 20 18 false (.mov (.t 7)),
 oG 21 18 false (.len .slice (.t 20)),
 oG 22 18 false (.bin .sub (.t 21) (.k (.int .i64 1))),
 oG 23 18 false (.idxSl 1 (.t 19) (.t 22)),
 oG 24 18 false (.load1 (.t 23)),
 oG 25 18 false (.mov (.t 0)),
 oG 26 18 false (.len .slice (.t 25)),
 oG 27 18 false (.bin .lss (.t 24) (.t 26)),
 oD 28 (.pick (.t 18) (.k (.bool true)) (.t 27))])
 (.keep [0, 1, 7, 8, 28]))
 (.cond (.t 28) .skip
 (.exit 0)))
 (.seq (.block 1 (.seq (.ops none [oD 36 (.mov (.t 7)),
 oD 37 (.mov (.t 0)),
 oD 38 (.mov (.t 1)),
 oD 39 (.mov (.t 8)),
 oD 40 (.call 226 [(.t 37), (.t 38), (.t 39)]),
 oD 41 (.buildSlice [(.int .i64 0)] 1 1 [(0, 1, (.t 40))]),
 oD 42 (.append 1 (.t 36) (.t 41)),
 oD 7 (.mov (.t 42))])
 (.keep [0, 1, 7])))
 (.seq (.ops none [oD 29 (.mov (.t 7)),
 oD 30 (.mov (.t 7)),
 oD 31 (.len .slice (.t 30)),
 oD 32 (.bin .sub (.t 31) (.k (.int .i64 1))),
 oD 33 (.idxSl 1 (.t 29) (.t 32)),
 oD 34 (.load1 (.t 33)),
 oD 35 (.bin .add (.t 34) (.k (.int .i64 1))),
 oD 8 (.mov (.t 35))])
 (.keep [0, 1, 7, 8]))))))))
 (.seq (.seq (.ops none [oD 43 (.mov (.t 7)),
 oD 4 (.mov (.t 43)),
 oD 5 (.mov (.k (.int .i64 0)))])
 (.keep [4, 5]))
 .ret)))))
  results := [.tmp 4, .tmp 5]
theorem ok202 : FnOK Tryz.prog pureL 202 a202 := ⟨Tryz.f202, [(0, [0, 1]), (1, [0, 1, 6]), (2, [0, 1, 6, 13]), (3, [4, 5]), (4, [0, 1, 7]), (5, [0, 1, 7, 8]), (6, [0, 1, 7, 8, 28]), (8, [0, 1, 7]), (7, [0, 1, 7, 8]), (9, [4, 5])], [(0, [0, 1, 7, 8])], Tryz.func202, by kernel_rfl⟩
/-- slices.IndexFunc[[][]stylus/api.Line,[]stylus/api.Line] -/
def a203 : AFunc where
  body :=
  (.seq (.seq (.ops none [oD 4 (.mov (.k (.int .i64 0)))])
 (.keep [0, 1]))
 (.seq (.seq (.seq (.ops none [oD 6 (.mov (.t 0)),
 oD 7 (.len .slice (.t 6)),
 oD 8 (.mov (.k (.int .i64 0)))])
 (.keep [0, 1, 7, 8]))
 (.block 0 (.loop (.seq (.keep [0, 1, 7, 8])
 (.seq (.seq (.ops none [oD 9 (.bin .lss (.t 8) (.t 7))])
 (.keep [0, 1, 7, 8, 9]))
 (.seq (.cond (.t 9) .skip
 (.exit 0))
 (.seq (.block 1 (.seq (.seq (.ops none [oD 10 (.mov (.t 8)),
 oD 5 (.mov (.t 10))])
 (.keep [0, 1, 5, 7, 8]))
 (.seq (.seq (.ops none [oD 11 (.mov (.t 1)),
 oD 12 (.mov (.t 0)),
 oD 13 (.mov (.t 5)),
 oD 14 (.idxSl 1 (.t 12) (.t 13)),
 oD 15 (.load1 (.t 14)),
 oD 16 (.callv (.t 11) [(.t 15)])])
 (.keep [0, 1, 5, 7, 8, 16]))
 (.cond (.t 16) (.seq (.seq (.ops none [oD 17 (.mov (.t 5)),
 oD 4 (.mov (.t 17))])
 (.keep [4]))
 .ret)
 .skip))))
 (.seq (.ops none [oD 18 (.bin .add (.t 8) (.k (.int .i64 1))),
 oD 8 (.mov (.t 18))])
 (.keep [0, 1, 7, 8])))))))))
 (.seq (.seq (.ops none [oD 4 (.mov (.k (.int .i64 (-1))))])
 (.keep [4]))
 .ret)))
  results := [.tmp 4]
theorem ok203 : FnOK Tryz.prog pureL 203 a203 := ⟨Tryz.f203, [(0, [0, 1]), (1, [0, 1, 7, 8]), (2, [0, 1, 7, 8, 9]), (3, [0, 1, 5, 7, 8]), (4, [0, 1, 5, 7, 8, 16]), (5, [4]), (6, [0, 1, 7, 8]), (7, [4])], [(0, [0, 1, 7, 8])], Tryz.func203, by kernel_rfl⟩
/-- slices.IndexFunc[[]stylus/api.Line,stylus/api.Line] -/
def a204 : AFunc where
  body :=
  (.seq (.seq (.ops none [oD 4 (.mov (.k (.int .i64 0)))])
 (.keep [0, 1]))
 (.seq (.seq (.seq (.ops none [oD 6 (.mov (.t 0)),
 oD 7 (.len .slice (.t 6)),
 oD 8 (.mov (.k (.int .i64 0)))])
 (.keep [0, 1, 7, 8]))
 (.block 0 (.loop (.seq (.keep [0, 1, 7, 8])
 (.seq (.seq (.ops none [oD 9 (.bin .lss (.t 8) (.t 7))])
 (.keep [0, 1, 7, 8, 9]))
 (.seq (.cond (.t 9) .skip
 (.exit 0))
 (.seq (.block 1 (.seq (.seq (.ops none [oD 10 (.mov (.t 8)),
 oD 5 (.mov (.t 10))])
 (.keep [0, 1, 5, 7, 8]))
 (.seq (.seq (.ops none [oD 11 (.mov (.t 1)),
 oD 12 (.mov (.t 0)),
 oD 13 (.mov (.t 5)),
 oD 14 (.idxSl 3 (.t 12) (.t 13)),
 oD 15 (.loadN 3 (.t 14)),
 oD 16 (.callv (.t 11) [(.t 15)])])
 (.keep [0, 1, 5, 7, 8, 16]))
 (.cond (.t 16) (.seq (.seq (.ops none [oD 17 (.mov (.t 5)),
 oD 4 (.mov (.t 17))])
 (.keep [4]))
 .ret)
 .skip))))
 (.seq (.ops none [oD 18 (.bin .add (.t 8) (.k (.int .i64 1))),
 oD 8 (.mov (.t 18))])
 (.keep [0, 1, 7, 8])))))))))
 (.seq (.seq (.ops none [oD 4 (.mov (.k (.int .i64 (-1))))])
 (.keep [4]))
 .ret)))
  results := [.tmp 4]
theorem ok204 : FnOK Tryz.prog pureL 204 a204 := ⟨Tryz.f204, [(0, [0, 1]), (1, [0, 1, 7, 8]), (2, [0, 1, 7, 8, 9]), (3, [0, 1, 5, 7, 8]), (4, [0, 1, 5, 7, 8, 16]), (5, [4]), (6, [0, 1, 7, 8]), (7, [4])], [(0, [0, 1, 7, 8])], Tryz.func204, by kernel_rfl⟩
/-- stylus/chars.of -/
def a205 : AFunc where
  body :=
  (.seq (.seq (.ops none [oD 2 (.alloc [(.int .u64 0), (.int .u64 0), (.int .u64 0), (.int .u64 0)])])
 (.keep [0, 2]))
 (.seq (.seq (.ops none [oD 3 (.alloc [(.int .u64 0), (.int .u64 0), (.int .u64 0), (.int .u64 0)])])
 (.keep [0, 2, 3]))
 (.seq (.seq (.seq (.ops none [oD 5 (.mov (.t 0)),
 oD 6 (.len .str (.t 5)),
 oD 7 (.mov (.k (.int .i64 0)))])
 (.keep [0, 2, 3, 6, 7]))
 (.block 0 (.loop (.seq (.keep [0, 2, 3, 6, 7])
 (.seq (.seq (.ops none [oD 8 (.bin .lss (.t 7) (.t 6))])
 (.keep [0, 2, 3, 6, 7, 8]))
 (.seq (.cond (.t 8) .skip
 (.exit 0))
 (.seq (.block 1 (.seq (.seq (.ops none [oD 9 (.mov (.t 7)),
 oD 4 (.mov (.t 9))])
 (.keep [0, 2, 3, 4, 6, 7]))
 (.ops (some [0, 2, 3, 6, 7]) [oD 10 (.mov (.t 0)),
 oD 11 (.mov (.t 4)),
 oD 12 (.indexStr (.t 10) (.t 11)),
 oD 13 (.bin .shr (.t 12) (.k (.int .u64 6))),
 oD 14 (.idxArr 4 1 (.t 3) (.t 13)),
 oD 15 (.load1 (.t 14)),
 oD 16 (.mov (.t 0)),
 oD 17 (.mov (.t 4)),
 oD 18 (.indexStr (.t 16) (.t 17)),
 oD 19 (.bin .and (.t 18) (.k (.int .u8 63))),
 oD 20 (.bin .shl (.k (.int .u64 1)) (.t 19)),
 oD 21 (.bin .or (.t 15) (.t 20)),
 oD 22 (.idxArr 4 1 (.t 3) (.t 13)),
 oN (.store 1 (.t 22) (.t 21))])))
 (.seq (.ops none [oD 23 (.bin .add (.t 7) (.k (.int .i64 1))),
 oD 7 (.mov (.t 23))])
 (.keep [0, 2, 3, 6, 7])))))))))
 (.seq (.seq (.ops none [oD 24 (.loadN 4 (.t 3)),
 oN (.store 4 (.t 2) (.t 24))])
 (.keep [2]))
 .ret))))
  results := [.cellN 2 4]
theorem ok205 : FnOK Tryz.prog pureL 205 a205 := ⟨Tryz.f205, [(0, [0, 2]), (1, [0, 2, 3]), (2, [0, 2, 3, 6, 7]), (3, [0, 2, 3, 6, 7, 8]), (4, [0, 2, 3, 4, 6, 7]), (5, [0, 2, 3, 6, 7]), (6, [0, 2, 3, 6, 7]), (7, [2])], [(0, [0, 2, 3, 6, 7])], Tryz.func205, by kernel_rfl⟩
/-- stylus/chars.Marks -/
def a206 : AFunc where
  body :=
  (.seq (.seq (.ops none [oD 0 (.mov (.k (.str [])))])
 (.keep []))
 (.seq (.seq (.ops none [oD 0 (.mov (.k (.str [46, 44, 59, 58, 33, 63, 39, 34, 45, 40, 41, 47])))])
 (.keep [0]))
 .ret))
  results := [.tmp 0]
theorem ok206 : FnOK Tryz.prog pureL 206 a206 := ⟨Tryz.f206, [(0, []), (1, [0])], [], Tryz.func206, by kernel_rfl⟩
/-- unicode/utf8.ValidRune -/
def a207 : AFunc where
  body :=
  (.seq (.seq (.ops none [oD 2 (.mov (.k (.bool false)))])
 (.keep [0]))
 (.seq (.block 0 (.seq (.seq (.ops none [oD 4 (.mov (.t 0)),
 oD 5 (.bin .leq (.k (.int .i32 0)) (.t 4)),
 oD 6 (.mov (.t 5)),
 oG 7 6 true (.mov (.t 0)),
 oG 8 6 true (.bin .lss (.t 7) (.k (.int .i32 55296))),
 oD 9 (.pick (.t 6) (.t 8) (.k (.bool false))),
 oD 3 (.mov (.t 9))])
 (.keep [0, 3]))
 (.cond (.t 3) (.seq (.seq (.ops none [oD 2 (.mov (.k (.bool true)))])
 (.keep [2]))
 .ret)
 (.seq (.seq (.ops none [oD 11 (.mov (.t 0)),
 oD 12 (.bin .lss (.k (.int .i32 57343)) (.t 11)),
 oD 13 (.mov (.t 12)),
 oG 14 13 true (.mov (.t 0)),
 oG 15 13 true (.bin .leq (.t 14) (.k (.int .i32 1114111))),
 oD 16 (.pick (.t 13) (.t 15) (.k (.bool false))),
 oD 10 (.mov (.t 16))])
 (.keep [10]))
 (.cond (.t 10) (.seq (.seq (.ops none [oD 2 (.mov (.k (.bool true)))])
 (.keep [2]))
 .ret)
 .skip)))))
 (.seq (.seq (.ops none [oD 2 (.mov (.k (.bool false)))])
 (.keep [2]))
 .ret)))
  results := [.tmp 2]
theorem ok207 : FnOK Tryz.prog pureL 207 a207 := ⟨Tryz.f207, [(0, [0]), (1, [0, 3]), (3, [10]), (4, [2]), (2, [2]), (5, [2])], [], Tryz.func207, by kernel_rfl⟩
/-- internal/bytealg.Cutover -/
def a208 : AFunc where
  body :=
  (.seq (.seq (.ops none [oD 2 (.mov (.k (.int .i64 0)))])
 (.keep [0]))
 (.seq (.seq (.ops none [oD 3 (.mov (.t 0)),
 oD 4 (.bin .add (.t 3) (.k (.int .i64 16))),
 oD 5 (.bin .quo (.t 4) (.k (.int .i64 8))),
 oD 2 (.mov (.t 5))])
 (.keep [2]))
 .ret))
  results := [.tmp 2]
theorem ok208 : FnOK Tryz.prog pureL 208 a208 := ⟨Tryz.f208, [(0, [0]), (1, [2])], [], Tryz.func208, by kernel_rfl⟩
/-- internal/bytealg.IndexRabinKarp[string] -/
def a210 : AFunc where
  body :=
  (.seq (.seq (.ops none [oD 4 (.mov (.k (.int .i64 0)))])
 (.keep [0, 1]))
 (.seq (.seq (.ops none [oD 12 (.mov (.t 1)),
 oD 13 (.call 227 [(.t 12)]),
 oD 11 (.mov (.t 13)),
 oD 14 (.extract 0 (.t 11)),
 oD 15 (.extract 1 (.t 11)),
 oD 5 (.mov (.t 14)),
 oD 6 (.mov (.t 15))])
 (.keep [0, 1, 5, 6]))
 (.seq (.seq (.ops none [oD 16 (.mov (.t 1)),
 oD 17 (.len .str (.t 16)),
 oD 7 (.mov (.t 17))])
 (.keep [0, 1, 5, 6, 7]))
 (.seq (.seq (.ops none [oD 8 (.mov (.k (.int .u32 0)))])
 (.keep [0, 1, 5, 6, 7, 8]))
 (.seq (.seq (.seq (.ops none [oD 9 (.mov (.k (.int .i64 0)))])
 (.keep [0, 1, 5, 6, 7, 8, 9]))
 (.block 0 (.loop (.seq (.keep [0, 1, 5, 6, 7, 8, 9])
 (.seq (.seq (.seq (.ops none [oD 18 (.mov (.t 9)),
 oD 19 (.mov (.t 7)),
 oD 20 (.bin .lss (.t 18) (.t 19))])
 (.keep [0, 1, 5, 6, 7, 8, 9, 20]))
 (.cond (.t 20) .skip
 (.exit 0)))
 (.seq (.block 1 (.seq (.ops none [oD 23 (.mov (.t 8)),
 oD 24 (.bin .mul (.t 23) (.k (.int .u32 16777619))),
 oD 25 (.mov (.t 0)),
 oD 26 (.mov (.t 9)),
 oD 27 (.indexStr (.t 25) (.t 26)),
 oD 28 (.convInt .u32 (.t 27)),
 oD 29 (.bin .add (.t 24) (.t 28)),
 oD 8 (.mov (.t 29))])
 (.keep [0, 1, 5, 6, 7, 8, 9])))
 (.seq (.ops none [oD 21 (.mov (.t 9)),
 oD 22 (.bin .add (.t 21) (.k (.int .i64 1))),
 oD 9 (.mov (.t 22))])
 (.keep [0, 1, 5, 6, 7, 8, 9]))))))))
 (.seq (.seq (.seq (.ops none [oD 30 (.mov (.t 8)),
 oD 31 (.mov (.t 5)),
 oD 32 (.eq false (.leaf .int) (.t 30) (.t 31)),
 oD 33 (.mov (.t 32)),
 oG 34 33 true (.mov (.t 0)),
 oG 35 33 true (.mov (.t 7)),
 oG 36 33 true (.sliceStr (.t 34) none (some (.t 35))),
 oG 37 33 true (.mov (.t 1)),
 oG 38 33 true (.eq false (.leaf .str) (.t 36) (.t 37)),
 oD 39 (.pick (.t 33) (.t 38) (.k (.bool false)))])
 (.keep [0, 1, 5, 6, 7, 8, 39]))
 (.cond (.t 39) (.seq (.seq (.ops none [oD 4 (.mov (.k (.int .i64 0)))])
 (.keep [4]))
 .ret)
 .skip))
 (.seq (.seq (.seq (.ops none [oD 40 (.mov (.t 7)),
 oD 10 (.mov (.t 40))])
 (.keep [0, 1, 5, 6, 7, 8, 10]))
 (.block 2 (.loop (.seq (.keep [0, 1, 5, 6, 7, 8, 10])
 (.seq (.seq (.seq (.ops none [oD 41 (.mov (.t 10)),
 oD 42 (.mov (.t 0)),
 oD 43 (.len .str (.t 42)),
 oD 44 (.bin .lss (.t 41) (.t 43))])
 (.keep [0, 1, 5, 6, 7, 8, 10, 44]))
 (.cond (.t 44) .skip
 (.exit 2)))
 (.block 3 (.seq (.seq (.ops none [oD 45 (.mov (.t 8)),
 oD 46 (.bin .mul (.t 45) (.k (.int .u32 16777619))),
 oD 8 (.mov (.t 46))])
 (.keep [0, 1, 5, 6, 7, 8, 10]))
 (.seq (.seq (.ops none [oD 47 (.mov (.t 8)),
 oD 48 (.mov (.t 0)),
 oD 49 (.mov (.t 10)),
 oD 50 (.indexStr (.t 48) (.t 49)),
 oD 51 (.convInt .u32 (.t 50)),
 oD 52 (.bin .add (.t 47) (.t 51)),
 oD 8 (.mov (.t 52))])
 (.keep [0, 1, 5, 6, 7, 8, 10]))
 (.seq (.seq (.ops none [oD 53 (.mov (.t 8)),
 oD 54 (.mov (.t 6)),
 oD 55 (.mov (.t 0)),
 oD 56 (.mov (.t 10)),
 oD 57 (.mov (.t 7)),
 oD 58 (.bin .sub (.t 56) (.t 57)),
 oD 59 (.indexStr (.t 55) (.t 58)),
 oD 60 (.convInt .u32 (.t 59)),
 oD 61 (.bin .mul (.t 54) (.t 60)),
 oD 62 (.bin .sub (.t 53) (.t 61)),
 oD 8 (.mov (.t 62))])
 (.keep [0, 1, 5, 6, 7, 8, 10]))
 (.seq (.seq (.ops none [oD 63 (.mov (.t 10)),
 oD 64 (.bin .add (.t 63) (.k (.int .i64 1))),
 oD 10 (.mov (.t 64))])
 (.keep [0, 1, 5, 6, 7, 8, 10]))
 (.seq (.seq (.ops none [oD 65 (.mov (.t 8)),
 oD 66 (.mov (.t 5)),
 oD 67 (.eq false (.leaf .int) (.t 65) (.t 66)),
 oD 68 (.mov (.t 67)),
 oG 69 68 true (.mov (.t 0)),
 oG 70 68 true (.mov (.t 10)),
 oG 71 68 true (.mov (.t 7)),
 oG 72 68 true (.bin .sub (.t 70) (.t 71)),
 oG 73 68 true (.mov (.t 10)),
 oG 74 68 true (.sliceStr (.t 69) (some (.t 72)) (some (.t 73))),
 oG 75 68 true (.mov (.t 1)),
 oG 76 68 true (.eq false (.leaf .str) (.t 74) (.t 75)),
 oD 77 (.pick (.t 68) (.t 76) (.k (.bool false)))])
 (.keep [0, 1, 5, 6, 7, 8, 10, 77]))
 (.cond (.t 77) (.seq (.seq (.ops none [oD 78 (.mov (.t 10)),
 oD 79 (.mov (.t 7)),
 oD 80 (.bin .sub (.t 78) (.t 79)),
 oD 4 (.mov (.t 80))])
 (.keep [4]))
 .ret)
 .skip))))))))))))
 (.seq (.seq (.ops none [oD 4 (.mov (.k (.int .i64 (-1))))])
 (.keep [4]))
 .ret))))))))
  results := [.tmp 4]
theorem ok210 : FnOK Tryz.prog pureL 210 a210 := ⟨Tryz.f210, [(0, [0, 1]), (1, [0, 1, 5, 6]), (2, [0, 1, 5, 6, 7]), (3, [0, 1, 5, 6, 7, 8]), (4, [0, 1, 5, 6, 7, 8, 9]), (5, [0, 1, 5, 6, 7, 8, 9, 20]), (7, [0, 1, 5, 6, 7, 8, 9]), (6, [0, 1, 5, 6, 7, 8, 9]), (8, [0, 1, 5, 6, 7, 8, 39]), (9, [4]), (10, [0, 1, 5, 6, 7, 8, 10]), (11, [0, 1, 5, 6, 7, 8, 10, 44]), (12, [0, 1, 5, 6, 7, 8, 10]), (13, [0, 1, 5, 6, 7, 8, 10]), (14, [0, 1, 5, 6, 7, 8, 10]), (15, [0, 1, 5, 6, 7, 8, 10]), (16, [0, 1, 5, 6, 7, 8, 10, 77]), (17, [4]), (18, [4])], [(0, [0, 1, 5, 6, 7, 8, 9]), (2, [0, 1, 5, 6, 7, 8, 10])], Tryz.func210, by kernel_rfl⟩
/-- stylus/items.begins -/
def a211 : AFunc where
  body :=
  (.seq (.seq (.ops none [oD 1 (.box (.t 0)),
 oD 2 (.mov (.k (.bool false)))])
 (.keep [1]))
 (.seq (.seq (.ops none [oD 3 (.fieldAddr 0 (.t 1)),
 oD 4 (.load1 (.t 3)),
 oD 5 (.eq false (.leaf .int) (.t 4) (.k (.int .i64 2))),
 oD 6 (.mov (.t 5)),
 oG 7 6 true (.fieldAddr 1 (.t 1)),
 oG 8 6 true (.load1 (.t 7)),
 oG 9 6 true (.call 155 [(.k (.str [49, 50, 51, 112, 105, 99, 110])), (.t 8)]),
 oG 10 6 true (.bin .geq (.t 9) (.k (.int .i64 0))),
 oD 11 (.pick (.t 6) (.t 10) (.k (.bool false))),
 oD 2 (.mov (.t 11))])
 (.keep [2]))
 .ret))
  results := [.tmp 2]
theorem ok211 : FnOK Tryz.prog pureL 211 a211 := ⟨Tryz.f211, [(0, [1]), (1, [2])], [], Tryz.func211, by kernel_rfl⟩
/-- stylus/items.own -/
def a212 : AFunc where
  body :=
  (.seq (.seq (.ops none [oD 2 (.box (.t 0)),
 oD 3 (.box (.t 1)),
 oD 4 (.mov (.k .nilfunc))])
 (.keep [2, 3]))
 (.seq (.seq (.ops none [oD 5 (.makeFunc 228 [] [(.t 3), (.t 2)]),
 oD 4 (.mov (.t 5))])
 (.keep [4]))
 .ret))
  results := [.tmp 4]
theorem ok212 : FnOK Tryz.prog pureL 212 a212 := ⟨Tryz.f212, [(0, [2, 3]), (1, [4])], [], Tryz.func212, by kernel_rfl⟩
/-- (*stylus/items.setter).take -/
def a213 : AFunc where
  body :=
  (.seq (.seq (.ops none [oD 4 (.box (.t 1)),
 oD 5 (.box (.t 2))])
 (.keep [0, 4, 5]))
 (.seq (.seq (.ops none [oD 8 (.fieldAddr 0 (.t 5)),
 oD 9 (.load1 (.t 8)),
 oD 10 (.eq false (.leaf .int) (.t 9) (.k (.int .i64 1))),
 oD 11 (.mov (.t 10)),
 oG 12 11 true (.fieldAddr 1 (.t 5)),
 oG 13 11 true (.load1 (.t 12)),
 oG 14 11 true (.call 229 [(.t 13)]),
 oD 15 (.pick (.t 11) (.t 14) (.k (.bool false))),
 oD 6 (.mov (.t 15))])
 (.keep [0, 4, 5, 6]))
 (.seq (.seq (.ops (some [0, 4, 5, 6, 31]) [oD 16 (.mov (.t 6)),
 oD 17 (.un .not (.t 16)),
 oD 18 (.mov (.t 17)),
 oG 19 18 false (.load1 (.t 4)),
 oG 20 18 false (.mov (.t 0)),
 oG 21 18 false (.nilCheck (.t 20)),
 oG 22 18 false (.fieldAddr 133 (.t 21)),
 oG 23 18 false (.load1 (.t 22)),
 oG 24 18 false (.mov (.t 0)),
 oG 25 18 false (.nilCheck (.t 24)),
 oG 26 18 false (.fieldAddr 132 (.t 25)),
 oG 27 18 false (.load1 (.t 26)),
 oG 28 18 false (.len .slice (.t 27)),
 oG 29 18 false (.bin .add (.t 23) (.t 28)),
 oG 30 18 false (.eq true (.leaf .int) (.t 19) (.t 29)),
 oD 31 (.pick (.t 18) (.k (.bool true)) (.t 30))])
 (.cond (.t 31) (.seq (.seq (.ops none [oD 32 (.mov (.t 0)),
 oD 33 (.call 214 [(.t 32)])])
 (.keep [0, 4, 5, 6]))
 (.seq (.ops none [oD 34 (.mov (.t 0)),
 oD 35 (.load1 (.t 4)),
 oD 36 (.nilCheck (.t 34)),
 oD 37 (.fieldAddr 133 (.t 36)),
 oN (.store 1 (.t 37) (.t 35))])
 (.keep [0, 4, 5, 6])))
 .skip))
 (.seq (.seq (.seq (.ops none [oD 38 (.mov (.t 6))])
 (.keep [0, 4, 5, 38]))
 (.cond (.t 38) (.seq (.ops (some []) [oD 39 (.mov (.t 0)),
 oD 40 (.mov (.t 0)),
 oD 41 (.nilCheck (.t 40)),
 oD 42 (.fieldAddr 132 (.t 41)),
 oD 43 (.load1 (.t 42)),
 oD 44 (.fieldAddr 1 (.t 5)),
 oD 45 (.load1 (.t 44)),
 oD 46 (.buildSlice [(.int .u8 0)] 1 1 [(0, 1, (.t 45))]),
 oD 47 (.append 1 (.t 43) (.t 46)),
 oD 48 (.nilCheck (.t 39)),
 oD 49 (.fieldAddr 132 (.t 48)),
 oN (.store 1 (.t 49) (.t 47))])
 .ret)
 .skip))
 (.seq (.seq (.ops none [oD 50 (.makeFunc 230 [] [(.t 4)]),
 oD 7 (.mov (.t 50))])
 (.keep [0, 4, 5, 7]))
 (.block 0 (.seq (.seq (.ops none [oD 52 (.fieldAddr 0 (.t 5)),
 oD 53 (.load1 (.t 52)),
 oD 54 (.eq false (.leaf .int) (.t 53) (.k (.int .i64 1))),
 oD 55 (.mov (.t 54)),
 oG 56 55 true (.fieldAddr 1 (.t 5)),
 oG 57 55 true (.load1 (.t 56)),
 oG 58 55 true (.eq false (.leaf .int) (.t 57) (.k (.int .u8 32))),
 oD 59 (.pick (.t 55) (.t 58) (.k (.bool false))),
 oD 51 (.mov (.t 59))])
 (.keep [0, 4, 5, 7, 51]))
 (.cond (.t 51) (.ops (some []) [oD 60 (.mov (.t 0)),
 oD 61 (.mov (.t 0)),
 oD 62 (.nilCheck (.t 61)),
 oD 63 (.fieldAddr 0 (.t 62)),
 oD 64 (.fieldAddr 0 (.t 63)),
 oD 65 (.idxArr 128 1 (.t 64) (.k (.int .i64 32))),
 oD 66 (.load1 (.t 65)),
 oD 67 (.mov (.t 0)),
 oD 68 (.nilCheck (.t 67)),
 oD 69 (.fieldAddr 0 (.t 68)),
 oD 70 (.fieldAddr 128 (.t 69)),
 oD 71 (.load1 (.t 70)),
 oD 72 (.mov (.t 0)),
 oD 73 (.nilCheck (.t 72)),
 oD 74 (.fieldAddr 0 (.t 73)),
 oD 75 (.fieldAddr 129 (.t 74)),
 oD 76 (.load1 (.t 75)),
 oD 77 (.load1 (.t 4)),
 oD 78 (.build [(.int .i64 0), (.int .i64 0), (.int .i64 0), (.int .i64 0), (.int .i64 0)] [(0, 1, (.k (.int .i64 2))), (1, 1, (.t 66)), (2, 1, (.t 71)), (3, 1, (.t 76)), (4, 1, (.t 77))]),
 oD 79 (.buildSlice [(.int .i64 0), (.int .i64 0), (.int .i64 0), (.int .i64 0), (.int .i64 0)] 5 1 [(0, 5, (.t 78))]),
 oD 80 (.call 231 [(.t 60), (.t 79)])])
 (.seq (.seq (.ops none [oD 82 (.fieldAddr 0 (.t 5)),
 oD 83 (.load1 (.t 82)),
 oD 84 (.eq false (.leaf .int) (.t 83) (.k (.int .i64 1))),
 oD 81 (.mov (.t 84))])
 (.keep [0, 5, 7, 81]))
 (.cond (.t 81) (.ops (some []) [oD 85 (.mov (.t 0)),
 oD 86 (.mov (.t 7)),
 oD 87 (.mov (.t 0)),
 oD 88 (.fieldAddr 1 (.t 5)),
 oD 89 (.load1 (.t 88)),
 oD 90 (.nilCheck (.t 87)),
 oD 91 (.fieldAddr 0 (.t 90)),
 oD 92 (.fieldAddr 0 (.t 91)),
 oD 93 (.idxArr 128 1 (.t 92) (.t 89)),
 oD 94 (.load1 (.t 93)),
 oD 95 (.callv (.t 86) [(.k (.int .i64 1)), (.t 94)]),
 oD 96 (.buildSlice [(.int .i64 0), (.int .i64 0), (.int .i64 0), (.int .i64 0), (.int .i64 0)] 5 1 [(0, 5, (.t 95))]),
 oD 97 (.call 231 [(.t 85), (.t 96)])])
 (.seq (.seq (.ops none [oD 99 (.fieldAddr 0 (.t 5)),
 oD 100 (.load1 (.t 99)),
 oD 101 (.eq false (.leaf .int) (.t 100) (.k (.int .i64 2))),
 oD 102 (.mov (.t 101)),
 oG 103 102 true (.fieldAddr 1 (.t 5)),
 oG 104 102 true (.load1 (.t 103)),
 oG 105 102 true (.eq false (.leaf .int) (.t 104) (.k (.int .u8 110))),
 oD 106 (.pick (.t 102) (.t 105) (.k (.bool false))),
 oD 98 (.mov (.t 106))])
 (.keep [0, 7, 98]))
 (.cond (.t 98) (.seq (.ops none [oD 107 (.mov (.t 0)),
 oD 108 (.mov (.t 7)),
 oD 109 (.mov (.t 0)),
 oD 110 (.nilCheck (.t 109)),
 oD 111 (.fieldAddr 0 (.t 110)),
 oD 112 (.fieldAddr 0 (.t 111)),
 oD 113 (.idxArr 128 1 (.t 112) (.k (.int .i64 46))),
 oD 114 (.load1 (.t 113)),
 oD 115 (.callv (.t 108) [(.k (.int .i64 4)), (.t 114)]),
 oD 116 (.buildSlice [(.int .i64 0), (.int .i64 0), (.int .i64 0), (.int .i64 0), (.int .i64 0)] 5 1 [(0, 5, (.t 115))]),
 oD 117 (.call 231 [(.t 107), (.t 116)])])
 (.keep []))
 .skip))))))))))))
  results := []
theorem ok213 : FnOK Tryz.prog pureL 213 a213 := ⟨Tryz.f213, [(0, [0, 4, 5]), (1, [0, 4, 5, 6]), (2, [0, 4, 5, 6, 31]), (3, [0, 4, 5, 6]), (4, [0, 4, 5, 6]), (5, [0, 4, 5, 38]), (6, []), (7, [0, 4, 5, 7]), (8, [0, 4, 5, 7, 51]), (10, [0, 5, 7, 81]), (12, [0, 7, 98]), (13, []), (11, []), (9, [])], [], Tryz.func213, by kernel_rfl⟩
/-- (*stylus/items.setter).spell -/
def a214 : AFunc where
  body :=
  (.seq (.ops (some [0, 2]) [oD 7 (.mov (.t 0)),
 oD 8 (.nilCheck (.t 7)),
 oD 9 (.fieldAddr 0 (.t 8)),
 oD 10 (.fieldAddr 130 (.t 9)),
 oD 11 (.load1 (.t 10)),
 oD 12 (.mov (.t 0)),
 oD 13 (.nilCheck (.t 12)),
 oD 14 (.fieldAddr 132 (.t 13)),
 oD 15 (.load1 (.t 14)),
 oD 16 (.bytesStr (.t 15)),
 oD 17 (.call 232 [(.t 11), (.t 16)]),
 oD 2 (.mov (.t 17))])
 (.seq (.seq (.seq (.ops none [oD 18 (.mov (.t 0)),
 oD 19 (.nilCheck (.t 18)),
 oD 20 (.fieldAddr 132 (.t 19)),
 oD 21 (.load1 (.t 20)),
 oD 22 (.len .slice (.t 21)),
 oD 23 (.mov (.k (.int .i64 0)))])
 (.keep [0, 2, 21, 22, 23]))
 (.block 0 (.loop (.seq (.keep [0, 2, 21, 22, 23])
 (.seq (.seq (.ops none [oD 24 (.bin .lss (.t 23) (.t 22))])
 (.keep [0, 2, 21, 22, 23, 24]))
 (.seq (.cond (.t 24) .skip
 (.exit 0))
 (.seq (.block 1 (.seq (.seq (.ops none [oD 25 (.mov (.t 23)),
 oD 26 (.idxSl 1 (.t 21) (.t 23)),
 oD 27 (.load1 (.t 26)),
 oD 3 (.mov (.t 25)),
 oD 4 (.mov (.t 27))])
 (.keep [0, 2, 3, 4, 21, 22, 23]))
 (.seq (.seq (.seq (.ops none [oD 29 (.mov (.t 2)),
 oD 30 (.mov (.t 3)),
 oD 31 (.call 233 [(.t 29), (.t 30)]),
 oD 28 (.mov (.t 31)),
 oD 32 (.extract 0 (.t 28)),
 oD 33 (.extract 1 (.t 28)),
 oD 5 (.mov (.t 32)),
 oD 6 (.mov (.t 33))])
 (.keep [0, 2, 3, 4, 6, 21, 22, 23]))
 (.seq (.seq (.ops none [oD 34 (.mov (.t 6))])
 (.keep [0, 2, 3, 4, 21, 22, 23, 34]))
 (.cond (.t 34) (.ops (some [0, 2, 3, 4, 21, 22, 23]) [oD 35 (.mov (.t 0)),
 oD 36 (.mov (.t 0)),
 oD 37 (.nilCheck (.t 36)),
 oD 38 (.fieldAddr 0 (.t 37)),
 oD 39 (.fieldAddr 0 (.t 38)),
 oD 40 (.idxArr 128 1 (.t 39) (.k (.int .i64 45))),
 oD 41 (.load1 (.t 40)),
 oD 42 (.mov (.t 0)),
 oD 43 (.nilCheck (.t 42)),
 oD 44 (.fieldAddr 133 (.t 43)),
 oD 45 (.load1 (.t 44)),
 oD 46 (.mov (.t 3)),
 oD 47 (.bin .add (.t 45) (.t 46)),
 oD 48 (.build [(.int .i64 0), (.int .i64 0), (.int .i64 0), (.int .i64 0), (.int .i64 0)] [(0, 1, (.k (.int .i64 3))), (1, 1, (.t 41)), (4, 1, (.t 47))]),
 oD 49 (.buildSlice [(.int .i64 0), (.int .i64 0), (.int .i64 0), (.int .i64 0), (.int .i64 0)] 5 1 [(0, 5, (.t 48))]),
 oD 50 (.call 231 [(.t 35), (.t 49)])])
 .skip)))
 (.ops (some [0, 2, 21, 22, 23]) [oD 51 (.mov (.t 0)),
 oD 52 (.mov (.t 0)),
 oD 53 (.mov (.t 4)),
 oD 54 (.nilCheck (.t 52)),
 oD 55 (.fieldAddr 0 (.t 54)),
 oD 56 (.fieldAddr 0 (.t 55)),
 oD 57 (.idxArr 128 1 (.t 56) (.t 53)),
 oD 58 (.load1 (.t 57)),
 oD 59 (.mov (.t 0)),
 oD 60 (.nilCheck (.t 59)),
 oD 61 (.fieldAddr 133 (.t 60)),
 oD 62 (.load1 (.t 61)),
 oD 63 (.mov (.t 3)),
 oD 64 (.bin .add (.t 62) (.t 63)),
 oD 65 (.build [(.int .i64 0), (.int .i64 0), (.int .i64 0), (.int .i64 0), (.int .i64 0)] [(0, 1, (.k (.int .i64 1))), (1, 1, (.t 58)), (4, 1, (.t 64))]),
 oD 66 (.buildSlice [(.int .i64 0), (.int .i64 0), (.int .i64 0), (.int .i64 0), (.int .i64 0)] 5 1 [(0, 5, (.t 65))]),
 oD 67 (.call 231 [(.t 51), (.t 66)])]))))
 (.seq (.ops none [oD 68 (.bin .add (.t 23) (.k (.int .i64 1))),
 oD 23 (.mov (.t 68))])
 (.keep [0, 2, 21, 22, 23])))))))))
 (.seq (.ops none [oD 69 (.mov (.t 0)),
 oD 70 (.nilCheck (.t 69)),
 oD 71 (.fieldAddr 132 (.t 70)),
 oN (.store 1 (.t 71) (.k .nilslice))])
 (.keep []))))
  results := []
theorem ok214 : FnOK Tryz.prog pureL 214 a214 := ⟨Tryz.f214, [(0, [0, 2]), (1, [0, 2, 21, 22, 23]), (2, [0, 2, 21, 22, 23, 24]), (3, [0, 2, 3, 4, 21, 22, 23]), (4, [0, 2, 3, 4, 6, 21, 22, 23]), (5, [0, 2, 3, 4, 21, 22, 23, 34]), (6, [0, 2, 3, 4, 21, 22, 23]), (7, [0, 2, 21, 22, 23]), (8, [0, 2, 21, 22, 23]), (9, [])], [(0, [0, 2, 21, 22, 23])], Tryz.func214, by kernel_rfl⟩
/-- stylus/best.Check -/
def a215 : AFunc where
  body :=
  (.seq (.seq (.ops none [oD 4 (.mov (.k (.int .i64 0)))])
 (.keep [0, 1]))
 (.seq (.seq (.ops none [oD 5 (.alloc [.nilfunc]),
 oN (.store 1 (.t 5) (.k (.func (.fn 234) [] [])))])
 (.keep [0, 1, 5]))
 (.seq (.seq (.ops none [oD 7 (.makeFunc 235 [] [(.t 5)]),
 oD 6 (.mov (.t 7))])
 (.keep [0, 1, 6]))
 (.seq (.seq (.seq (.ops none [oD 8 (.mov (.t 1)),
 oD 9 (.bin .lss (.t 8) (.k (.int .i64 1))),
 oD 10 (.mov (.t 9)),
 oG 11 10 false (.mov (.t 1)),
 oG 12 10 false (.bin .gtr (.t 11) (.k (.int .i64 1000000))),
 oD 13 (.pick (.t 10) (.k (.bool true)) (.t 12)),
 oD 14 (.mov (.t 13)),
 oG 15 14 false (.mov (.t 0)),
 oG 16 14 false (.len .slice (.t 15)),
 oG 17 14 false (.bin .gtr (.t 16) (.k (.int .i64 16384))),
 oD 18 (.pick (.t 14) (.k (.bool true)) (.t 17)),
 oD 19 (.mov (.t 18)),
 oG 20 19 false (.mov (.t 0)),
 oG 21 19 false (.mov (.t 6)),
 oG 22 19 false (.call 224 [(.t 20), (.t 21)]),
 oD 23 (.pick (.t 19) (.k (.bool true)) (.t 22))])
 (.keep [23]))
 (.cond (.t 23) (.seq (.seq (.ops none [oD 4 (.mov (.k (.int .i64 1)))])
 (.keep [4]))
 .ret)
 .skip))
 (.seq (.seq (.ops none [oD 4 (.mov (.k (.int .i64 0)))])
 (.keep [4]))
 .ret)))))
  results := [.tmp 4]
theorem ok215 : FnOK Tryz.prog pureL 215 a215 := ⟨Tryz.f215, [(0, [0, 1]), (1, [0, 1, 5]), (2, [0, 1, 6]), (3, [23]), (4, [4]), (5, [4])], [], Tryz.func215, by kernel_rfl⟩
/-- stylus/best.begin -/
def a216 : AFunc where
  body :=
  (.seq (.seq (.ops none [oD 4 (.alloc [.nilslice, (.int .i64 0), .nilslice])])
 (.keep [0, 1, 4]))
 (.seq (.seq (.ops none [oD 9 (.mov (.t 0)),
 oD 10 (.mov (.t 1)),
 oD 11 (.mov (.t 0)),
 oD 12 (.len .slice (.t 11)),
 oD 13 (.bin .add (.t 12) (.k (.int .i64 1))),
 oD 14 (.makeSlice [(.int .i64 0), (.int .i64 0), (.int .i64 0)] 3 (.k (.int .i64 1)) (.t 13)),
 oD 15 (.build [.nilslice, (.int .i64 0), .nilslice] [(0, 1, (.t 9)), (1, 1, (.t 10)), (2, 1, (.t 14))]),
 oD 5 (.alloc [.nilslice, (.int .i64 0), .nilslice]),
 oN (.store 3 (.t 5) (.t 15))])
 (.keep [0, 4, 5]))
 (.seq (.seq (.seq (.ops none [oD 16 (.mov (.t 0)),
 oD 17 (.len .slice (.t 16)),
 oD 18 (.mov (.k (.int .i64 0)))])
 (.keep [4, 5, 16, 17, 18]))
 (.block 0 (.loop (.seq (.keep [4, 5, 16, 17, 18])
 (.seq (.seq (.ops none [oD 19 (.bin .lss (.t 18) (.t 17))])
 (.keep [4, 5, 16, 17, 18, 19]))
 (.seq (.cond (.t 19) .skip
 (.exit 0))
 (.seq (.block 1 (.seq (.seq (.ops none [oD 20 (.idxSl 5 (.t 16) (.t 18)),
 oD 21 (.loadN 5 (.t 20)),
 oD 7 (.alloc [(.int .i64 0), (.int .i64 0), (.int .i64 0), (.int .i64 0), (.int .i64 0)]),
 oN (.store 5 (.t 7) (.t 21))])
 (.keep [4, 5, 7, 16, 17, 18]))
 (.seq (.seq (.ops none [oD 22 (.fieldAddr 2 (.t 5)),
 oD 23 (.load1 (.t 22)),
 oD 24 (.fieldAddr 2 (.t 5)),
 oD 25 (.load1 (.t 24)),
 oD 26 (.len .slice (.t 25)),
 oD 27 (.bin .sub (.t 26) (.k (.int .i64 1))),
 oD 28 (.idxSl 3 (.t 23) (.t 27)),
 oD 29 (.loadN 3 (.t 28)),
 oD 8 (.alloc [(.int .i64 0), (.int .i64 0), (.int .i64 0)]),
 oN (.store 3 (.t 8) (.t 29))])
 (.keep [4, 5, 7, 8, 16, 17, 18]))
 (.seq (.seq (.seq (.ops none [oD 30 (.fieldAddr 0 (.t 7)),
 oD 31 (.load1 (.t 30))])
 (.keep [4, 5, 7, 8, 16, 17, 18, 31]))
 (.block 2 (.seq (.seq (.ops none [oD 33 (.eq false (.leaf .int) (.t 31) (.k (.int .i64 2))),
 oD 32 (.mov (.t 33))])
 (.keep [4, 5, 7, 8, 16, 17, 18, 31, 32]))
 (.cond (.t 32) (.seq (.ops none [oD 34 (.fieldAddr 0 (.t 8)),
 oD 35 (.load1 (.t 34)),
 oD 36 (.fieldAddr 1 (.t 7)),
 oD 37 (.load1 (.t 36)),
 oD 38 (.bin .add (.t 35) (.t 37)),
 oD 39 (.fieldAddr 1 (.t 8)),
 oD 40 (.load1 (.t 39)),
 oD 41 (.fieldAddr 2 (.t 7)),
 oD 42 (.load1 (.t 41)),
 oD 43 (.bin .add (.t 40) (.t 42)),
 oD 44 (.fieldAddr 2 (.t 8)),
 oD 45 (.load1 (.t 44)),
 oD 46 (.fieldAddr 3 (.t 7)),
 oD 47 (.load1 (.t 46)),
 oD 48 (.bin .add (.t 45) (.t 47)),
 oD 49 (.build [(.int .i64 0), (.int .i64 0), (.int .i64 0)] [(0, 1, (.t 38)), (1, 1, (.t 43)), (2, 1, (.t 48))]),
 oN (.store 3 (.t 8) (.t 49))])
 (.keep [4, 5, 8, 16, 17, 18]))
 (.seq (.seq (.seq (.ops none [oD 51 (.eq false (.leaf .int) (.t 31) (.k (.int .i64 1))),
 oD 50 (.mov (.t 51))])
 (.keep [4, 5, 7, 8, 16, 17, 18, 31, 50]))
 (.cond (.t 50) .skip
 (.seq (.ops none [oD 52 (.eq false (.leaf .int) (.t 31) (.k (.int .i64 4))),
 oD 50 (.mov (.t 52))])
 (.keep [4, 5, 7, 8, 16, 17, 18, 50]))))
 (.cond (.t 50) (.seq (.ops none [oD 53 (.fieldAddr 0 (.t 8)),
 oD 54 (.load1 (.t 53)),
 oD 55 (.fieldAddr 1 (.t 7)),
 oD 56 (.load1 (.t 55)),
 oD 57 (.bin .add (.t 54) (.t 56)),
 oD 58 (.fieldAddr 0 (.t 8)),
 oN (.store 1 (.t 58) (.t 57))])
 (.keep [4, 5, 8, 16, 17, 18]))
 .skip))))))
 (.seq (.ops none [oD 59 (.fieldAddr 2 (.t 5)),
 oD 60 (.load1 (.t 59)),
 oD 61 (.loadN 3 (.t 8)),
 oD 62 (.buildSlice [(.int .i64 0), (.int .i64 0), (.int .i64 0)] 3 1 [(0, 3, (.t 61))]),
 oD 63 (.append 3 (.t 60) (.t 62)),
 oD 64 (.fieldAddr 2 (.t 5)),
 oN (.store 1 (.t 64) (.t 63))])
 (.keep [4, 5, 16, 17, 18]))))))
 (.seq (.ops none [oD 65 (.bin .add (.t 18) (.k (.int .i64 1))),
 oD 18 (.mov (.t 65))])
 (.keep [4, 5, 16, 17, 18])))))))))
 (.seq (.seq (.ops none [oD 66 (.loadN 3 (.t 5)),
 oN (.store 3 (.t 4) (.t 66))])
 (.keep [4]))
 .ret))))
  results := [.cellN 4 3]
theorem ok216 : FnOK Tryz.prog pureL 216 a216 := ⟨Tryz.f216, [(0, [0, 1, 4]), (1, [0, 4, 5]), (2, [4, 5, 16, 17, 18]), (3, [4, 5, 16, 17, 18, 19]), (4, [4, 5, 7, 16, 17, 18]), (5, [4, 5, 7, 8, 16, 17, 18]), (6, [4, 5, 7, 8, 16, 17, 18, 31]), (7, [4, 5, 7, 8, 16, 17, 18, 31, 32]), (9, [4, 5, 7, 8, 16, 17, 18, 31, 50]), (10, [4, 5, 7, 8, 16, 17, 18, 50]), (11, [4, 5, 8, 16, 17, 18]), (8, [4, 5, 8, 16, 17, 18]), (12, [4, 5, 16, 17, 18]), (13, [4, 5, 16, 17, 18]), (14, [4])], [(0, [4, 5, 16, 17, 18])], Tryz.func216, by kernel_rfl⟩
/-- (stylus/best.flow).places -/
def a217 : AFunc where
  body :=
  (.seq (.seq (.ops none [oD 1 (.box (.t 0)),
 oD 2 (.mov (.k .nilfunc))])
 (.keep [1]))
 (.seq (.seq (.ops none [oD 3 (.makeFunc 236 [] [(.t 1)]),
 oD 2 (.mov (.t 3))])
 (.keep [2]))
 .ret))
  results := [.tmp 2]
theorem ok217 : FnOK Tryz.prog pureL 217 a217 := ⟨Tryz.f217, [(0, [1]), (1, [2])], [], Tryz.func217, by kernel_rfl⟩
/-- (stylus/best.flow).legal -/
def a218 : AFunc where
  body :=
  (.seq (.seq (.ops none [oD 3 (.box (.t 0)),
 oD 6 (.mov (.k (.bool false)))])
 (.keep [1, 2, 3]))
 (.seq (.seq (.ops none [oD 7 (.loadN 3 (.t 3)),
 oD 8 (.mov (.t 1)),
 oD 9 (.call 238 [(.t 7), (.t 8)]),
 oD 10 (.un .not (.t 9)),
 oD 11 (.mov (.t 10)),
 oG 12 11 false (.loadN 3 (.t 3)),
 oG 13 11 false (.mov (.t 2)),
 oG 14 11 false (.call 238 [(.t 12), (.t 13)]),
 oG 15 11 false (.un .not (.t 14)),
 oD 16 (.pick (.t 11) (.k (.bool true)) (.t 15)),
 oD 6 (.mov (.t 16))])
 (.keep [6]))
 .ret))
  results := [.tmp 6]
theorem ok218 : FnOK Tryz.prog pureL 218 a218 := ⟨Tryz.f218, [(0, [1, 2, 3]), (1, [6])], [], Tryz.func218, by kernel_rfl⟩
/-- (stylus/best.flow).demerits -/
def a219 : AFunc where
  body :=
  (.seq (.seq (.ops none [oD 3 (.box (.t 0)),
 oD 6 (.mov (.k (.int .i64 0)))])
 (.keep [1, 2, 3]))
 (.seq (.seq (.ops none [oD 10 (.loadN 3 (.t 3)),
 oD 11 (.mov (.t 1)),
 oD 12 (.mov (.t 2)),
 oD 13 (.call 239 [(.t 10), (.t 11), (.t 12)]),
 oD 7 (.alloc [(.int .i64 0), (.int .i64 0), (.int .i64 0), (.int .i64 0), (.bool false)]),
 oN (.store 5 (.t 7) (.t 13))])
 (.keep [2, 3, 7]))
 (.seq (.seq (.ops none [oD 14 (.fieldAddr 3 (.t 7)),
 oD 15 (.load1 (.t 14)),
 oD 16 (.bin .mul (.k (.int .i64 100)) (.t 15)),
 oD 17 (.fieldAddr 3 (.t 7)),
 oD 18 (.load1 (.t 17)),
 oD 19 (.bin .mul (.t 16) (.t 18)),
 oD 20 (.fieldAddr 3 (.t 7)),
 oD 21 (.load1 (.t 20)),
 oD 22 (.bin .mul (.t 19) (.t 21)),
 oD 23 (.bin .shr (.t 22) (.k (.int .u64 21))),
 oD 24 (.minmax false (.t 23) (.k (.int .i64 10000))),
 oD 25 (.bin .add (.k (.int .i64 10)) (.t 24)),
 oD 8 (.mov (.t 25))])
 (.keep [2, 3, 7, 8]))
 (.seq (.seq (.ops none [oD 26 (.mov (.t 8)),
 oD 27 (.mov (.t 8)),
 oD 28 (.bin .mul (.t 26) (.t 27)),
 oD 9 (.mov (.t 28))])
 (.keep [2, 3, 7, 9]))
 (.seq (.seq (.seq (.ops none [oD 29 (.loadN 3 (.t 3)),
 oD 30 (.mov (.t 2)),
 oD 31 (.call 238 [(.t 29), (.t 30)])])
 (.keep [7, 9, 31]))
 (.cond (.t 31) (.seq (.ops none [oD 32 (.mov (.t 9)),
 oD 33 (.bin .add (.t 32) (.k (.int .i64 2500))),
 oD 9 (.mov (.t 33))])
 (.keep [7, 9]))
 .skip))
 (.seq (.seq (.seq (.ops none [oD 34 (.fieldAddr 4 (.t 7)),
 oD 35 (.load1 (.t 34))])
 (.keep [9, 35]))
 (.cond (.t 35) (.seq (.ops none [oD 36 (.mov (.t 9)),
 oD 37 (.bin .add (.t 36) (.k (.int .i64 1000000000000))),
 oD 9 (.mov (.t 37))])
 (.keep [9]))
 .skip))
 (.seq (.seq (.ops none [oD 38 (.mov (.t 9)),
 oD 6 (.mov (.t 38))])
 (.keep [6]))
 .ret)))))))
  results := [.tmp 6]
theorem ok219 : FnOK Tryz.prog pureL 219 a219 := ⟨Tryz.f219, [(0, [1, 2, 3]), (1, [2, 3, 7]), (2, [2, 3, 7, 8]), (3, [2, 3, 7, 9]), (4, [7, 9, 31]), (5, [7, 9]), (6, [9, 35]), (7, [9]), (8, [6])], [], Tryz.func219, by kernel_rfl⟩
/-- slices.Reverse[[]int,int] -/
def a220 : AFunc where
  body :=
  (.seq (.seq (.ops none [oD 4 (.mov (.t 0)),
 oD 5 (.len .slice (.t 4)),
 oD 6 (.bin .sub (.t 5) (.k (.int .i64 1))),
 oD 2 (.mov (.k (.int .i64 0))),
 oD 3 (.mov (.t 6))])
 (.keep [0, 2, 3]))
 (.block 0 (.loop (.seq (.keep [0, 2, 3])
 (.seq (.seq (.seq (.ops none [oD 7 (.mov (.t 2)),
 oD 8 (.mov (.t 3)),
 oD 9 (.bin .lss (.t 7) (.t 8))])
 (.keep [0, 2, 3, 9]))
 (.cond (.t 9) .skip
 (.exit 0)))
 (.seq (.block 1 (.ops (some [0, 2, 3]) [oD 14 (.mov (.t 0)),
 oD 15 (.mov (.t 2)),
 oD 16 (.mov (.t 0)),
 oD 17 (.mov (.t 3)),
 oD 18 (.mov (.t 0)),
 oD 19 (.mov (.t 3)),
 oD 20 (.idxSl 1 (.t 18) (.t 19)),
 oD 21 (.load1 (.t 20)),
 oD 22 (.mov (.t 0)),
 oD 23 (.mov (.t 2)),
 oD 24 (.idxSl 1 (.t 22) (.t 23)),
 oD 25 (.load1 (.t 24)),
 oD 26 (.idxSl 1 (.t 14) (.t 15)),
 oN (.store 1 (.t 26) (.t 21)),
 oD 27 (.idxSl 1 (.t 16) (.t 17)),
 oN (.store 1 (.t 27) (.t 25))]))
 (.seq (.ops none [oD 10 (.mov (.t 2)),
 oD 11 (.bin .add (.t 10) (.k (.int .i64 1))),
 oD 12 (.mov (.t 3)),
 oD 13 (.bin .sub (.t 12) (.k (.int .i64 1))),
 oD 2 (.mov (.t 11)),
 oD 3 (.mov (.t 13))])
 (.keep [0, 2, 3]))))))))
  results := []
theorem ok220 : FnOK Tryz.prog pureL 220 a220 := ⟨Tryz.f220, [(0, [0, 2, 3]), (1, [0, 2, 3, 9]), (3, [0, 2, 3]), (2, [0, 2, 3])], [(0, [0, 2, 3])], Tryz.func220, by kernel_rfl⟩
/-- stylus/best.Demerits -/
def a221 : AFunc where
  body :=
  (.seq (.seq (.ops none [oD 6 (.mov (.k (.int .i64 0))),
 oD 7 (.mov (.k (.int .i64 0)))])
 (.keep [0, 1, 2]))
 (.seq (.seq (.ops none [oD 13 (.mov (.t 0)),
 oD 14 (.mov (.t 1)),
 oD 15 (.call 216 [(.t 13), (.t 14)]),
 oD 8 (.alloc [.nilslice, (.int .i64 0), .nilslice]),
 oN (.store 3 (.t 8) (.t 15))])
 (.keep [0, 1, 2, 8]))
 (.seq (.seq (.seq (.ops none [oD 16 (.mov (.t 0)),
 oD 17 (.mov (.t 1)),
 oD 18 (.call 215 [(.t 16), (.t 17)]),
 oD 19 (.eq true (.leaf .int) (.t 18) (.k (.int .i64 0))),
 oD 20 (.mov (.t 19)),
 oG 21 20 false (.mov (.t 2)),
 oG 22 20 false (.len .slice (.t 21)),
 oG 23 20 false (.eq false (.leaf .int) (.t 22) (.k (.int .i64 0))),
 oD 24 (.pick (.t 20) (.k (.bool true)) (.t 23)),
 oD 25 (.mov (.t 24)),
 oG 26 25 false (.mov (.t 2)),
 oG 27 25 false (.mov (.t 2)),
 oG 28 25 false (.len .slice (.t 27)),
 oG 29 25 false (.bin .sub (.t 28) (.k (.int .i64 1))),
 oG 30 25 false (.idxSl 1 (.t 26) (.t 29)),
 oG 31 25 false (.load1 (.t 30)),
 oG 32 25 false (.mov (.t 0)),
 oG 33 25 false (.len .slice (.t 32)),
 oG 34 25 false (.eq true (.leaf .int) (.t 31) (.t 33)),
 oD 35 (.pick (.t 25) (.k (.bool true)) (.t 34))])
 (.keep [2, 8, 35]))
 (.cond (.t 35) (.seq (.seq (.ops none [oD 6 (.mov (.k (.int .i64 0))),
 oD 7 (.mov (.k (.int .i64 1)))])
 (.keep [6, 7]))
 .ret)
 .skip))
 (.seq (.seq (.ops none [oD 9 (.mov (.k (.int .i64 0))),
 oD 10 (.mov (.k (.int .i64 (-1))))])
 (.keep [2, 8, 9, 10]))
 (.seq (.seq (.seq (.ops none [oD 36 (.mov (.t 2)),
 oD 37 (.len .slice (.t 36)),
 oD 38 (.mov (.k (.int .i64 0)))])
 (.keep [8, 9, 10, 36, 37, 38]))
 (.block 0 (.loop (.seq (.keep [8, 9, 10, 36, 37, 38])
 (.seq (.seq (.ops none [oD 39 (.bin .lss (.t 38) (.t 37))])
 (.keep [8, 9, 10, 36, 37, 38, 39]))
 (.seq (.cond (.t 39) .skip
 (.exit 0))
 (.seq (.block 1 (.seq (.seq (.ops none [oD 40 (.idxSl 1 (.t 36) (.t 38)),
 oD 41 (.load1 (.t 40)),
 oD 12 (.mov (.t 41))])
 (.keep [8, 9, 10, 12, 36, 37, 38]))
 (.seq (.seq (.seq (.ops none [oD 42 (.mov (.t 12)),
 oD 43 (.mov (.t 10)),
 oD 44 (.bin .leq (.t 42) (.t 43)),
 oD 45 (.mov (.t 44)),
 oG 46 45 false (.loadN 3 (.t 8)),
 oG 47 45 false (.mov (.t 12)),
 oG 48 45 false (.call 237 [(.t 46), (.t 47)]),
 oG 49 45 false (.un .not (.t 48)),
 oD 50 (.pick (.t 45) (.k (.bool true)) (.t 49)),
 oD 51 (.mov (.t 50)),
 oG 52 51 false (.loadN 3 (.t 8)),
 oG 53 51 false (.mov (.t 10)),
 oG 54 51 false (.mov (.t 12)),
 oG 55 51 false (.call 218 [(.t 52), (.t 53), (.t 54)]),
 oG 56 51 false (.un .not (.t 55)),
 oD 57 (.pick (.t 51) (.k (.bool true)) (.t 56))])
 (.keep [8, 9, 10, 12, 36, 37, 38, 57]))
 (.cond (.t 57) (.seq (.seq (.ops none [oD 6 (.mov (.k (.int .i64 0))),
 oD 7 (.mov (.k (.int .i64 1)))])
 (.keep [6, 7]))
 .ret)
 .skip))
 (.seq (.ops none [oD 58 (.mov (.t 9)),
 oD 59 (.loadN 3 (.t 8)),
 oD 60 (.mov (.t 10)),
 oD 61 (.mov (.t 12)),
 oD 62 (.call 219 [(.t 59), (.t 60), (.t 61)]),
 oD 63 (.bin .add (.t 58) (.t 62)),
 oD 64 (.mov (.t 12)),
 oD 9 (.mov (.t 63)),
 oD 10 (.mov (.t 64))])
 (.keep [8, 9, 10, 36, 37, 38])))))
 (.seq (.ops none [oD 65 (.bin .add (.t 38) (.k (.int .i64 1))),
 oD 38 (.mov (.t 65))])
 (.keep [8, 9, 10, 36, 37, 38])))))))))
 (.seq (.seq (.ops none [oD 66 (.mov (.t 9)),
 oD 6 (.mov (.t 66)),
 oD 7 (.mov (.k (.int .i64 0)))])
 (.keep [6, 7]))
 .ret))))))
  results := [.tmp 6, .tmp 7]
theorem ok221 : FnOK Tryz.prog pureL 221 a221 := ⟨Tryz.f221, [(0, [0, 1, 2]), (1, [0, 1, 2, 8]), (2, [2, 8, 35]), (3, [6, 7]), (4, [2, 8, 9, 10]), (5, [8, 9, 10, 36, 37, 38]), (6, [8, 9, 10, 36, 37, 38, 39]), (7, [8, 9, 10, 12, 36, 37, 38]), (8, [8, 9, 10, 12, 36, 37, 38, 57]), (9, [6, 7]), (10, [8, 9, 10, 36, 37, 38]), (11, [8, 9, 10, 36, 37, 38]), (12, [6, 7])], [(0, [8, 9, 10, 36, 37, 38])], Tryz.func221, by kernel_rfl⟩
/-- stylus/lines.Of$1 -/
def a222 : AFunc where
  body :=
  (.seq (.seq (.ops none [oD 2 (.box (.t 0)),
 oD 3 (.mov (.k (.bool false)))])
 (.keep [1, 2]))
 (.seq (.seq (.ops none [oD 7 (.load1 (.t 1)),
 oD 8 (.loadN 5 (.t 2)),
 oD 9 (.call 223 [(.t 7), (.t 8)]),
 oD 6 (.mov (.t 9)),
 oD 10 (.extract 0 (.t 6)),
 oD 11 (.extract 1 (.t 6)),
 oD 4 (.mov (.t 10)),
 oD 5 (.mov (.t 11))])
 (.keep [5]))
 (.seq (.seq (.ops none [oD 12 (.mov (.t 5)),
 oD 13 (.un .not (.t 12)),
 oD 3 (.mov (.t 13))])
 (.keep [3]))
 .ret)))
  results := [.tmp 3]
theorem ok222 : FnOK Tryz.prog pureL 222 a222 := ⟨Tryz.f222, [(0, [1, 2]), (1, [5]), (2, [3])], [], Tryz.func222, by kernel_rfl⟩
/-- stylus/lines.shows -/
def a223 : AFunc where
  body :=
  (.seq (.seq (.ops none [oD 3 (.box (.t 1)),
 oD 4 (.mov (.k (.int .u8 0))),
 oD 5 (.mov (.k (.bool false)))])
 (.keep [0, 3]))
 (.seq (.seq (.seq (.ops none [oD 7 (.fieldAddr 0 (.t 3)),
 oD 8 (.load1 (.t 7)),
 oD 9 (.eq false (.leaf .int) (.t 8) (.k (.int .i64 3)))])
 (.keep [0, 3, 9]))
 (.cond (.t 9) (.seq (.seq (.ops none [oD 4 (.mov (.k (.int .u8 45))),
 oD 5 (.mov (.k (.bool true)))])
 (.keep [4, 5]))
 .ret)
 .skip))
 (.seq (.seq (.seq (.ops none [oD 10 (.fieldAddr 4 (.t 3)),
 oD 11 (.load1 (.t 10)),
 oD 12 (.bin .lss (.t 11) (.k (.int .i64 0))),
 oD 13 (.mov (.t 12)),
 oG 14 13 false (.fieldAddr 4 (.t 3)),
 oG 15 13 false (.load1 (.t 14)),
 oG 16 13 false (.mov (.t 0)),
 oG 17 13 false (.len .slice (.t 16)),
 oG 18 13 false (.bin .geq (.t 15) (.t 17)),
 oD 19 (.pick (.t 13) (.k (.bool true)) (.t 18))])
 (.keep [0, 3, 19]))
 (.cond (.t 19) (.seq (.seq (.ops none [oD 4 (.mov (.k (.int .u8 0))),
 oD 5 (.mov (.k (.bool false)))])
 (.keep [4, 5]))
 .ret)
 .skip))
 (.seq (.seq (.ops none [oD 20 (.mov (.t 0)),
 oD 21 (.fieldAddr 4 (.t 3)),
 oD 22 (.load1 (.t 21)),
 oD 23 (.idxSl 3 (.t 20) (.t 22)),
 oD 24 (.loadN 3 (.t 23)),
 oD 6 (.alloc [(.int .i64 0), (.int .u8 0), (.int .i64 0)]),
 oN (.store 3 (.t 6) (.t 24))])
 (.keep [3, 6]))
 (.seq (.seq (.seq (.ops none [oD 25 (.fieldAddr 0 (.t 3)),
 oD 26 (.load1 (.t 25)),
 oD 27 (.eq false (.leaf .int) (.t 26) (.k (.int .i64 4)))])
 (.keep [6, 27]))
 (.cond (.t 27) (.seq (.ops (some [4, 5]) [oD 28 (.fieldAddr 0 (.t 6)),
 oD 29 (.load1 (.t 28)),
 oD 30 (.eq false (.leaf .int) (.t 29) (.k (.int .i64 2))),
 oD 31 (.mov (.t 30)),
 oG 32 31 true (.fieldAddr 1 (.t 6)),
 oG 33 31 true (.load1 (.t 32)),
 oG 34 31 true (.eq false (.leaf .int) (.t 33) (.k (.int .u8 110))),
 oD 35 (.pick (.t 31) (.t 34) (.k (.bool false))),
 oD 4 (.mov (.k (.int .u8 42))),
 oD 5 (.mov (.t 35))])
 .ret)
 .skip))
 (.seq (.ops (some [4, 5]) [oD 36 (.fieldAddr 1 (.t 6)),
 oD 37 (.load1 (.t 36)),
 oD 38 (.fieldAddr 0 (.t 6)),
 oD 39 (.load1 (.t 38)),
 oD 40 (.eq false (.leaf .int) (.t 39) (.k (.int .i64 1))),
 oD 4 (.mov (.t 37)),
 oD 5 (.mov (.t 40))])
 .ret))))))
  results := [.tmp 4, .tmp 5]
theorem ok223 : FnOK Tryz.prog pureL 223 a223 := ⟨Tryz.f223, [(0, [0, 3]), (1, [0, 3, 9]), (2, [4, 5]), (3, [0, 3, 19]), (4, [4, 5]), (5, [3, 6]), (6, [6, 27]), (7, [4, 5]), (8, [4, 5])], [], Tryz.func223, by kernel_rfl⟩
/-- slices.ContainsFunc[[]stylus/api.Item,stylus/api.Item] -/
def a224 : AFunc where
  body :=
  (.seq (.seq (.ops none [oD 4 (.mov (.k (.bool false)))])
 (.keep [0, 1]))
 (.seq (.seq (.ops none [oD 5 (.mov (.t 0)),
 oD 6 (.mov (.t 1)),
 oD 7 (.call 240 [(.t 5), (.t 6)]),
 oD 8 (.bin .geq (.t 7) (.k (.int .i64 0))),
 oD 4 (.mov (.t 8))])
 (.keep [4]))
 .ret))
  results := [.tmp 4]
theorem ok224 : FnOK Tryz.prog pureL 224 a224 := ⟨Tryz.f224, [(0, [0, 1]), (1, [4])], [], Tryz.func224, by kernel_rfl⟩
/-- stylus/lines.set -/
def a225 : AFunc where
  body :=
  (.seq (.seq (.ops none [oD 10 (.alloc [.nilslice, (.int .i64 0), (.int .i64 0)])])
 (.keep [0, 1, 2, 3, 4, 10]))
 (.seq (.seq (.ops none [oD 26 (.mov (.t 1)),
 oD 27 (.call 241 [(.t 26), (.k (.func (.fn 242) [] []))]),
 oD 11 (.mov (.t 27))])
 (.keep [0, 1, 2, 3, 4, 10, 11]))
 (.seq (.seq (.seq (.ops none [oD 28 (.mov (.t 4)),
 oD 29 (.len .slice (.t 28)),
 oD 30 (.mov (.k (.int .i64 0)))])
 (.keep [0, 1, 2, 3, 4, 10, 11, 28, 29, 30]))
 (.block 0 (.loop (.seq (.keep [0, 1, 2, 3, 4, 10, 11, 28, 29, 30])
 (.seq (.seq (.ops none [oD 31 (.bin .lss (.t 30) (.t 29))])
 (.keep [0, 1, 2, 3, 4, 10, 11, 28, 29, 30, 31]))
 (.seq (.cond (.t 31) .skip
 (.exit 0))
 (.seq (.block 1 (.seq (.seq (.ops none [oD 32 (.idxSl 5 (.t 28) (.t 30)),
 oD 33 (.loadN 5 (.t 32)),
 oD 13 (.alloc [(.int .i64 0), (.int .i64 0), (.int .i64 0), (.int .i64 0), (.int .i64 0)]),
 oN (.store 5 (.t 13) (.t 33))])
 (.keep [0, 1, 2, 3, 4, 10, 11, 13, 28, 29, 30]))
 (.seq (.ops none [oD 34 (.mov (.t 11)),
 oD 35 (.fieldAddr 1 (.t 13)),
 oD 36 (.load1 (.t 35)),
 oD 37 (.bin .add (.t 34) (.t 36)),
 oD 11 (.mov (.t 37))])
 (.keep [0, 1, 2, 3, 4, 10, 11, 28, 29, 30]))))
 (.seq (.ops none [oD 38 (.bin .add (.t 30) (.k (.int .i64 1))),
 oD 30 (.mov (.t 38))])
 (.keep [0, 1, 2, 3, 4, 10, 11, 28, 29, 30])))))))))
 (.seq (.seq (.ops none [oD 39 (.mov (.t 1)),
 oD 40 (.call 241 [(.t 39), (.k (.func (.fn 243) [] []))]),
 oD 41 (.mov (.t 1)),
 oD 42 (.call 241 [(.t 41), (.k (.func (.fn 244) [] []))]),
 oD 14 (.mov (.t 40)),
 oD 15 (.mov (.t 42))])
 (.keep [0, 1, 2, 3, 4, 10, 11, 14, 15]))
 (.seq (.seq (.ops none [oD 43 (.mov (.t 2)),
 oD 44 (.mov (.t 11)),
 oD 45 (.bin .sub (.t 43) (.t 44)),
 oD 46 (.mov (.t 15)),
 oD 47 (.un .neg (.t 46)),
 oD 48 (.minmax true (.t 45) (.t 47)),
 oD 49 (.mov (.t 14)),
 oD 50 (.minmax false (.t 48) (.t 49)),
 oD 51 (.mov (.t 14)),
 oD 16 (.alloc [(.int .i64 0)]),
 oD 17 (.alloc [.nilfunc]),
 oD 18 (.alloc [(.int .i64 0)]),
 oN (.store 1 (.t 16) (.t 50)),
 oN (.store 1 (.t 17) (.k (.func (.fn 243) [] []))),
 oN (.store 1 (.t 18) (.t 51))])
 (.keep [0, 1, 2, 3, 4, 10, 11, 14, 15, 16, 17, 18]))
 (.seq (.seq (.seq (.ops none [oD 52 (.load1 (.t 16)),
 oD 53 (.bin .lss (.t 52) (.k (.int .i64 0)))])
 (.keep [0, 1, 2, 3, 4, 10, 11, 14, 15, 16, 17, 18, 53]))
 (.cond (.t 53) (.seq (.ops none [oD 54 (.mov (.t 15)),
 oN (.store 1 (.t 17) (.k (.func (.fn 244) [] []))),
 oN (.store 1 (.t 18) (.t 54))])
 (.keep [0, 1, 2, 3, 4, 10, 11, 14, 15, 16, 17, 18]))
 .skip))
 (.seq (.seq (.seq (.ops none [oD 55 (.mov (.t 3)),
 oD 56 (.mov (.t 55)),
 oG 57 56 true (.mov (.t 11)),
 oG 58 56 true (.mov (.t 2)),
 oG 59 56 true (.bin .leq (.t 57) (.t 58)),
 oD 60 (.pick (.t 56) (.t 59) (.k (.bool false)))])
 (.keep [0, 1, 2, 3, 4, 10, 11, 14, 15, 16, 17, 18, 60]))
 (.cond (.t 60) (.seq (.ops none [oN (.store 1 (.t 16) (.k (.int .i64 0)))])
 (.keep [0, 1, 2, 3, 4, 10, 11, 14, 15, 16, 17, 18]))
 .skip))
 (.seq (.seq (.ops none [oD 61 (.mov (.t 0)),
 oD 62 (.build [.nilslice, (.int .i64 0), (.int .i64 0), .nilslice] [(3, 1, (.t 61))]),
 oD 19 (.alloc [.nilslice, (.int .i64 0), (.int .i64 0), .nilslice]),
 oN (.store 4 (.t 19) (.t 62))])
 (.keep [1, 2, 3, 4, 10, 11, 14, 15, 16, 17, 18, 19]))
 (.seq (.seq (.ops none [oD 20 (.alloc [(.int .i64 0)]),
 oN (.store 1 (.t 20) (.k (.int .i64 0)))])
 (.keep [1, 2, 3, 4, 10, 11, 14, 15, 16, 17, 18, 19, 20]))
 (.seq (.seq (.ops none [oD 63 (.makeFunc 245 [] [(.t 18), (.t 16), (.t 20), (.t 17)]),
 oD 21 (.mov (.t 63))])
 (.keep [1, 2, 3, 4, 10, 11, 14, 15, 19, 21]))
 (.seq (.seq (.seq (.ops none [oD 64 (.mov (.t 1)),
 oD 65 (.len .slice (.t 64)),
 oD 66 (.mov (.k (.int .i64 0)))])
 (.keep [2, 3, 4, 10, 11, 14, 15, 19, 21, 64, 65, 66]))
 (.block 2 (.loop (.seq (.keep [2, 3, 4, 10, 11, 14, 15, 19, 21, 64, 65, 66])
 (.seq (.seq (.ops none [oD 67 (.bin .lss (.t 66) (.t 65))])
 (.keep [2, 3, 4, 10, 11, 14, 15, 19, 21, 64, 65, 66, 67]))
 (.seq (.cond (.t 67) .skip
 (.exit 2))
 (.seq (.block 3 (.seq (.seq (.ops none [oD 68 (.idxSl 5 (.t 64) (.t 66)),
 oD 69 (.loadN 5 (.t 68)),
 oD 23 (.alloc [(.int .i64 0), (.int .i64 0), (.int .i64 0), (.int .i64 0), (.int .i64 0)]),
 oN (.store 5 (.t 23) (.t 69))])
 (.keep [2, 3, 4, 10, 11, 14, 15, 19, 21, 23, 64, 65, 66]))
 (.seq (.seq (.ops none [oD 70 (.fieldAddr 0 (.t 23)),
 oD 71 (.load1 (.t 70)),
 oD 72 (.eq true (.leaf .int) (.t 71) (.k (.int .i64 3)))])
 (.keep [2, 3, 4, 10, 11, 14, 15, 19, 21, 23, 64, 65, 66, 72]))
 (.cond (.t 72) (.ops (some [2, 3, 4, 10, 11, 14, 15, 19, 21, 64, 65, 66]) [oD 73 (.loadN 5 (.t 23)),
 oD 74 (.fieldAddr 1 (.t 23)),
 oD 75 (.load1 (.t 74)),
 oD 76 (.mov (.t 21)),
 oD 77 (.loadN 5 (.t 23)),
 ⟨(some 78), none, .callv (.t 76) [(.t 77)], [⟨73, none, .loadN 5 (.t 23)⟩, ⟨75, none, .load1 (.t 74)⟩]⟩,
 oD 79 (.bin .add (.t 75) (.t 78)),
 oD 80 (.call 246 [(.t 19), (.t 73), (.t 79)])])
 .skip))))
 (.seq (.ops none [oD 81 (.bin .add (.t 66) (.k (.int .i64 1))),
 oD 66 (.mov (.t 81))])
 (.keep [2, 3, 4, 10, 11, 14, 15, 19, 21, 64, 65, 66])))))))))
 (.seq (.seq (.seq (.ops none [oD 82 (.mov (.t 4)),
 oD 83 (.len .slice (.t 82)),
 oD 84 (.mov (.k (.int .i64 0)))])
 (.keep [2, 3, 4, 10, 11, 14, 15, 19, 82, 83, 84]))
 (.block 4 (.loop (.seq (.keep [2, 3, 4, 10, 11, 14, 15, 19, 82, 83, 84])
 (.seq (.seq (.ops none [oD 85 (.bin .lss (.t 84) (.t 83))])
 (.keep [2, 3, 4, 10, 11, 14, 15, 19, 82, 83, 84, 85]))
 (.seq (.cond (.t 85) .skip
 (.exit 4))
 (.seq (.block 5 (.seq (.seq (.ops none [oD 86 (.idxSl 5 (.t 82) (.t 84)),
 oD 87 (.loadN 5 (.t 86)),
 oD 25 (.alloc [(.int .i64 0), (.int .i64 0), (.int .i64 0), (.int .i64 0), (.int .i64 0)]),
 oN (.store 5 (.t 25) (.t 87))])
 (.keep [2, 3, 4, 10, 11, 14, 15, 19, 25, 82, 83, 84]))
 (.seq (.ops none [oD 88 (.loadN 5 (.t 25)),
 oD 89 (.fieldAddr 1 (.t 25)),
 oD 90 (.load1 (.t 89)),
 oD 91 (.call 246 [(.t 19), (.t 88), (.t 90)])])
 (.keep [2, 3, 4, 10, 11, 14, 15, 19, 82, 83, 84]))))
 (.seq (.ops none [oD 92 (.bin .add (.t 84) (.k (.int .i64 1))),
 oD 84 (.mov (.t 92))])
 (.keep [2, 3, 4, 10, 11, 14, 15, 19, 82, 83, 84])))))))))
 (.seq (.seq (.ops none [oD 93 (.mov (.t 11)),
 oD 94 (.mov (.t 15)),
 oD 95 (.bin .sub (.t 93) (.t 94)),
 oD 96 (.mov (.t 2)),
 oD 97 (.bin .gtr (.t 95) (.t 96)),
 oD 98 (.call 247 [(.t 97), (.k (.int .u64 0))]),
 oD 99 (.mov (.t 3)),
 oD 100 (.un .not (.t 99)),
 oD 101 (.mov (.t 100)),
 oG 102 101 true (.mov (.t 11)),
 oG 103 101 true (.mov (.t 14)),
 oG 104 101 true (.bin .add (.t 102) (.t 103)),
 oG 105 101 true (.mov (.t 2)),
 oG 106 101 true (.bin .lss (.t 104) (.t 105)),
 oD 107 (.pick (.t 101) (.t 106) (.k (.bool false))),
 oD 108 (.call 247 [(.t 107), (.k (.int .u64 1))]),
 oD 109 (.bin .or (.t 98) (.t 108)),
 oD 110 (.mov (.t 4)),
 oD 111 (.len .slice (.t 110)),
 oD 112 (.bin .gtr (.t 111) (.k (.int .i64 0))),
 oD 113 (.call 247 [(.t 112), (.k (.int .u64 2))]),
 oD 114 (.bin .or (.t 109) (.t 113)),
 oD 115 (.fieldAddr 0 (.t 19)),
 oD 116 (.fieldAddr 2 (.t 115)),
 oN (.store 1 (.t 116) (.t 114))])
 (.keep [10, 19]))
 (.seq (.seq (.ops none [oD 117 (.fieldAddr 0 (.t 19)),
 oD 118 (.loadN 3 (.t 117)),
 oN (.store 3 (.t 10) (.t 118))])
 (.keep [10]))
 .ret))))))))))))))
  results := [.cellN 10 3]
theorem ok225 : FnOK Tryz.prog pureL 225 a225 := ⟨Tryz.f225, [(0, [0, 1, 2, 3, 4, 10]), (1, [0, 1, 2, 3, 4, 10, 11]), (2, [0, 1, 2, 3, 4, 10, 11, 28, 29, 30]), (3, [0, 1, 2, 3, 4, 10, 11, 28, 29, 30, 31]), (4, [0, 1, 2, 3, 4, 10, 11, 13, 28, 29, 30]), (5, [0, 1, 2, 3, 4, 10, 11, 28, 29, 30]), (6, [0, 1, 2, 3, 4, 10, 11, 28, 29, 30]), (7, [0, 1, 2, 3, 4, 10, 11, 14, 15]), (8, [0, 1, 2, 3, 4, 10, 11, 14, 15, 16, 17, 18]), (9, [0, 1, 2, 3, 4, 10, 11, 14, 15, 16, 17, 18, 53]), (10, [0, 1, 2, 3, 4, 10, 11, 14, 15, 16, 17, 18]), (11, [0, 1, 2, 3, 4, 10, 11, 14, 15, 16, 17, 18, 60]), (12, [0, 1, 2, 3, 4, 10, 11, 14, 15, 16, 17, 18]), (13, [1, 2, 3, 4, 10, 11, 14, 15, 16, 17, 18, 19]), (14, [1, 2, 3, 4, 10, 11, 14, 15, 16, 17, 18, 19, 20]), (15, [1, 2, 3, 4, 10, 11, 14, 15, 19, 21]), (16, [2, 3, 4, 10, 11, 14, 15, 19, 21, 64, 65, 66]), (17, [2, 3, 4, 10, 11, 14, 15, 19, 21, 64, 65, 66, 67]), (18, [2, 3, 4, 10, 11, 14, 15, 19, 21, 23, 64, 65, 66]), (19, [2, 3, 4, 10, 11, 14, 15, 19, 21, 23, 64, 65, 66, 72]), (20, [2, 3, 4, 10, 11, 14, 15, 19, 21, 64, 65, 66]), (21, [2, 3, 4, 10, 11, 14, 15, 19, 21, 64, 65, 66]), (22, [2, 3, 4, 10, 11, 14, 15, 19, 82, 83, 84]), (23, [2, 3, 4, 10, 11, 14, 15, 19, 82, 83, 84, 85]), (24, [2, 3, 4, 10, 11, 14, 15, 19, 25, 82, 83, 84]), (25, [2, 3, 4, 10, 11, 14, 15, 19, 82, 83, 84]), (26, [2, 3, 4, 10, 11, 14, 15, 19, 82, 83, 84]), (27, [10, 19]), (28, [10])], [(0, [0, 1, 2, 3, 4, 10, 11, 28, 29, 30]), (2, [2, 3, 4, 10, 11, 14, 15, 19, 21, 64, 65, 66]), (4, [2, 3, 4, 10, 11, 14, 15, 19, 82, 83, 84])], Tryz.func225, by kernel_rfl⟩
/-- stylus/lines.end -/
def a226 : AFunc where
  body :=
  (.seq (.seq (.ops none [oD 6 (.mov (.k (.int .i64 0)))])
 (.keep [0, 1, 2]))
 (.seq (.seq (.ops none [oD 7 (.mov (.k (.int .i64 (-1)))),
 oD 8 (.mov (.k (.int .i64 0)))])
 (.keep [0, 1, 2, 7, 8]))
 (.seq (.seq (.seq (.ops none [oD 10 (.mov (.t 2)),
 oD 9 (.mov (.t 10))])
 (.keep [0, 1, 7, 8, 9]))
 (.block 0 (.loop (.seq (.keep [0, 1, 7, 8, 9])
 (.seq (.seq (.seq (.ops none [oD 11 (.mov (.t 9)),
 oD 12 (.mov (.t 0)),
 oD 13 (.len .slice (.t 12)),
 oD 14 (.bin .leq (.t 11) (.t 13))])
 (.keep [0, 1, 7, 8, 9, 14]))
 (.cond (.t 14) .skip
 (.exit 0)))
 (.seq (.block 1 (.seq (.seq (.seq (.ops none [oD 17 (.mov (.t 9)),
 oD 18 (.mov (.t 0)),
 oD 19 (.len .slice (.t 18)),
 oD 20 (.eq false (.leaf .int) (.t 17) (.t 19)),
 oD 21 (.mov (.t 20)),
 oG 22 21 false (.mov (.t 0)),
 oG 23 21 false (.mov (.t 9)),
 oG 24 21 false (.idxSl 5 (.t 22) (.t 23)),
 oG 25 21 false (.fieldAddr 0 (.t 24)),
 oG 26 21 false (.load1 (.t 25)),
 oG 27 21 false (.eq false (.leaf .int) (.t 26) (.k (.int .i64 2))),
 oD 28 (.pick (.t 21) (.k (.bool true)) (.t 27))])
 (.keep [0, 1, 7, 8, 9, 28]))
 (.cond (.t 28) (.seq (.seq (.seq (.ops none [oD 29 (.mov (.t 7)),
 oD 30 (.bin .geq (.t 29) (.k (.int .i64 0))),
 oD 31 (.mov (.t 30)),
 oG 32 31 true (.mov (.t 8)),
 oG 33 31 true (.mov (.t 1)),
 oG 34 31 true (.bin .gtr (.t 32) (.t 33)),
 oD 35 (.pick (.t 31) (.t 34) (.k (.bool false)))])
 (.keep [0, 1, 7, 8, 9, 35]))
 (.cond (.t 35) (.seq (.seq (.ops none [oD 36 (.mov (.t 7)),
 oD 6 (.mov (.t 36))])
 (.keep [6]))
 .ret)
 .skip))
 (.seq (.seq (.ops none [oD 37 (.mov (.t 9)),
 oD 7 (.mov (.t 37))])
 (.keep [0, 1, 7, 8, 9]))
 (.seq (.seq (.ops none [oD 38 (.mov (.t 8)),
 oD 39 (.mov (.t 1)),
 oD 40 (.bin .gtr (.t 38) (.t 39))])
 (.keep [0, 1, 7, 8, 9, 40]))
 (.cond (.t 40) (.seq (.seq (.ops none [oD 41 (.mov (.t 7)),
 oD 6 (.mov (.t 41))])
 (.keep [6]))
 .ret)
 .skip))))
 .skip))
 (.seq (.seq (.ops none [oD 42 (.mov (.t 9)),
 oD 43 (.mov (.t 0)),
 oD 44 (.len .slice (.t 43)),
 oD 45 (.bin .lss (.t 42) (.t 44))])
 (.keep [0, 1, 7, 8, 9, 45]))
 (.cond (.t 45) (.seq (.ops none [oD 46 (.mov (.t 8)),
 oD 47 (.mov (.t 0)),
 oD 48 (.mov (.t 9)),
 oD 49 (.idxSl 5 (.t 47) (.t 48)),
 oD 50 (.loadN 5 (.t 49)),
 oD 51 (.call 242 [(.t 50)]),
 oD 52 (.bin .add (.t 46) (.t 51)),
 oD 8 (.mov (.t 52))])
 (.keep [0, 1, 7, 8, 9]))
 .skip))))
 (.seq (.ops none [oD 15 (.mov (.t 9)),
 oD 16 (.bin .add (.t 15) (.k (.int .i64 1))),
 oD 9 (.mov (.t 16))])
 (.keep [0, 1, 7, 8, 9]))))))))
 (.seq (.seq (.ops none [oD 53 (.mov (.t 7)),
 oD 6 (.mov (.t 53))])
 (.keep [6]))
 .ret))))
  results := [.tmp 6]
theorem ok226 : FnOK Tryz.prog pureL 226 a226 := ⟨Tryz.f226, [(0, [0, 1, 2]), (1, [0, 1, 2, 7, 8]), (2, [0, 1, 7, 8, 9]), (3, [0, 1, 7, 8, 9, 14]), (5, [0, 1, 7, 8, 9, 28]), (6, [0, 1, 7, 8, 9, 35]), (7, [6]), (8, [0, 1, 7, 8, 9]), (9, [0, 1, 7, 8, 9, 40]), (10, [6]), (11, [0, 1, 7, 8, 9, 45]), (12, [0, 1, 7, 8, 9]), (4, [0, 1, 7, 8, 9]), (13, [6])], [(0, [0, 1, 7, 8, 9])], Tryz.func226, by kernel_rfl⟩
/-- internal/bytealg.hashStr[string] -/
def a227 : AFunc where
  body :=
  (.seq (.seq (.ops none [oD 2 (.mov (.k (.int .u32 0))),
 oD 3 (.mov (.k (.int .u32 0)))])
 (.keep [0]))
 (.seq (.seq (.ops none [oD 4 (.mov (.k (.int .u32 0)))])
 (.keep [0, 4]))
 (.seq (.seq (.seq (.ops none [oD 5 (.mov (.k (.int .i64 0)))])
 (.keep [0, 4, 5]))
 (.block 0 (.loop (.seq (.keep [0, 4, 5])
 (.seq (.seq (.seq (.ops none [oD 9 (.mov (.t 5)),
 oD 10 (.mov (.t 0)),
 oD 11 (.len .str (.t 10)),
 oD 12 (.bin .lss (.t 9) (.t 11))])
 (.keep [0, 4, 5, 12]))
 (.cond (.t 12) .skip
 (.exit 0)))
 (.seq (.block 1 (.seq (.ops none [oD 15 (.mov (.t 4)),
 oD 16 (.bin .mul (.t 15) (.k (.int .u32 16777619))),
 oD 17 (.mov (.t 0)),
 oD 18 (.mov (.t 5)),
 oD 19 (.indexStr (.t 17) (.t 18)),
 oD 20 (.convInt .u32 (.t 19)),
 oD 21 (.bin .add (.t 16) (.t 20)),
 oD 4 (.mov (.t 21))])
 (.keep [0, 4, 5])))
 (.seq (.ops none [oD 13 (.mov (.t 5)),
 oD 14 (.bin .add (.t 13) (.k (.int .i64 1))),
 oD 5 (.mov (.t 14))])
 (.keep [0, 4, 5]))))))))
 (.seq (.seq (.ops none [oD 6 (.mov (.k (.int .u32 1))),
 oD 7 (.mov (.k (.int .u32 16777619)))])
 (.keep [0, 4, 6, 7]))
 (.seq (.seq (.seq (.ops none [oD 22 (.mov (.t 0)),
 oD 23 (.len .str (.t 22)),
 oD 8 (.mov (.t 23))])
 (.keep [4, 6, 7, 8]))
 (.block 2 (.loop (.seq (.keep [4, 6, 7, 8])
 (.seq (.seq (.seq (.ops none [oD 24 (.mov (.t 8)),
 oD 25 (.bin .gtr (.t 24) (.k (.int .i64 0)))])
 (.keep [4, 6, 7, 8, 25]))
 (.cond (.t 25) .skip
 (.exit 2)))
 (.seq (.block 3 (.seq (.seq (.seq (.ops none [oD 28 (.mov (.t 8)),
 oD 29 (.bin .and (.t 28) (.k (.int .i64 1))),
 oD 30 (.eq true (.leaf .int) (.t 29) (.k (.int .i64 0)))])
 (.keep [4, 6, 7, 8, 30]))
 (.cond (.t 30) (.seq (.ops none [oD 31 (.mov (.t 6)),
 oD 32 (.mov (.t 7)),
 oD 33 (.bin .mul (.t 31) (.t 32)),
 oD 6 (.mov (.t 33))])
 (.keep [4, 6, 7, 8]))
 .skip))
 (.seq (.ops none [oD 34 (.mov (.t 7)),
 oD 35 (.mov (.t 7)),
 oD 36 (.bin .mul (.t 34) (.t 35)),
 oD 7 (.mov (.t 36))])
 (.keep [4, 6, 7, 8]))))
 (.seq (.ops none [oD 26 (.mov (.t 8)),
 oD 27 (.bin .shr (.t 26) (.k (.int .u64 1))),
 oD 8 (.mov (.t 27))])
 (.keep [4, 6, 7, 8]))))))))
 (.seq (.seq (.ops none [oD 37 (.mov (.t 4)),
 oD 38 (.mov (.t 6)),
 oD 2 (.mov (.t 37)),
 oD 3 (.mov (.t 38))])
 (.keep [2, 3]))
 .ret))))))
  results := [.tmp 2, .tmp 3]
theorem ok227 : FnOK Tryz.prog pureL 227 a227 := ⟨Tryz.f227, [(0, [0]), (1, [0, 4]), (2, [0, 4, 5]), (3, [0, 4, 5, 12]), (5, [0, 4, 5]), (4, [0, 4, 5]), (6, [0, 4, 6, 7]), (7, [4, 6, 7, 8]), (8, [4, 6, 7, 8, 25]), (10, [4, 6, 7, 8, 30]), (11, [4, 6, 7, 8]), (12, [4, 6, 7, 8]), (9, [4, 6, 7, 8]), (13, [2, 3])], [(0, [0, 4, 5]), (2, [4, 6, 7, 8])], Tryz.func227, by kernel_rfl⟩
/-- stylus/items.own$1 -/
def a228 : AFunc where
  body :=
  (.seq (.seq (.ops none [oD 4 (.mov (.k (.int .i64 1))),
 oD 5 (.mov (.k (.int .i64 0)))])
 (.keep [0, 1, 2, 4, 5]))
 (.seq (.seq (.ops none [oD 9 (.load1 (.t 1)),
 oD 10 (.bin .add (.t 9) (.k (.int .i64 1))),
 oD 6 (.mov (.t 10))])
 (.keep [0, 2, 4, 5, 6]))
 (.block 0 (.loop (.seq (.keep [0, 2, 4, 5, 6])
 (.seq (.seq (.seq (.ops none [oD 11 (.mov (.t 6)),
 oD 12 (.load1 (.t 2)),
 oD 13 (.len .slice (.t 12)),
 oD 14 (.bin .lss (.t 11) (.t 13))])
 (.keep [0, 2, 4, 5, 6, 14]))
 (.cond (.t 14) .skip
 (.exit 0)))
 (.seq (.block 1 (.seq (.seq (.ops none [oD 17 (.load1 (.t 2)),
 oD 18 (.mov (.t 6)),
 oD 19 (.idxSl 3 (.t 17) (.t 18)),
 oD 20 (.loadN 3 (.t 19)),
 oD 7 (.alloc [(.int .i64 0), (.int .u8 0), (.int .i64 0)]),
 oN (.store 3 (.t 7) (.t 20))])
 (.keep [0, 2, 4, 5, 6, 7]))
 (.seq (.seq (.ops none [oD 21 (.fieldAddr 1 (.t 7)),
 oD 22 (.load1 (.t 21)),
 oD 23 (.eq false (.leaf .int) (.t 22) (.k (.int .u8 110))),
 oD 24 (.mov (.t 23)),
 oG 25 24 false (.fieldAddr 1 (.t 7)),
 oG 26 24 false (.load1 (.t 25)),
 oG 27 24 false (.eq false (.leaf .int) (.t 26) (.k (.int .u8 108))),
 oD 28 (.pick (.t 24) (.k (.bool true)) (.t 27)),
 oD 8 (.mov (.t 28))])
 (.keep [0, 2, 4, 5, 6, 7, 8]))
 (.block 2 (.seq (.seq (.ops none [oD 30 (.fieldAddr 0 (.t 7)),
 oD 31 (.load1 (.t 30)),
 oD 32 (.eq false (.leaf .int) (.t 31) (.k (.int .i64 2))),
 oD 29 (.mov (.t 32))])
 (.keep [0, 2, 4, 5, 6, 7, 8, 29]))
 (.cond (.t 29) (.seq (.seq (.ops none [oD 33 (.mov (.t 4)),
 oD 34 (.bin .add (.t 33) (.k (.int .i64 1))),
 oD 4 (.mov (.t 34))])
 (.keep [0, 2, 4, 5, 6, 7, 8]))
 (.seq (.seq (.seq (.ops none [oD 35 (.mov (.t 5)),
 oD 36 (.eq false (.leaf .int) (.t 35) (.k (.int .i64 0))),
 oD 37 (.mov (.t 36)),
 oG 38 37 true (.fieldAddr 1 (.t 7)),
 oG 39 37 true (.load1 (.t 38)),
 oG 40 37 true (.eq true (.leaf .int) (.t 39) (.k (.int .u8 108))),
 oG 41 37 true (.mov (.t 40)),
 oG 42 41 true (.mov (.t 0)),
 oG 43 41 true (.mov (.t 6)),
 oG 44 41 true (.loadN 3 (.t 7)),
 oG 45 41 true (.callv (.t 42) [(.t 43), (.t 44)]),
 oG 46 41 true (.un .not (.t 45)),
 oG 47 37 true (.pick (.t 41) (.t 46) (.k (.bool false))),
 oD 48 (.pick (.t 37) (.t 47) (.k (.bool false)))])
 (.keep [0, 2, 4, 5, 6, 8, 48]))
 (.cond (.t 48) .ret
 .skip))
 (.seq (.seq (.ops none [oD 49 (.mov (.t 5)),
 oD 50 (.bin .gtr (.t 49) (.k (.int .i64 0))),
 oD 51 (.mov (.t 50)),
 oG 52 51 false (.mov (.t 8)),
 oD 53 (.pick (.t 51) (.k (.bool true)) (.t 52))])
 (.keep [0, 2, 4, 5, 6, 53]))
 (.cond (.t 53) (.seq (.ops none [oD 54 (.mov (.t 5)),
 oD 55 (.bin .add (.t 54) (.k (.int .i64 1))),
 oD 5 (.mov (.t 55))])
 (.keep [0, 2, 4, 5, 6]))
 .skip))))
 (.seq (.seq (.ops none [oD 57 (.fieldAddr 0 (.t 7)),
 oD 58 (.load1 (.t 57)),
 oD 59 (.eq false (.leaf .int) (.t 58) (.k (.int .i64 3))),
 oD 56 (.mov (.t 59))])
 (.keep [0, 2, 4, 5, 6, 7, 56]))
 (.cond (.t 56) (.seq (.seq (.seq (.ops none [oD 60 (.mov (.t 4)),
 oD 61 (.bin .sub (.t 60) (.k (.int .i64 1))),
 oD 4 (.mov (.t 61))])
 (.keep [0, 2, 4, 5, 6, 7]))
 (.seq (.seq (.ops none [oD 62 (.mov (.t 4)),
 oD 63 (.eq false (.leaf .int) (.t 62) (.k (.int .i64 0)))])
 (.keep [0, 2, 4, 5, 6, 7, 63]))
 (.cond (.t 63) .ret
 .skip)))
 (.seq (.seq (.ops none [oD 64 (.mov (.t 5)),
 oD 65 (.bin .gtr (.t 64) (.k (.int .i64 0)))])
 (.keep [0, 2, 4, 5, 6, 7, 65]))
 (.cond (.t 65) (.seq (.ops none [oD 66 (.mov (.t 5)),
 oD 67 (.bin .sub (.t 66) (.k (.int .i64 1))),
 oD 5 (.mov (.t 67))])
 (.keep [0, 2, 4, 5, 6]))
 (.seq (.seq (.ops none [oD 68 (.mov (.t 0)),
 oD 69 (.mov (.t 6)),
 oD 70 (.loadN 3 (.t 7)),
 oD 71 (.callv (.t 68) [(.t 69), (.t 70)]),
 oD 72 (.un .not (.t 71))])
 (.keep [0, 2, 4, 5, 6, 72]))
 (.cond (.t 72) .ret
 .skip)))))
 (.seq (.seq (.ops none [oD 74 (.mov (.t 5)),
 oD 75 (.eq false (.leaf .int) (.t 74) (.k (.int .i64 0))),
 oD 76 (.mov (.t 75)),
 oG 77 76 true (.mov (.t 0)),
 oG 78 76 true (.mov (.t 6)),
 oG 79 76 true (.loadN 3 (.t 7)),
 oG 80 76 true (.callv (.t 77) [(.t 78), (.t 79)]),
 oG 81 76 true (.un .not (.t 80)),
 oD 82 (.pick (.t 76) (.t 81) (.k (.bool false))),
 oD 73 (.mov (.t 82))])
 (.keep [0, 2, 4, 5, 6, 73]))
 (.cond (.t 73) .ret
 .skip))))))))))
 (.seq (.ops none [oD 15 (.mov (.t 6)),
 oD 16 (.bin .add (.t 15) (.k (.int .i64 1))),
 oD 6 (.mov (.t 16))])
 (.keep [0, 2, 4, 5, 6])))))))))
  results := []
theorem ok228 : FnOK Tryz.prog pureL 228 a228 := ⟨Tryz.f228, [(0, [0, 1, 2, 4, 5]), (1, [0, 2, 4, 5, 6]), (2, [0, 2, 4, 5, 6, 14]), (4, [0, 2, 4, 5, 6, 7]), (5, [0, 2, 4, 5, 6, 7, 8]), (6, [0, 2, 4, 5, 6, 7, 8, 29]), (11, [0, 2, 4, 5, 6, 7, 56]), (17, [0, 2, 4, 5, 6, 73]), (12, [0, 2, 4, 5, 6, 7]), (13, [0, 2, 4, 5, 6, 7, 63]), (14, [0, 2, 4, 5, 6, 7, 65]), (16, [0, 2, 4, 5, 6, 72]), (15, [0, 2, 4, 5, 6]), (7, [0, 2, 4, 5, 6, 7, 8]), (8, [0, 2, 4, 5, 6, 8, 48]), (9, [0, 2, 4, 5, 6, 53]), (10, [0, 2, 4, 5, 6]), (3, [0, 2, 4, 5, 6])], [(0, [0, 2, 4, 5, 6])], Tryz.func228, by kernel_rfl⟩
/-- stylus/chars.Letter -/
def a229 : AFunc where
  body :=
  (.seq (.seq (.ops none [oD 2 (.mov (.k (.bool false)))])
 (.keep [0]))
 (.seq (.seq (.ops none [oD 4 (.mov (.t 0)),
 oD 5 (.call 165 [(.t 4)]),
 oD 3 (.mov (.t 5))])
 (.keep [3]))
 (.seq (.seq (.ops none [oD 6 (.mov (.t 3)),
 oD 7 (.eq false (.leaf .int) (.t 6) (.k (.int .i64 1))),
 oD 8 (.mov (.t 7)),
 oG 9 8 false (.mov (.t 3)),
 oG 10 8 false (.eq false (.leaf .int) (.t 9) (.k (.int .i64 2))),
 oD 11 (.pick (.t 8) (.k (.bool true)) (.t 10)),
 oD 2 (.mov (.t 11))])
 (.keep [2]))
 .ret)))
  results := [.tmp 2]
theorem ok229 : FnOK Tryz.prog pureL 229 a229 := ⟨Tryz.f229, [(0, [0]), (1, [3]), (2, [2])], [], Tryz.func229, by kernel_rfl⟩
/-- (*stylus/items.setter).take$1 -/
def a230 : AFunc where
  body :=
  (.seq (.seq (.ops none [oD 5 (.alloc [(.int .i64 0), (.int .i64 0), (.int .i64 0), (.int .i64 0), (.int .i64 0)])])
 (.keep [0, 1, 2, 5]))
 (.seq (.seq (.ops none [oD 6 (.mov (.t 0)),
 oD 7 (.mov (.t 1)),
 oD 8 (.load1 (.t 2)),
 oD 9 (.build [(.int .i64 0), (.int .i64 0), (.int .i64 0), (.int .i64 0), (.int .i64 0)] [(0, 1, (.t 6)), (1, 1, (.t 7)), (4, 1, (.t 8))]),
 oN (.store 5 (.t 5) (.t 9))])
 (.keep [5]))
 .ret))
  results := [.cellN 5 5]
theorem ok230 : FnOK Tryz.prog pureL 230 a230 := ⟨Tryz.f230, [(0, [0, 1, 2, 5]), (1, [5])], [], Tryz.func230, by kernel_rfl⟩
/-- (*stylus/items.setter).put -/
def a231 : AFunc where
  body :=
  (.seq (.ops none [oD 4 (.mov (.t 0)),
 oD 5 (.mov (.t 0)),
 oD 6 (.nilCheck (.t 5)),
 oD 7 (.fieldAddr 131 (.t 6)),
 oD 8 (.load1 (.t 7)),
 oD 9 (.mov (.t 1)),
 oD 10 (.append 5 (.t 8) (.t 9)),
 oD 11 (.nilCheck (.t 4)),
 oD 12 (.fieldAddr 131 (.t 11)),
 oN (.store 1 (.t 12) (.t 10))])
 (.keep []))
  results := []
theorem ok231 : FnOK Tryz.prog pureL 231 a231 := ⟨Tryz.f231, [(0, [])], [], Tryz.func231, by kernel_rfl⟩
/-- stylus/hyph.Points -/
def a232 : AFunc where
  body :=
  (.seq (.seq (.ops none [oD 4 (.mov (.k .nilslice))])
 (.keep [0, 1]))
 (.seq (.seq (.ops none [oD 5 (.mov (.k .nilslice))])
 (.keep [0, 1, 5]))
 (.seq (.seq (.ops none [oD 9 (.mov (.t 0)),
 oD 10 (.mov (.t 1)),
 oD 11 (.call 248 [(.t 9), (.t 10)]),
 oD 6 (.mov (.t 11))])
 (.keep [1, 5, 6]))
 (.seq (.seq (.seq (.ops none [oD 12 (.mov (.t 6)),
 oD 13 (.len .str (.t 12)),
 oD 14 (.mov (.k (.int .i64 0)))])
 (.keep [1, 5, 6, 13, 14]))
 (.block 0 (.loop (.seq (.keep [1, 5, 6, 13, 14])
 (.seq (.seq (.ops none [oD 15 (.bin .lss (.t 14) (.t 13))])
 (.keep [1, 5, 6, 13, 14, 15]))
 (.seq (.cond (.t 15) .skip
 (.exit 0))
 (.seq (.block 1 (.seq (.seq (.ops none [oD 16 (.mov (.t 14)),
 oD 7 (.mov (.t 16))])
 (.keep [1, 5, 6, 7, 13, 14]))
 (.seq (.seq (.ops none [oD 17 (.mov (.t 7)),
 oD 18 (.bin .add (.t 17) (.k (.int .i64 1))),
 oD 8 (.mov (.t 18))])
 (.keep [1, 5, 6, 7, 8, 13, 14]))
 (.seq (.seq (.ops none [oD 19 (.mov (.t 6)),
 oD 20 (.mov (.t 7)),
 oD 21 (.indexStr (.t 19) (.t 20)),
 oD 22 (.bin .and (.t 21) (.k (.int .u8 1))),
 oD 23 (.eq false (.leaf .int) (.t 22) (.k (.int .u8 1))),
 oD 24 (.mov (.t 23)),
 oG 25 24 true (.mov (.t 8)),
 oG 26 24 true (.bin .geq (.t 25) (.k (.int .i64 2))),
 oD 27 (.pick (.t 24) (.t 26) (.k (.bool false))),
 oD 28 (.mov (.t 27)),
 oG 29 28 true (.mov (.t 8)),
 oG 30 28 true (.mov (.t 1)),
 oG 31 28 true (.len .str (.t 30)),
 oG 32 28 true (.bin .sub (.t 31) (.k (.int .i64 2))),
 oG 33 28 true (.bin .leq (.t 29) (.t 32)),
 oD 34 (.pick (.t 28) (.t 33) (.k (.bool false)))])
 (.keep [1, 5, 6, 8, 13, 14, 34]))
 (.cond (.t 34) (.seq (.ops none [oD 35 (.mov (.t 5)),
 oD 36 (.mov (.t 8)),
 oD 37 (.buildSlice [(.int .i64 0)] 1 1 [(0, 1, (.t 36))]),
 oD 38 (.append 1 (.t 35) (.t 37)),
 oD 5 (.mov (.t 38))])
 (.keep [1, 5, 6, 13, 14]))
 .skip)))))
 (.seq (.ops none [oD 39 (.bin .add (.t 14) (.k (.int .i64 1))),
 oD 14 (.mov (.t 39))])
 (.keep [1, 5, 6, 13, 14])))))))))
 (.seq (.seq (.ops none [oD 40 (.mov (.t 5)),
 oD 4 (.mov (.t 40))])
 (.keep [4]))
 .ret)))))
  results := [.tmp 4]
theorem ok232 : FnOK Tryz.prog pureL 232 a232 := ⟨Tryz.f232, [(0, [0, 1]), (1, [0, 1, 5]), (2, [1, 5, 6]), (3, [1, 5, 6, 13, 14]), (4, [1, 5, 6, 13, 14, 15]), (5, [1, 5, 6, 7, 13, 14]), (6, [1, 5, 6, 7, 8, 13, 14]), (7, [1, 5, 6, 8, 13, 14, 34]), (8, [1, 5, 6, 13, 14]), (9, [1, 5, 6, 13, 14]), (10, [4])], [(0, [1, 5, 6, 13, 14])], Tryz.func232, by kernel_rfl⟩
/-- slices.BinarySearch[[]int,int] -/
def a233 : AFunc where
  body :=
  (.seq (.seq (.ops none [oD 4 (.mov (.k (.int .i64 0))),
 oD 5 (.mov (.k (.bool false)))])
 (.keep [0, 1]))
 (.seq (.seq (.ops none [oD 10 (.mov (.t 0)),
 oD 11 (.len .slice (.t 10)),
 oD 6 (.mov (.t 11))])
 (.keep [0, 1, 6]))
 (.seq (.seq (.ops none [oD 12 (.mov (.t 6)),
 oD 7 (.mov (.k (.int .i64 0))),
 oD 8 (.mov (.t 12))])
 (.keep [0, 1, 6, 7, 8]))
 (.seq (.block 0 (.loop (.seq (.keep [0, 1, 6, 7, 8])
 (.seq (.seq (.seq (.ops none [oD 13 (.mov (.t 7)),
 oD 14 (.mov (.t 8)),
 oD 15 (.bin .lss (.t 13) (.t 14))])
 (.keep [0, 1, 6, 7, 8, 15]))
 (.cond (.t 15) .skip
 (.exit 0)))
 (.block 1 (.seq (.seq (.ops none [oD 16 (.mov (.t 7)),
 oD 17 (.mov (.t 8)),
 oD 18 (.bin .add (.t 16) (.t 17)),
 oD 19 (.convInt .u64 (.t 18)),
 oD 20 (.bin .shr (.t 19) (.k (.int .u64 1))),
 oD 21 (.convInt .i64 (.t 20)),
 oD 9 (.mov (.t 21))])
 (.keep [0, 1, 6, 7, 8, 9]))
 (.seq (.seq (.ops none [oD 22 (.mov (.t 0)),
 oD 23 (.mov (.t 9)),
 oD 24 (.idxSl 1 (.t 22) (.t 23)),
 oD 25 (.load1 (.t 24)),
 oD 26 (.mov (.t 1)),
 oD 27 (.call 249 [(.t 25), (.t 26)])])
 (.keep [0, 1, 6, 7, 8, 9, 27]))
 (.cond (.t 27) (.seq (.ops none [oD 28 (.mov (.t 9)),
 oD 29 (.bin .add (.t 28) (.k (.int .i64 1))),
 oD 7 (.mov (.t 29))])
 (.keep [0, 1, 6, 7, 8]))
 (.seq (.ops none [oD 30 (.mov (.t 9)),
 oD 8 (.mov (.t 30))])
 (.keep [0, 1, 6, 7, 8]))))))))))
 (.seq (.seq (.ops none [oD 31 (.mov (.t 7)),
 oD 32 (.mov (.t 7)),
 oD 33 (.mov (.t 6)),
 oD 34 (.bin .lss (.t 32) (.t 33)),
 oD 35 (.mov (.t 34)),
 oG 36 35 true (.mov (.t 0)),
 oG 37 35 true (.mov (.t 7)),
 oG 38 35 true (.idxSl 1 (.t 36) (.t 37)),
 oG 39 35 true (.load1 (.t 38)),
 oG 40 35 true (.mov (.t 1)),
 oG 41 35 true (.eq false (.leaf .int) (.t 39) (.t 40)),
 oG 42 35 true (.mov (.t 41)),
 oG 43 42 false (.mov (.t 0)),
 oG 44 42 false (.mov (.t 7)),
 oG 45 42 false (.idxSl 1 (.t 43) (.t 44)),
 oG 46 42 false (.load1 (.t 45)),
 oG 47 42 false (.call 250 [(.t 46)]),
 oG 48 42 false (.mov (.t 47)),
 oG 49 48 true (.mov (.t 1)),
 oG 50 48 true (.call 250 [(.t 49)]),
 oG 51 42 false (.pick (.t 48) (.t 50) (.k (.bool false))),
 oG 52 35 true (.pick (.t 42) (.k (.bool true)) (.t 51)),
 oD 53 (.pick (.t 35) (.t 52) (.k (.bool false))),
 oD 4 (.mov (.t 31)),
 oD 5 (.mov (.t 53))])
 (.keep [4, 5]))
 .ret)))))
  results := [.tmp 4, .tmp 5]
theorem ok233 : FnOK Tryz.prog pureL 233 a233 := ⟨Tryz.f233, [(0, [0, 1]), (1, [0, 1, 6]), (2, [0, 1, 6, 7, 8]), (3, [0, 1, 6, 7, 8, 15]), (4, [0, 1, 6, 7, 8, 9]), (5, [0, 1, 6, 7, 8, 9, 27]), (7, [0, 1, 6, 7, 8]), (6, [0, 1, 6, 7, 8]), (8, [4, 5])], [(0, [0, 1, 6, 7, 8])], Tryz.func233, by kernel_rfl⟩
/-- stylus/best.Check$1 -/
def a234 : AFunc where
  body :=
  (.seq (.seq (.ops none [oD 2 (.mov (.k (.bool false)))])
 (.keep [0]))
 (.seq (.seq (.ops none [oD 3 (.mov (.t 0)),
 oD 4 (.bin .lss (.t 3) (.k (.int .i64 0))),
 oD 5 (.mov (.t 4)),
 oG 6 5 false (.mov (.t 0)),
 oG 7 5 false (.bin .gtr (.t 6) (.k (.int .i64 2000))),
 oD 8 (.pick (.t 5) (.k (.bool true)) (.t 7)),
 oD 2 (.mov (.t 8))])
 (.keep [2]))
 .ret))
  results := [.tmp 2]
theorem ok234 : FnOK Tryz.prog pureL 234 a234 := ⟨Tryz.f234, [(0, [0]), (1, [2])], [], Tryz.func234, by kernel_rfl⟩
end Go.Ab
