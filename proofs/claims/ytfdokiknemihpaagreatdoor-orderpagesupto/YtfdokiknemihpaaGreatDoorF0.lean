/- Printed by program: functions of the seat as the abstract machine runs them, and tables of their calls. -/
import Derived.Test.YtfdokiknemihpaaGreatDoorAbBx
import Derived.Test.YtfdokiknemihpaaGreatDoorProg
set_option maxRecDepth 100000
namespace Go.Ab
open Go.Proofs
def pureL : List Nat := []
/-- stylus/styluslaw23.OrderPages -/
def a4 : AFunc where
  body :=
  (.seq (.seq (.ops none [oD 7 (.box (.t 3)),
 oD 8 (.mov (.k (.bool false)))])
 (.keep [0, 1, 2, 7]))
 (.seq (.seq (.seq (.ops none [oD 17 (.mov (.t 0)),
 oD 18 (.len .slice (.t 17)),
 oD 19 (.bin .gtr (.t 18) (.k (.int .i64 250))),
 oD 20 (.mov (.t 19)),
 oG 21 20 false (.mov (.t 1)),
 oG 22 20 false (.len .slice (.t 21)),
 oG 23 20 false (.bin .gtr (.t 22) (.k (.int .i64 250))),
 oD 24 (.pick (.t 20) (.k (.bool true)) (.t 23)),
 oD 25 (.mov (.t 24)),
 oG 26 25 false (.fieldAddr 1 (.t 7)),
 oG 27 25 false (.load1 (.t 26)),
 oG 28 25 false (.len .slice (.t 27)),
 oG 29 25 false (.bin .gtr (.t 28) (.k (.int .i64 300))),
 oD 30 (.pick (.t 25) (.k (.bool true)) (.t 29))])
 (.keep [0, 1, 2, 7, 30]))
 (.cond (.t 30) (.seq (.seq (.ops none [oD 31 (.call 7 []),
 oD 8 (.mov (.t 31))])
 (.keep [8]))
 .ret)
 .skip))
 (.seq (.seq (.ops none [oD 32 (.loadN 2 (.t 7)),
 oD 33 (.call 14 [(.t 32)]),
 oD 9 (.alloc [.nilslice, .nilslice]),
 oN (.store 2 (.t 9) (.t 33))])
 (.keep [0, 1, 2, 7, 9]))
 (.seq (.seq (.ops none [oD 34 (.loadN 2 (.t 9)),
 oD 35 (.call 15 [(.t 34)]),
 oD 10 (.mov (.t 35))])
 (.keep [0, 1, 2, 7, 9, 10]))
 (.seq (.seq (.ops none [oD 11 (.mov (.k (.int .i64 0)))])
 (.keep [0, 1, 2, 7, 9, 10, 11]))
 (.seq (.seq (.seq (.ops none [oD 12 (.mov (.k (.int .i64 0)))])
 (.keep [0, 1, 2, 7, 9, 10, 11, 12]))
 (.block 0 (.loop (.seq (.keep [0, 1, 2, 7, 9, 10, 11, 12])
 (.seq (.seq (.seq (.ops none [oD 36 (.mov (.t 12)),
 oD 37 (.fieldAddr 1 (.t 7)),
 oD 38 (.load1 (.t 37)),
 oD 39 (.len .slice (.t 38)),
 oD 40 (.bin .lss (.t 36) (.t 39))])
 (.keep [0, 1, 2, 7, 9, 10, 11, 12, 40]))
 (.cond (.t 40) .skip
 (.exit 0)))
 (.seq (.block 1 (.seq (.seq (.ops none [oD 43 (.mov (.t 12)),
 oD 13 (.mov (.t 43))])
 (.keep [0, 1, 2, 7, 9, 10, 11, 12, 13]))
 (.seq (.seq (.seq (.ops none [oD 44 (.mov (.t 12)),
 oD 45 (.bin .sub (.t 44) (.k (.int .i64 1))),
 oD 14 (.mov (.t 45))])
 (.keep [0, 1, 2, 7, 9, 10, 11, 12, 13, 14]))
 (.block 2 (.loop (.seq (.keep [0, 1, 2, 7, 9, 10, 11, 12, 13, 14])
 (.seq (.seq (.seq (.ops none [oD 46 (.mov (.t 14)),
 oD 47 (.bin .geq (.t 46) (.k (.int .i64 0)))])
 (.keep [0, 1, 2, 7, 9, 10, 11, 12, 13, 14, 47]))
 (.cond (.t 47) .skip
 (.exit 2)))
 (.seq (.block 3 (.seq (.ops (some [0, 1, 2, 7, 9, 10, 11, 12, 13, 14, 60]) [oD 50 (.fieldAddr 1 (.t 7)),
 oD 51 (.load1 (.t 50)),
 oD 52 (.mov (.t 14)),
 oD 53 (.idxSl 3 (.t 51) (.t 52)),
 oD 54 (.loadN 3 (.t 53)),
 oD 55 (.fieldAddr 1 (.t 7)),
 oD 56 (.load1 (.t 55)),
 oD 57 (.mov (.t 12)),
 oD 58 (.idxSl 3 (.t 56) (.t 57)),
 oD 59 (.loadN 3 (.t 58)),
 oD 60 (.eq false (.agg [.int, .int, .int]) (.t 54) (.t 59))])
 (.cond (.t 60) (.seq (.ops none [oD 61 (.mov (.t 14)),
 oD 13 (.mov (.t 61))])
 (.keep [0, 1, 2, 7, 9, 10, 11, 12, 13, 14]))
 .skip)))
 (.seq (.ops none [oD 48 (.mov (.t 14)),
 oD 49 (.bin .sub (.t 48) (.k (.int .i64 1))),
 oD 14 (.mov (.t 49))])
 (.keep [0, 1, 2, 7, 9, 10, 11, 12, 13, 14]))))))))
 (.seq (.seq (.seq (.ops none [oD 63 (.mov (.t 10)),
 oD 64 (.fieldAddr 1 (.t 7)),
 oD 65 (.load1 (.t 64)),
 oD 66 (.mov (.t 12)),
 oD 67 (.idxSl 3 (.t 65) (.t 66)),
 oD 68 (.loadN 3 (.t 67)),
 oD 69 (.lookup (.agg [.int, .int, .int]) (.int .i64 0) true (.t 63) (.t 68)),
 oD 62 (.mov (.t 69)),
 oD 70 (.extract 0 (.t 62)),
 oD 71 (.extract 1 (.t 62)),
 oD 15 (.mov (.t 70)),
 oD 16 (.mov (.t 71))])
 (.keep [0, 1, 2, 7, 9, 10, 11, 12, 13, 15, 16]))
 (.seq (.seq (.ops none [oD 72 (.mov (.t 16)),
 oD 73 (.un .not (.t 72)),
 oD 74 (.mov (.t 73)),
 oG 75 74 false (.mov (.t 15)),
 oG 76 74 false (.mov (.t 13)),
 oG 77 74 false (.eq true (.leaf .int) (.t 75) (.t 76)),
 oD 78 (.pick (.t 74) (.k (.bool true)) (.t 77))])
 (.keep [0, 1, 2, 7, 9, 10, 11, 12, 13, 78]))
 (.cond (.t 78) (.seq (.seq (.ops none [oD 8 (.mov (.k (.bool false)))])
 (.keep [8]))
 .ret)
 .skip)))
 (.seq (.seq (.ops none [oD 79 (.mov (.t 13)),
 oD 80 (.mov (.t 12)),
 oD 81 (.eq false (.leaf .int) (.t 79) (.t 80))])
 (.keep [0, 1, 2, 7, 9, 10, 11, 12, 81]))
 (.cond (.t 81) (.seq (.ops none [oD 82 (.mov (.t 11)),
 oD 83 (.bin .add (.t 82) (.k (.int .i64 1))),
 oD 11 (.mov (.t 83))])
 (.keep [0, 1, 2, 7, 9, 10, 11, 12]))
 .skip))))))
 (.seq (.ops none [oD 41 (.mov (.t 12)),
 oD 42 (.bin .add (.t 41) (.k (.int .i64 1))),
 oD 12 (.mov (.t 42))])
 (.keep [0, 1, 2, 7, 9, 10, 11, 12]))))))))
 (.seq (.seq (.ops none [oD 84 (.mov (.t 0)),
 oD 85 (.mov (.t 1)),
 oD 86 (.mov (.t 2)),
 oD 87 (.call 16 [(.t 84), (.t 85), (.t 86)]),
 oD 88 (.mov (.t 0)),
 oD 89 (.mov (.t 1)),
 oD 90 (.mov (.t 2)),
 oD 91 (.call 17 [(.t 88), (.t 89), (.t 90)]),
 oD 92 (.eq false (.leaf .int) (.t 87) (.t 91)),
 oD 93 (.mov (.t 92)),
 oG 94 93 true (.mov (.t 10)),
 oG 95 93 true (.len .map (.t 94)),
 oG 96 93 true (.mov (.t 11)),
 oG 97 93 true (.eq false (.leaf .int) (.t 95) (.t 96)),
 oD 98 (.pick (.t 93) (.t 97) (.k (.bool false))),
 oD 99 (.mov (.t 98)),
 oG 100 99 true (.loadN 2 (.t 9)),
 oG 101 99 true (.loadN 2 (.t 7)),
 oG 102 99 true (.call 11 [(.t 100), (.t 101)]),
 oD 103 (.pick (.t 99) (.t 102) (.k (.bool false))),
 oD 104 (.mov (.t 103)),
 oG 105 104 true (.call 7 []),
 oD 106 (.pick (.t 104) (.t 105) (.k (.bool false))),
 oD 8 (.mov (.t 106))])
 (.keep [8]))
 .ret)))))))
  results := [.tmp 8]
theorem ok4 : FnOK Tryz.prog pureL 4 a4 := ⟨Tryz.f4, [(0, [0, 1, 2, 7]), (1, [0, 1, 2, 7, 30]), (2, [8]), (3, [0, 1, 2, 7, 9]), (4, [0, 1, 2, 7, 9, 10]), (5, [0, 1, 2, 7, 9, 10, 11]), (6, [0, 1, 2, 7, 9, 10, 11, 12]), (7, [0, 1, 2, 7, 9, 10, 11, 12, 40]), (9, [0, 1, 2, 7, 9, 10, 11, 12, 13]), (10, [0, 1, 2, 7, 9, 10, 11, 12, 13, 14]), (11, [0, 1, 2, 7, 9, 10, 11, 12, 13, 14, 47]), (13, [0, 1, 2, 7, 9, 10, 11, 12, 13, 14, 60]), (14, [0, 1, 2, 7, 9, 10, 11, 12, 13, 14]), (12, [0, 1, 2, 7, 9, 10, 11, 12, 13, 14]), (15, [0, 1, 2, 7, 9, 10, 11, 12, 13, 15, 16]), (16, [0, 1, 2, 7, 9, 10, 11, 12, 13, 78]), (17, [8]), (18, [0, 1, 2, 7, 9, 10, 11, 12, 81]), (19, [0, 1, 2, 7, 9, 10, 11, 12]), (8, [0, 1, 2, 7, 9, 10, 11, 12]), (20, [8])], [(0, [0, 1, 2, 7, 9, 10, 11, 12]), (2, [0, 1, 2, 7, 9, 10, 11, 12, 13, 14])], Tryz.func4, by kernel_rfl⟩
/-- stylus/styluslaw23.awake -/
def a7 : AFunc where
  body :=
  (.seq (.seq (.ops none [oD 0 (.mov (.k (.bool false)))])
 (.keep []))
 (.seq (.seq (.ops none [oD 1 (.call 22 [(.k (.str [123, 112, 32, 97, 32, 98, 125])), (.k (.str [48, 48, 48, 49, 48, 50])), (.k (.str [112, 48, 51, 46, 48, 51]))]),
 oD 2 (.mov (.t 1)),
 oG 3 2 true (.call 22 [(.k (.str [123, 112, 32, 97, 123, 110, 32, 120, 125, 98, 125])), (.k (.str [48, 48, 49, 48, 48, 50])), (.k (.str [112, 48, 51, 46, 48, 49, 110, 49, 50, 46, 49, 50, 46, 50, 51]))]),
 oD 4 (.pick (.t 2) (.t 3) (.k (.bool false))),
 oD 5 (.mov (.t 4)),
 oG 6 5 true (.call 22 [(.k (.str [123, 107, 125])), (.k (.str [])), (.k (.str [107, 48, 48]))]),
 oD 7 (.pick (.t 5) (.t 6) (.k (.bool false))),
 oD 8 (.mov (.t 7)),
 oG 9 8 true (.call 23 [(.k (.str [123, 112, 32, 97, 125]))]),
 oG 10 8 true (.buildSlice [(.int .i64 0), (.int .i64 0), (.int .i64 0)] 1 3 [(0, 1, (.k (.int .i64 1))), (1, 1, (.k (.int .i64 2))), (2, 1, (.k (.int .i64 2)))]),
 oG 11 8 true (.call 16 [(.t 9), (.t 10), (.k (.int .i64 5))]),
 oG 12 8 true (.eq false (.leaf .int) (.t 11) (.k (.int .i64 2))),
 oD 13 (.pick (.t 8) (.t 12) (.k (.bool false))),
 oD 14 (.mov (.t 13)),
 oG 15 14 true (.call 16 [(.k .nilslice), (.k .nilslice), (.k (.int .i64 5))]),
 oG 16 14 true (.eq false (.leaf .int) (.t 15) (.k (.int .i64 1))),
 oD 17 (.pick (.t 14) (.t 16) (.k (.bool false))),
 oD 0 (.mov (.t 17))])
 (.keep [0]))
 .ret))
  results := [.tmp 0]
theorem ok7 : FnOK Tryz.prog pureL 7 a7 := ⟨Tryz.f7, [(0, []), (1, [0])], [], Tryz.func7, by kernel_rfl⟩
/-- stylus/order.Of -/
def a9 : AFunc where
  body :=
  (.seq (.seq (.ops none [oD 4 (.alloc [.nilslice, .nilslice]),
 oD 5 (.mov (.k (.int .i64 0)))])
 (.keep [0, 1, 4]))
 (.seq (.seq (.ops none [oD 10 (.mov (.t 0)),
 oD 11 (.call 25 [(.t 10)]),
 oD 9 (.mov (.t 11)),
 oD 12 (.extract 0 (.t 9)),
 oD 13 (.extract 1 (.t 9)),
 oD 6 (.mov (.t 12)),
 oD 7 (.mov (.t 13))])
 (.keep [0, 1, 4, 6, 7]))
 (.seq (.seq (.seq (.ops none [oD 14 (.mov (.t 7)),
 oD 15 (.eq true (.leaf .int) (.t 14) (.k (.int .i64 0)))])
 (.keep [0, 1, 4, 6, 7, 15]))
 (.cond (.t 15) (.seq (.seq (.ops none [oD 16 (.build [.nilslice, .nilslice] []),
 oD 17 (.mov (.t 7)),
 oN (.store 2 (.t 4) (.t 16)),
 oD 5 (.mov (.t 17))])
 (.keep [4, 5]))
 .ret)
 .skip))
 (.seq (.seq (.ops none [oD 18 (.mov (.t 0)),
 oD 19 (.mov (.t 1)),
 oD 20 (.call 26 [(.t 19)]),
 oD 21 (.makeMap),
 oD 22 (.build [.nilslice, .nilslice, .nilslice, .nilmap, .nilslice, .nilmap, .nilslice] [(2, 1, (.t 18)), (3, 1, (.t 20)), (5, 1, (.t 21))]),
 oD 23 (.box (.t 22)),
 oD 8 (.mov (.t 23))])
 (.keep [4, 6, 8]))
 (.seq (.seq (.seq (.ops none [oD 24 (.mov (.t 8)),
 oD 25 (.call 27 [(.t 24)]),
 oD 26 (.un .not (.t 25))])
 (.keep [4, 6, 8, 26]))
 (.cond (.t 26) (.seq (.seq (.ops none [oD 27 (.build [.nilslice, .nilslice] []),
 oN (.store 2 (.t 4) (.t 27)),
 oD 5 (.mov (.k (.int .i64 1)))])
 (.keep [4, 5]))
 .ret)
 .skip))
 (.seq (.seq (.ops none [oD 28 (.mov (.t 8)),
 oD 29 (.mov (.t 6)),
 oD 30 (.call 28 [(.t 28), (.t 29)])])
 (.keep [4, 8]))
 (.seq (.seq (.ops none [oD 31 (.mov (.t 8)),
 oD 32 (.nilCheck (.t 31)),
 oD 33 (.fieldAddr 0 (.t 32)),
 oD 34 (.loadN 2 (.t 33)),
 oN (.store 2 (.t 4) (.t 34)),
 oD 5 (.mov (.k (.int .i64 0)))])
 (.keep [4, 5]))
 .ret)))))))
  results := [.cellN 4 2, .tmp 5]
theorem ok9 : FnOK Tryz.prog pureL 9 a9 := ⟨Tryz.f9, [(0, [0, 1, 4]), (1, [0, 1, 4, 6, 7]), (2, [0, 1, 4, 6, 7, 15]), (3, [4, 5]), (4, [4, 6, 8]), (5, [4, 6, 8, 26]), (6, [4, 5]), (7, [4, 8]), (8, [4, 5])], [], Tryz.func9, by kernel_rfl⟩
/-- stylus/stylusref23.Same -/
def a11 : AFunc where
  body :=
  (.seq (.seq (.ops none [oD 2 (.box (.t 0)),
 oD 3 (.box (.t 1)),
 oD 4 (.mov (.k (.bool false)))])
 (.keep [2, 3]))
 (.seq (.seq (.seq (.ops none [oD 7 (.fieldAddr 0 (.t 2)),
 oD 8 (.load1 (.t 7)),
 oD 9 (.len .slice (.t 8)),
 oD 10 (.fieldAddr 0 (.t 3)),
 oD 11 (.load1 (.t 10)),
 oD 12 (.len .slice (.t 11)),
 oD 13 (.eq true (.leaf .int) (.t 9) (.t 12)),
 oD 14 (.mov (.t 13)),
 oG 15 14 false (.fieldAddr 1 (.t 2)),
 oG 16 14 false (.load1 (.t 15)),
 oG 17 14 false (.len .slice (.t 16)),
 oG 18 14 false (.fieldAddr 1 (.t 3)),
 oG 19 14 false (.load1 (.t 18)),
 oG 20 14 false (.len .slice (.t 19)),
 oG 21 14 false (.eq true (.leaf .int) (.t 17) (.t 20)),
 oD 22 (.pick (.t 14) (.k (.bool true)) (.t 21))])
 (.keep [2, 3, 22]))
 (.cond (.t 22) (.seq (.seq (.ops none [oD 4 (.mov (.k (.bool false)))])
 (.keep [4]))
 .ret)
 .skip))
 (.seq (.seq (.seq (.ops none [oD 5 (.mov (.k (.int .i64 0)))])
 (.keep [2, 3, 5]))
 (.block 0 (.loop (.seq (.keep [2, 3, 5])
 (.seq (.seq (.seq (.ops none [oD 23 (.mov (.t 5)),
 oD 24 (.fieldAddr 0 (.t 2)),
 oD 25 (.load1 (.t 24)),
 oD 26 (.len .slice (.t 25)),
 oD 27 (.bin .lss (.t 23) (.t 26))])
 (.keep [2, 3, 5, 27]))
 (.cond (.t 27) .skip
 (.exit 0)))
 (.seq (.block 1 (.seq (.ops (some [2, 3, 5, 40]) [oD 30 (.fieldAddr 0 (.t 2)),
 oD 31 (.load1 (.t 30)),
 oD 32 (.mov (.t 5)),
 oD 33 (.idxSl 4 (.t 31) (.t 32)),
 oD 34 (.loadN 4 (.t 33)),
 oD 35 (.fieldAddr 0 (.t 3)),
 oD 36 (.load1 (.t 35)),
 oD 37 (.mov (.t 5)),
 oD 38 (.idxSl 4 (.t 36) (.t 37)),
 oD 39 (.loadN 4 (.t 38)),
 oD 40 (.eq true (.agg [.int, .int, .int, .int]) (.t 34) (.t 39))])
 (.cond (.t 40) (.seq (.seq (.ops none [oD 4 (.mov (.k (.bool false)))])
 (.keep [4]))
 .ret)
 .skip)))
 (.seq (.ops none [oD 28 (.mov (.t 5)),
 oD 29 (.bin .add (.t 28) (.k (.int .i64 1))),
 oD 5 (.mov (.t 29))])
 (.keep [2, 3, 5]))))))))
 (.seq (.seq (.seq (.ops none [oD 6 (.mov (.k (.int .i64 0)))])
 (.keep [2, 3, 6]))
 (.block 2 (.loop (.seq (.keep [2, 3, 6])
 (.seq (.seq (.seq (.ops none [oD 41 (.mov (.t 6)),
 oD 42 (.fieldAddr 1 (.t 2)),
 oD 43 (.load1 (.t 42)),
 oD 44 (.len .slice (.t 43)),
 oD 45 (.bin .lss (.t 41) (.t 44))])
 (.keep [2, 3, 6, 45]))
 (.cond (.t 45) .skip
 (.exit 2)))
 (.seq (.block 3 (.seq (.ops (some [2, 3, 6, 58]) [oD 48 (.fieldAddr 1 (.t 2)),
 oD 49 (.load1 (.t 48)),
 oD 50 (.mov (.t 6)),
 oD 51 (.idxSl 3 (.t 49) (.t 50)),
 oD 52 (.loadN 3 (.t 51)),
 oD 53 (.fieldAddr 1 (.t 3)),
 oD 54 (.load1 (.t 53)),
 oD 55 (.mov (.t 6)),
 oD 56 (.idxSl 3 (.t 54) (.t 55)),
 oD 57 (.loadN 3 (.t 56)),
 oD 58 (.eq true (.agg [.int, .int, .int]) (.t 52) (.t 57))])
 (.cond (.t 58) (.seq (.seq (.ops none [oD 4 (.mov (.k (.bool false)))])
 (.keep [4]))
 .ret)
 .skip)))
 (.seq (.ops none [oD 46 (.mov (.t 6)),
 oD 47 (.bin .add (.t 46) (.k (.int .i64 1))),
 oD 6 (.mov (.t 47))])
 (.keep [2, 3, 6]))))))))
 (.seq (.seq (.ops none [oD 4 (.mov (.k (.bool true)))])
 (.keep [4]))
 .ret)))))
  results := [.tmp 4]
theorem ok11 : FnOK Tryz.prog pureL 11 a11 := ⟨Tryz.f11, [(0, [2, 3]), (1, [2, 3, 22]), (2, [4]), (3, [2, 3, 5]), (4, [2, 3, 5, 27]), (6, [2, 3, 5, 40]), (7, [4]), (5, [2, 3, 5]), (8, [2, 3, 6]), (9, [2, 3, 6, 45]), (11, [2, 3, 6, 58]), (12, [4]), (10, [2, 3, 6]), (13, [4])], [(0, [2, 3, 5]), (2, [2, 3, 6])], Tryz.func11, by kernel_rfl⟩
/-- stylus/stylusref23.Own -/
def a14 : AFunc where
  body :=
  (.seq (.seq (.ops none [oD 1 (.box (.t 0)),
 oD 2 (.alloc [.nilslice, .nilslice])])
 (.keep [1, 2]))
 (.seq (.ops (some [2]) [oD 4 (.fieldAddr 0 (.t 1)),
 oD 5 (.load1 (.t 4)),
 oD 8 (.fieldAddr 1 (.t 1)),
 oD 9 (.load1 (.t 8)),
 oD 3 (.buildSlice [] 4 0 []),
 oD 6 (.appendX 4 (.t 3) (.t 5)),
 oD 7 (.buildSlice [] 3 0 []),
 oD 10 (.append 3 (.t 7) (.t 9)),
 oD 11 (.build [.nilslice, .nilslice] [(0, 1, (.t 6)), (1, 1, (.t 10))]),
 oN (.store 2 (.t 2) (.t 11))])
 .ret))
  results := [.cellN 2 2]
theorem ok14 : FnOK Tryz.prog pureL 14 a14 := ⟨Tryz.f14, [(0, [1, 2]), (1, [2])], [], Tryz.func14, by kernel_rfl⟩
/-- stylus/order.Index -/
def a15 : AFunc where
  body :=
  (.seq (.seq (.ops none [oD 1 (.box (.t 0)),
 oD 2 (.mov (.k .nilmap))])
 (.keep [1]))
 (.seq (.seq (.ops none [oD 8 (.makeMap),
 oD 3 (.mov (.t 8))])
 (.keep [1, 3]))
 (.seq (.seq (.seq (.ops none [oD 9 (.fieldAddr 1 (.t 1)),
 oD 10 (.load1 (.t 9)),
 oD 11 (.len .slice (.t 10)),
 oD 12 (.mov (.k (.int .i64 0)))])
 (.keep [3, 10, 11, 12]))
 (.block 0 (.loop (.seq (.keep [3, 10, 11, 12])
 (.seq (.seq (.ops none [oD 13 (.bin .lss (.t 12) (.t 11))])
 (.keep [3, 10, 11, 12, 13]))
 (.seq (.cond (.t 13) .skip
 (.exit 0))
 (.seq (.block 1 (.seq (.seq (.ops none [oD 14 (.mov (.t 12)),
 oD 15 (.idxSl 3 (.t 10) (.t 12)),
 oD 16 (.loadN 3 (.t 15)),
 oD 5 (.alloc [(.int .i64 0), (.int .i64 0), (.int .i64 0)]),
 oD 4 (.mov (.t 14)),
 oN (.store 3 (.t 5) (.t 16))])
 (.keep [3, 4, 5, 10, 11, 12]))
 (.seq (.seq (.ops none [oD 18 (.mov (.t 3)),
 oD 19 (.loadN 3 (.t 5)),
 oD 20 (.lookup (.agg [.int, .int, .int]) (.int .i64 0) true (.t 18) (.t 19)),
 oD 17 (.mov (.t 20)),
 oD 21 (.extract 0 (.t 17)),
 oD 22 (.extract 1 (.t 17)),
 oD 6 (.mov (.t 21)),
 oD 7 (.mov (.t 22))])
 (.keep [3, 4, 5, 7, 10, 11, 12]))
 (.seq (.seq (.ops none [oD 23 (.mov (.t 7)),
 oD 24 (.un .not (.t 23))])
 (.keep [3, 4, 5, 10, 11, 12, 24]))
 (.cond (.t 24) (.seq (.ops none [oD 25 (.mov (.t 3)),
 oD 26 (.loadN 3 (.t 5)),
 oD 27 (.mov (.t 4)),
 oN (.mapUpdate (.agg [.int, .int, .int]) (.t 25) (.t 26) (.t 27))])
 (.keep [3, 10, 11, 12]))
 .skip)))))
 (.seq (.ops none [oD 28 (.bin .add (.t 12) (.k (.int .i64 1))),
 oD 12 (.mov (.t 28))])
 (.keep [3, 10, 11, 12])))))))))
 (.seq (.seq (.ops none [oD 29 (.mov (.t 3)),
 oD 2 (.mov (.t 29))])
 (.keep [2]))
 .ret))))
  results := [.tmp 2]
theorem ok15 : FnOK Tryz.prog pureL 15 a15 := ⟨Tryz.f15, [(0, [1]), (1, [1, 3]), (2, [3, 10, 11, 12]), (3, [3, 10, 11, 12, 13]), (4, [3, 4, 5, 10, 11, 12]), (5, [3, 4, 5, 7, 10, 11, 12]), (6, [3, 4, 5, 10, 11, 12, 24]), (7, [3, 10, 11, 12]), (8, [3, 10, 11, 12]), (9, [2])], [(0, [3, 10, 11, 12])], Tryz.func15, by kernel_rfl⟩
/-- stylus/order.Page -/
def a16 : AFunc where
  body :=
  (.seq (.seq (.ops none [oD 6 (.mov (.k (.int .i64 0)))])
 (.keep [0, 1, 2]))
 (.seq (.seq (.ops none [oD 7 (.mov (.k (.int .i64 1)))])
 (.keep [0, 1, 2, 7]))
 (.seq (.seq (.seq (.ops none [oD 9 (.mov (.t 0)),
 oD 10 (.len .slice (.t 9)),
 oD 11 (.mov (.t 1)),
 oD 12 (.len .slice (.t 11)),
 oD 13 (.minmax false (.t 10) (.t 12)),
 oD 14 (.mov (.k (.int .i64 0)))])
 (.keep [0, 1, 2, 7, 13, 14]))
 (.block 0 (.loop (.seq (.keep [0, 1, 2, 7, 13, 14])
 (.seq (.seq (.ops none [oD 15 (.bin .lss (.t 14) (.t 13))])
 (.keep [0, 1, 2, 7, 13, 14, 15]))
 (.seq (.cond (.t 15) .skip
 (.exit 0))
 (.seq (.block 1 (.seq (.seq (.ops none [oD 16 (.mov (.t 14)),
 oD 8 (.mov (.t 16))])
 (.keep [0, 1, 2, 7, 8, 13, 14]))
 (.seq (.seq (.ops none [oD 17 (.mov (.t 0)),
 oD 18 (.mov (.t 8)),
 oD 19 (.idxSl 3 (.t 17) (.t 18)),
 oD 20 (.fieldAddr 2 (.t 19)),
 oD 21 (.load1 (.t 20)),
 oD 22 (.mov (.t 2)),
 oD 23 (.bin .leq (.t 21) (.t 22))])
 (.keep [0, 1, 2, 7, 8, 13, 14, 23]))
 (.cond (.t 23) (.seq (.ops none [oD 24 (.mov (.t 1)),
 oD 25 (.mov (.t 8)),
 oD 26 (.idxSl 1 (.t 24) (.t 25)),
 oD 27 (.load1 (.t 26)),
 oD 7 (.mov (.t 27))])
 (.keep [0, 1, 2, 7, 13, 14]))
 .skip))))
 (.seq (.ops none [oD 28 (.bin .add (.t 14) (.k (.int .i64 1))),
 oD 14 (.mov (.t 28))])
 (.keep [0, 1, 2, 7, 13, 14])))))))))
 (.seq (.seq (.ops none [oD 29 (.mov (.t 7)),
 oD 6 (.mov (.t 29))])
 (.keep [6]))
 .ret))))
  results := [.tmp 6]
theorem ok16 : FnOK Tryz.prog pureL 16 a16 := ⟨Tryz.f16, [(0, [0, 1, 2]), (1, [0, 1, 2, 7]), (2, [0, 1, 2, 7, 13, 14]), (3, [0, 1, 2, 7, 13, 14, 15]), (4, [0, 1, 2, 7, 8, 13, 14]), (5, [0, 1, 2, 7, 8, 13, 14, 23]), (6, [0, 1, 2, 7, 13, 14]), (7, [0, 1, 2, 7, 13, 14]), (8, [6])], [(0, [0, 1, 2, 7, 13, 14])], Tryz.func16, by kernel_rfl⟩
/-- stylus/stylusref23.Page -/
def a17 : AFunc where
  body :=
  (.seq (.seq (.ops none [oD 6 (.mov (.k (.int .i64 0)))])
 (.keep [0, 1, 2]))
 (.seq (.seq (.seq (.ops none [oD 8 (.mov (.t 0)),
 oD 9 (.len .slice (.t 8)),
 oD 10 (.mov (.t 1)),
 oD 11 (.len .slice (.t 10)),
 oD 12 (.minmax false (.t 9) (.t 11)),
 oD 13 (.bin .sub (.t 12) (.k (.int .i64 1))),
 oD 7 (.mov (.t 13))])
 (.keep [0, 1, 2, 7]))
 (.block 0 (.loop (.seq (.keep [0, 1, 2, 7])
 (.seq (.seq (.seq (.ops none [oD 14 (.mov (.t 7)),
 oD 15 (.bin .geq (.t 14) (.k (.int .i64 0)))])
 (.keep [0, 1, 2, 7, 15]))
 (.cond (.t 15) .skip
 (.exit 0)))
 (.seq (.block 1 (.seq (.seq (.ops none [oD 18 (.mov (.t 0)),
 oD 19 (.mov (.t 7)),
 oD 20 (.idxSl 3 (.t 18) (.t 19)),
 oD 21 (.fieldAddr 2 (.t 20)),
 oD 22 (.load1 (.t 21)),
 oD 23 (.mov (.t 2)),
 oD 24 (.bin .leq (.t 22) (.t 23))])
 (.keep [0, 1, 2, 7, 24]))
 (.cond (.t 24) (.seq (.seq (.ops none [oD 25 (.mov (.t 1)),
 oD 26 (.mov (.t 7)),
 oD 27 (.idxSl 1 (.t 25) (.t 26)),
 oD 28 (.load1 (.t 27)),
 oD 6 (.mov (.t 28))])
 (.keep [6]))
 .ret)
 .skip)))
 (.seq (.ops none [oD 16 (.mov (.t 7)),
 oD 17 (.bin .sub (.t 16) (.k (.int .i64 1))),
 oD 7 (.mov (.t 17))])
 (.keep [0, 1, 2, 7]))))))))
 (.seq (.seq (.ops none [oD 6 (.mov (.k (.int .i64 1)))])
 (.keep [6]))
 .ret)))
  results := [.tmp 6]
theorem ok17 : FnOK Tryz.prog pureL 17 a17 := ⟨Tryz.f17, [(0, [0, 1, 2]), (1, [0, 1, 2, 7]), (2, [0, 1, 2, 7, 15]), (4, [0, 1, 2, 7, 24]), (5, [6]), (3, [0, 1, 2, 7]), (6, [6])], [(0, [0, 1, 2, 7])], Tryz.func17, by kernel_rfl⟩
/-- stylus/pages.Of -/
def a19 : AFunc where
  body :=
  (.seq (.seq (.ops none [oD 4 (.box (.t 1)),
 oD 5 (.box (.t 2)),
 oD 6 (.mov (.k .nilslice)),
 oD 7 (.mov (.k .nilslice)),
 oD 8 (.mov (.k (.int .i64 0)))])
 (.keep [0, 4, 5, 6]))
 (.seq (.seq (.ops none [oD 14 (.mov (.t 0)),
 oD 15 (.loadN 131 (.t 4)),
 oD 16 (.loadN 5 (.t 5)),
 oD 17 (.call 34 [(.t 14), (.t 15), (.t 16)]),
 oD 13 (.mov (.t 17)),
 oD 18 (.extract 0 (.t 13)),
 oD 19 (.extract 1 (.t 13)),
 oD 9 (.mov (.t 18)),
 oD 8 (.mov (.t 19))])
 (.keep [0, 5, 6, 8, 9]))
 (.seq (.seq (.seq (.ops none [oD 20 (.mov (.t 8)),
 oD 21 (.eq true (.leaf .int) (.t 20) (.k (.int .i64 0)))])
 (.keep [0, 5, 6, 8, 9, 21]))
 (.cond (.t 21) (.seq (.seq (.ops none [oD 22 (.mov (.t 8)),
 oD 6 (.mov (.k .nilslice)),
 oD 7 (.mov (.k .nilslice)),
 oD 8 (.mov (.t 22))])
 (.keep [6, 7, 8]))
 .ret)
 .skip))
 (.seq (.seq (.ops none [oD 23 (.mov (.t 9)),
 oD 24 (.fieldAddr 1 (.t 5)),
 oD 25 (.load1 (.t 24)),
 oD 26 (.call 35 [(.t 23), (.t 25)]),
 oD 10 (.mov (.t 26))])
 (.keep [0, 6, 10]))
 (.seq (.seq (.seq (.ops none [oD 27 (.mov (.t 10)),
 oD 28 (.len .slice (.t 27)),
 oD 29 (.mov (.k (.int .i64 0)))])
 (.keep [0, 6, 10, 27, 28, 29]))
 (.block 0 (.loop (.seq (.keep [0, 6, 10, 27, 28, 29])
 (.seq (.seq (.ops none [oD 30 (.bin .lss (.t 29) (.t 28))])
 (.keep [0, 6, 10, 27, 28, 29, 30]))
 (.seq (.cond (.t 30) .skip
 (.exit 0))
 (.seq (.block 1 (.seq (.seq (.ops none [oD 31 (.idxSl 1 (.t 27) (.t 29)),
 oD 32 (.load1 (.t 31)),
 oD 12 (.mov (.t 32))])
 (.keep [0, 6, 10, 12, 27, 28, 29]))
 (.seq (.ops none [oD 33 (.mov (.t 6)),
 oD 34 (.mov (.t 12)),
 oD 35 (.call 36 [(.t 34)]),
 oD 36 (.buildSlice [.nilslice, .nilslice] 2 1 [(0, 2, (.t 35))]),
 oD 37 (.append 2 (.t 33) (.t 36)),
 oD 6 (.mov (.t 37))])
 (.keep [0, 6, 10, 27, 28, 29]))))
 (.seq (.ops none [oD 38 (.bin .add (.t 29) (.k (.int .i64 1))),
 oD 29 (.mov (.t 38))])
 (.keep [0, 6, 10, 27, 28, 29])))))))))
 (.seq (.seq (.ops none [oD 39 (.mov (.t 6)),
 oD 40 (.mov (.t 0)),
 oD 41 (.mov (.t 10)),
 oD 42 (.call 37 [(.t 40), (.t 41)]),
 oD 6 (.mov (.t 39)),
 oD 7 (.mov (.t 42)),
 oD 8 (.mov (.k (.int .i64 0)))])
 (.keep [6, 7, 8]))
 .ret))))))
  results := [.tmp 6, .tmp 7, .tmp 8]
theorem ok19 : FnOK Tryz.prog pureL 19 a19 := ⟨Tryz.f19, [(0, [0, 4, 5, 6]), (1, [0, 5, 6, 8, 9]), (2, [0, 5, 6, 8, 9, 21]), (3, [6, 7, 8]), (4, [0, 6, 10]), (5, [0, 6, 10, 27, 28, 29]), (6, [0, 6, 10, 27, 28, 29, 30]), (7, [0, 6, 10, 12, 27, 28, 29]), (8, [0, 6, 10, 27, 28, 29]), (9, [0, 6, 10, 27, 28, 29]), (10, [6, 7, 8])], [(0, [0, 6, 10, 27, 28, 29])], Tryz.func19, by kernel_rfl⟩
/-- stylus/styluslaw23.is -/
def a22 : AFunc where
  body :=
  (.seq (.seq (.ops none [oD 6 (.mov (.k (.bool false)))])
 (.keep [0, 1, 2]))
 (.seq (.seq (.ops none [oD 17 (.mov (.t 0)),
 oD 18 (.call 23 [(.t 17)]),
 oD 7 (.mov (.t 18))])
 (.keep [1, 2, 7]))
 (.seq (.seq (.ops none [oD 20 (.mov (.t 7)),
 oD 21 (.call 38 []),
 oD 22 (.call 39 []),
 oD 23 (.call 19 [(.t 20), (.t 21), (.t 22)]),
 oD 19 (.mov (.t 23)),
 oD 24 (.extract 0 (.t 19)),
 oD 25 (.extract 1 (.t 19)),
 oD 26 (.extract 2 (.t 19)),
 oD 8 (.mov (.t 24)),
 oD 9 (.mov (.t 25)),
 oD 10 (.mov (.t 26))])
 (.keep [1, 2, 7, 8, 10]))
 (.seq (.seq (.ops none [oD 28 (.mov (.t 7)),
 oD 29 (.mov (.t 8)),
 oD 30 (.call 9 [(.t 28), (.t 29)]),
 oD 27 (.mov (.t 30)),
 oD 31 (.extract 0 (.t 27)),
 oD 32 (.extract 1 (.t 27)),
 oD 11 (.alloc [.nilslice, .nilslice]),
 oN (.store 2 (.t 11) (.t 31)),
 oD 12 (.mov (.t 32))])
 (.keep [1, 2, 10, 11, 12]))
 (.seq (.seq (.seq (.ops none [oD 33 (.mov (.t 10)),
 oD 34 (.eq true (.leaf .int) (.t 33) (.k (.int .i64 0))),
 oD 35 (.mov (.t 34)),
 oG 36 35 false (.mov (.t 12)),
 oG 37 35 false (.eq true (.leaf .int) (.t 36) (.k (.int .i64 0))),
 oD 38 (.pick (.t 35) (.k (.bool true)) (.t 37)),
 oD 39 (.mov (.t 38)),
 oG 40 39 false (.fieldAddr 1 (.t 11)),
 oG 41 39 false (.load1 (.t 40)),
 oG 42 39 false (.len .slice (.t 41)),
 oG 43 39 false (.bin .mul (.k (.int .i64 2)) (.t 42)),
 oG 44 39 false (.mov (.t 1)),
 oG 45 39 false (.len .str (.t 44)),
 oG 46 39 false (.eq true (.leaf .int) (.t 43) (.t 45)),
 oD 47 (.pick (.t 39) (.k (.bool true)) (.t 46)),
 oD 48 (.mov (.t 47)),
 oG 49 48 false (.fieldAddr 0 (.t 11)),
 oG 50 48 false (.load1 (.t 49)),
 oG 51 48 false (.len .slice (.t 50)),
 oG 52 48 false (.bin .mul (.k (.int .i64 3)) (.t 51)),
 oG 53 48 false (.mov (.t 2)),
 oG 54 48 false (.len .str (.t 53)),
 oG 55 48 false (.eq true (.leaf .int) (.t 52) (.t 54)),
 oD 56 (.pick (.t 48) (.k (.bool true)) (.t 55))])
 (.keep [1, 2, 11, 56]))
 (.cond (.t 56) (.seq (.seq (.ops none [oD 6 (.mov (.k (.bool false)))])
 (.keep [6]))
 .ret)
 .skip))
 (.seq (.seq (.seq (.ops none [oD 13 (.mov (.k (.int .i64 0)))])
 (.keep [1, 2, 11, 13]))
 (.block 0 (.loop (.seq (.keep [1, 2, 11, 13])
 (.seq (.seq (.seq (.ops none [oD 57 (.mov (.t 13)),
 oD 58 (.fieldAddr 1 (.t 11)),
 oD 59 (.load1 (.t 58)),
 oD 60 (.len .slice (.t 59)),
 oD 61 (.bin .lss (.t 57) (.t 60))])
 (.keep [1, 2, 11, 13, 61]))
 (.cond (.t 61) .skip
 (.exit 0)))
 (.seq (.block 1 (.seq (.seq (.ops none [oD 64 (.fieldAddr 1 (.t 11)),
 oD 65 (.load1 (.t 64)),
 oD 66 (.mov (.t 13)),
 oD 67 (.idxSl 3 (.t 65) (.t 66)),
 oD 68 (.loadN 3 (.t 67)),
 oD 14 (.alloc [(.int .i64 0), (.int .i64 0), (.int .i64 0)]),
 oN (.store 3 (.t 14) (.t 68))])
 (.keep [1, 2, 11, 13, 14]))
 (.seq (.ops (some [1, 2, 11, 13, 102]) [oD 69 (.fieldAddr 0 (.t 14)),
 oD 70 (.load1 (.t 69)),
 oD 71 (.eq true (.leaf .int) (.t 70) (.k (.int .i64 1))),
 oD 72 (.mov (.t 71)),
 oG 73 72 false (.fieldAddr 1 (.t 14)),
 oG 74 72 false (.load1 (.t 73)),
 oG 75 72 false (.mov (.t 1)),
 oG 76 72 false (.mov (.t 13)),
 oG 77 72 false (.bin .mul (.k (.int .i64 2)) (.t 76)),
 oG 78 72 false (.indexStr (.t 75) (.t 77)),
 oG 79 72 false (.bin .sub (.t 78) (.k (.int .u8 48))),
 oG 80 72 false (.convInt .i64 (.t 79)),
 oG 81 72 false (.eq true (.leaf .int) (.t 74) (.t 80)),
 oD 82 (.pick (.t 72) (.k (.bool true)) (.t 81)),
 oD 83 (.mov (.t 82)),
 oG 84 83 false (.fieldAddr 2 (.t 14)),
 oG 85 83 false (.load1 (.t 84)),
 oG 86 83 false (.mov (.t 1)),
 oG 87 83 false (.mov (.t 13)),
 oG 88 83 false (.bin .mul (.k (.int .i64 2)) (.t 87)),
 oG 89 83 false (.bin .add (.t 88) (.k (.int .i64 1))),
 oG 90 83 false (.indexStr (.t 86) (.t 89)),
 oG 91 83 false (.bin .sub (.t 90) (.k (.int .u8 48))),
 oG 92 83 false (.convInt .i64 (.t 91)),
 oG 93 83 false (.eq true (.leaf .int) (.t 85) (.t 92)),
 oD 94 (.pick (.t 83) (.k (.bool true)) (.t 93)),
 oD 95 (.mov (.t 94)),
 oG 96 95 false (.loadN 2 (.t 11)),
 oG 98 95 false (.loadN 3 (.t 14)),
 oG 100 95 false (.mov (.t 13)),
 ⟨(some 97), (some (95, false)), .call 15 [(.t 96)], [⟨98, (some (95, false)), .loadN 3 (.t 14)⟩]⟩,
 oG 99 95 false (.lookup (.agg [.int, .int, .int]) (.int .i64 0) false (.t 97) (.t 98)),
 oG 101 95 false (.eq true (.leaf .int) (.t 99) (.t 100)),
 oD 102 (.pick (.t 95) (.k (.bool true)) (.t 101))])
 (.cond (.t 102) (.seq (.seq (.ops none [oD 6 (.mov (.k (.bool false)))])
 (.keep [6]))
 .ret)
 .skip))))
 (.seq (.ops none [oD 62 (.mov (.t 13)),
 oD 63 (.bin .add (.t 62) (.k (.int .i64 1))),
 oD 13 (.mov (.t 63))])
 (.keep [1, 2, 11, 13]))))))))
 (.seq (.seq (.seq (.ops none [oD 15 (.mov (.k (.int .i64 0)))])
 (.keep [2, 11, 15]))
 (.block 2 (.loop (.seq (.keep [2, 11, 15])
 (.seq (.seq (.seq (.ops none [oD 103 (.mov (.t 15)),
 oD 104 (.fieldAddr 0 (.t 11)),
 oD 105 (.load1 (.t 104)),
 oD 106 (.len .slice (.t 105)),
 oD 107 (.bin .lss (.t 103) (.t 106))])
 (.keep [2, 11, 15, 107]))
 (.cond (.t 107) .skip
 (.exit 2)))
 (.seq (.block 3 (.seq (.seq (.ops none [oD 110 (.fieldAddr 0 (.t 11)),
 oD 111 (.load1 (.t 110)),
 oD 112 (.mov (.t 15)),
 oD 113 (.idxSl 4 (.t 111) (.t 112)),
 oD 114 (.loadN 4 (.t 113)),
 oD 16 (.alloc [(.int .u8 0), (.int .i64 0), (.int .i64 0), (.int .i64 0)]),
 oN (.store 4 (.t 16) (.t 114))])
 (.keep [2, 11, 15, 16]))
 (.seq (.ops (some [2, 11, 15, 145]) [oD 115 (.fieldAddr 0 (.t 16)),
 oD 116 (.load1 (.t 115)),
 oD 117 (.mov (.t 2)),
 oD 118 (.mov (.t 15)),
 oD 119 (.bin .mul (.k (.int .i64 3)) (.t 118)),
 oD 120 (.indexStr (.t 117) (.t 119)),
 oD 121 (.eq true (.leaf .int) (.t 116) (.t 120)),
 oD 122 (.mov (.t 121)),
 oG 123 122 false (.fieldAddr 2 (.t 16)),
 oG 124 122 false (.load1 (.t 123)),
 oG 125 122 false (.mov (.t 2)),
 oG 126 122 false (.mov (.t 15)),
 oG 127 122 false (.bin .mul (.k (.int .i64 3)) (.t 126)),
 oG 128 122 false (.bin .add (.t 127) (.k (.int .i64 1))),
 oG 129 122 false (.indexStr (.t 125) (.t 128)),
 oG 130 122 false (.bin .sub (.t 129) (.k (.int .u8 48))),
 oG 131 122 false (.convInt .i64 (.t 130)),
 oG 132 122 false (.eq true (.leaf .int) (.t 124) (.t 131)),
 oD 133 (.pick (.t 122) (.k (.bool true)) (.t 132)),
 oD 134 (.mov (.t 133)),
 oG 135 134 false (.fieldAddr 3 (.t 16)),
 oG 136 134 false (.load1 (.t 135)),
 oG 137 134 false (.mov (.t 2)),
 oG 138 134 false (.mov (.t 15)),
 oG 139 134 false (.bin .mul (.k (.int .i64 3)) (.t 138)),
 oG 140 134 false (.bin .add (.t 139) (.k (.int .i64 2))),
 oG 141 134 false (.indexStr (.t 137) (.t 140)),
 oG 142 134 false (.bin .sub (.t 141) (.k (.int .u8 48))),
 oG 143 134 false (.convInt .i64 (.t 142)),
 oG 144 134 false (.eq true (.leaf .int) (.t 136) (.t 143)),
 oD 145 (.pick (.t 134) (.k (.bool true)) (.t 144))])
 (.cond (.t 145) (.seq (.seq (.ops none [oD 6 (.mov (.k (.bool false)))])
 (.keep [6]))
 .ret)
 .skip))))
 (.seq (.ops none [oD 108 (.mov (.t 15)),
 oD 109 (.bin .add (.t 108) (.k (.int .i64 1))),
 oD 15 (.mov (.t 109))])
 (.keep [2, 11, 15]))))))))
 (.seq (.seq (.ops none [oD 6 (.mov (.k (.bool true)))])
 (.keep [6]))
 .ret))))))))
  results := [.tmp 6]
theorem ok22 : FnOK Tryz.prog pureL 22 a22 := ⟨Tryz.f22, [(0, [0, 1, 2]), (1, [1, 2, 7]), (2, [1, 2, 7, 8, 10]), (3, [1, 2, 10, 11, 12]), (4, [1, 2, 11, 56]), (5, [6]), (6, [1, 2, 11, 13]), (7, [1, 2, 11, 13, 61]), (9, [1, 2, 11, 13, 14]), (10, [1, 2, 11, 13, 102]), (11, [6]), (8, [1, 2, 11, 13]), (12, [2, 11, 15]), (13, [2, 11, 15, 107]), (15, [2, 11, 15, 16]), (16, [2, 11, 15, 145]), (17, [6]), (14, [2, 11, 15]), (18, [6])], [(0, [1, 2, 11, 13]), (2, [2, 11, 15])], Tryz.func22, by kernel_rfl⟩
/-- stylus/styluslaw23.toks -/
def a23 : AFunc where
  body :=
  (.seq (.seq (.ops none [oD 2 (.mov (.k .nilslice))])
 (.keep [0]))
 (.seq (.seq (.ops none [oD 11 (.mov (.t 0)),
 oD 12 (.call 40 [(.t 11)]),
 oD 10 (.mov (.t 12)),
 oD 13 (.extract 0 (.t 10)),
 oD 14 (.extract 1 (.t 10)),
 oD 15 (.extract 2 (.t 10)),
 oD 3 (.mov (.t 13)),
 oD 4 (.mov (.t 14)),
 oD 5 (.mov (.t 15))])
 (.keep [3]))
 (.seq (.seq (.ops none [oD 17 (.mov (.t 3)),
 oD 18 (.call 41 [(.t 17)]),
 oD 16 (.mov (.t 18)),
 oD 19 (.extract 0 (.t 16)),
 oD 20 (.extract 1 (.t 16)),
 oD 6 (.mov (.t 19)),
 oD 7 (.mov (.t 20))])
 (.keep [6]))
 (.seq (.seq (.ops none [oD 22 (.mov (.t 6)),
 oD 23 (.call 42 [(.t 22)]),
 oD 21 (.mov (.t 23)),
 oD 24 (.extract 0 (.t 21)),
 oD 25 (.extract 1 (.t 21)),
 oD 8 (.mov (.t 24)),
 oD 9 (.mov (.t 25))])
 (.keep [8]))
 (.seq (.seq (.ops none [oD 26 (.mov (.t 8)),
 oD 2 (.mov (.t 26))])
 (.keep [2]))
 .ret)))))
  results := [.tmp 2]
theorem ok23 : FnOK Tryz.prog pureL 23 a23 := ⟨Tryz.f23, [(0, [0]), (1, [3]), (2, [6]), (3, [8]), (4, [2])], [], Tryz.func23, by kernel_rfl⟩
/-- stylus/flat.Tree -/
def a25 : AFunc where
  body :=
  (.seq (.seq (.ops none [oD 2 (.mov (.k .nilslice)),
 oD 3 (.mov (.k (.int .i64 0)))])
 (.keep [0]))
 (.seq (.seq (.ops none [oD 4 (.alloc [.nilslice, .nilslice, (.bool false)])])
 (.keep [0, 4]))
 (.seq (.seq (.seq (.ops none [oD 6 (.mov (.t 0)),
 oD 7 (.makeFunc 44 [] [(.t 4)]),
 oD 8 (.call 43 [(.t 6), (.t 7)]),
 oD 9 (.mov (.t 8)),
 oG 10 9 false (.fieldAddr 1 (.t 4)),
 oG 11 9 false (.load1 (.t 10)),
 oG 12 9 false (.len .slice (.t 11)),
 oG 13 9 false (.bin .gtr (.t 12) (.k (.int .i64 0))),
 oD 14 (.pick (.t 9) (.k (.bool true)) (.t 13))])
 (.keep [4, 14]))
 (.cond (.t 14) (.seq (.seq (.ops none [oD 2 (.mov (.k .nilslice)),
 oD 3 (.mov (.k (.int .i64 2)))])
 (.keep [2, 3]))
 .ret)
 .skip))
 (.seq (.seq (.seq (.ops none [oD 15 (.fieldAddr 0 (.t 4)),
 oD 16 (.load1 (.t 15)),
 oD 17 (.call 46 [(.t 16)]),
 oD 5 (.mov (.t 17))])
 (.keep [4, 5]))
 (.block 0 (.seq (.seq (.ops none [oD 19 (.mov (.t 5)),
 oD 20 (.eq true (.leaf .int) (.t 19) (.k (.int .i64 0))),
 oD 18 (.mov (.t 20))])
 (.keep [4, 5, 18]))
 (.cond (.t 18) (.seq (.seq (.ops none [oD 21 (.mov (.t 5)),
 oD 2 (.mov (.k .nilslice)),
 oD 3 (.mov (.t 21))])
 (.keep [2, 3]))
 .ret)
 (.seq (.seq (.ops none [oD 23 (.fieldAddr 0 (.t 4)),
 oD 24 (.load1 (.t 23)),
 oD 25 (.call 47 [(.t 24)]),
 oD 26 (.un .not (.t 25)),
 oD 22 (.mov (.t 26))])
 (.keep [4, 22]))
 (.cond (.t 22) (.seq (.seq (.ops none [oD 2 (.mov (.k .nilslice)),
 oD 3 (.mov (.k (.int .i64 2)))])
 (.keep [2, 3]))
 .ret)
 .skip))))))
 (.seq (.seq (.ops none [oD 27 (.fieldAddr 0 (.t 4)),
 oD 28 (.load1 (.t 27)),
 oD 2 (.mov (.t 28)),
 oD 3 (.mov (.k (.int .i64 0)))])
 (.keep [2, 3]))
 .ret)))))
  results := [.tmp 2, .tmp 3]
theorem ok25 : FnOK Tryz.prog pureL 25 a25 := ⟨Tryz.f25, [(0, [0]), (1, [0, 4]), (2, [4, 14]), (3, [2, 3]), (4, [4, 5]), (5, [4, 5, 18]), (7, [4, 22]), (8, [2, 3]), (6, [2, 3]), (9, [2, 3])], [], Tryz.func25, by kernel_rfl⟩
/-- stylus/order.book -/
def a26 : AFunc where
  body :=
  (.seq (.seq (.ops none [oD 2 (.mov (.k .nilmap))])
 (.keep [0]))
 (.seq (.seq (.ops none [oD 13 (.makeMap),
 oD 3 (.mov (.t 13))])
 (.keep [0, 3]))
 (.seq (.seq (.seq (.ops none [oD 14 (.mov (.t 0)),
 oD 15 (.len .slice (.t 14)),
 oD 16 (.mov (.k (.int .i64 0)))])
 (.keep [3, 14, 15, 16]))
 (.block 0 (.loop (.seq (.keep [3, 14, 15, 16])
 (.seq (.seq (.ops none [oD 17 (.bin .lss (.t 16) (.t 15))])
 (.keep [3, 14, 15, 16, 17]))
 (.seq (.cond (.t 17) .skip
 (.exit 0))
 (.seq (.block 1 (.seq (.seq (.ops none [oD 18 (.mov (.t 16)),
 oD 19 (.idxSl 2 (.t 14) (.t 16)),
 oD 20 (.loadN 2 (.t 19)),
 oD 5 (.alloc [.nilslice, .nilslice]),
 oD 4 (.mov (.t 18)),
 oN (.store 2 (.t 5) (.t 20))])
 (.keep [3, 4, 5, 14, 15, 16]))
 (.seq (.seq (.ops none [oD 21 (.fieldAddr 0 (.t 5)),
 oD 22 (.load1 (.t 21)),
 oD 23 (.fieldAddr 1 (.t 5)),
 oD 24 (.load1 (.t 23)),
 oD 25 (.buildSlice [.nilslice, .nilslice] 1 2 [(0, 1, (.t 22)), (1, 1, (.t 24))]),
 oD 26 (.call 48 [(.t 25)]),
 oD 27 (.len .slice (.t 26)),
 oD 28 (.mov (.k (.int .i64 0)))])
 (.keep [3, 4, 14, 15, 16, 26, 27, 28]))
 (.block 2 (.loop (.seq (.keep [3, 4, 14, 15, 16, 26, 27, 28])
 (.seq (.seq (.ops none [oD 29 (.bin .lss (.t 28) (.t 27))])
 (.keep [3, 4, 14, 15, 16, 26, 27, 28, 29]))
 (.seq (.cond (.t 29) .skip
 (.exit 2))
 (.seq (.block 3 (.seq (.seq (.ops none [oD 30 (.mov (.t 28)),
 oD 31 (.idxSl 3 (.t 26) (.t 28)),
 oD 32 (.loadN 3 (.t 31)),
 oD 7 (.alloc [.nilslice, (.int .i64 0), (.int .i64 0)]),
 oD 6 (.mov (.t 30)),
 oN (.store 3 (.t 7) (.t 32))])
 (.keep [3, 4, 6, 7, 14, 15, 16, 26, 27, 28]))
 (.seq (.seq (.ops none [oD 33 (.fieldAddr 0 (.t 7)),
 oD 34 (.load1 (.t 33)),
 oD 35 (.len .slice (.t 34)),
 oD 36 (.mov (.k (.int .i64 0)))])
 (.keep [3, 4, 6, 7, 14, 15, 16, 26, 27, 28, 34, 35, 36]))
 (.block 4 (.loop (.seq (.keep [3, 4, 6, 7, 14, 15, 16, 26, 27, 28, 34, 35, 36])
 (.seq (.seq (.ops none [oD 37 (.bin .lss (.t 36) (.t 35))])
 (.keep [3, 4, 6, 7, 14, 15, 16, 26, 27, 28, 34, 35, 36, 37]))
 (.seq (.cond (.t 37) .skip
 (.exit 4))
 (.seq (.block 5 (.seq (.seq (.ops none [oD 38 (.mov (.t 36)),
 oD 39 (.idxSl 4 (.t 34) (.t 36)),
 oD 40 (.loadN 4 (.t 39)),
 oD 9 (.alloc [(.int .i64 0), (.int .u8 0), (.int .i64 0), (.int .i64 0)]),
 oD 8 (.mov (.t 38)),
 oN (.store 4 (.t 9) (.t 40))])
 (.keep [3, 4, 6, 7, 8, 9, 14, 15, 16, 26, 27, 28, 34, 35, 36]))
 (.seq (.seq (.ops none [oD 41 (.fieldAddr 3 (.t 9)),
 oD 42 (.load1 (.t 41)),
 oD 43 (.fieldAddr 2 (.t 9)),
 oD 44 (.load1 (.t 43)),
 oD 45 (.build [(.int .i64 0), (.int .i64 0)] [(0, 1, (.t 42)), (1, 1, (.t 44))]),
 oD 10 (.alloc [(.int .i64 0), (.int .i64 0)]),
 oN (.store 2 (.t 10) (.t 45))])
 (.keep [3, 4, 6, 7, 8, 10, 14, 15, 16, 26, 27, 28, 34, 35, 36]))
 (.seq (.seq (.ops none [oD 47 (.mov (.t 3)),
 oD 48 (.loadN 2 (.t 10)),
 oD 49 (.lookup (.agg [.int, .int]) (.agg [(.int .i64 0), (.int .i64 0), (.int .i64 0), (.int .i64 0), (.bool false)]) true (.t 47) (.t 48)),
 oD 46 (.mov (.t 49)),
 oD 50 (.extract 0 (.t 46)),
 oD 51 (.extract 1 (.t 46)),
 oD 11 (.alloc [(.int .i64 0), (.int .i64 0), (.int .i64 0), (.int .i64 0), (.bool false)]),
 oN (.store 5 (.t 11) (.t 50)),
 oD 12 (.mov (.t 51))])
 (.keep [3, 4, 6, 7, 8, 10, 11, 12, 14, 15, 16, 26, 27, 28, 34, 35, 36]))
 (.seq (.seq (.seq (.ops none [oD 52 (.mov (.t 12)),
 oD 53 (.fieldAddr 4 (.t 11)),
 oN (.store 1 (.t 53) (.t 52))])
 (.keep [3, 4, 6, 7, 8, 10, 11, 12, 14, 15, 16, 26, 27, 28, 34, 35, 36]))
 (.seq (.seq (.ops none [oD 54 (.mov (.t 12)),
 oD 55 (.un .not (.t 54))])
 (.keep [3, 4, 6, 7, 8, 10, 11, 14, 15, 16, 26, 27, 28, 34, 35, 36, 55]))
 (.cond (.t 55) (.seq (.ops none [oD 56 (.mov (.t 4)),
 oD 57 (.bin .add (.t 56) (.k (.int .i64 1))),
 oD 58 (.mov (.t 6)),
 oD 59 (.mov (.t 8)),
 oD 60 (.build [(.int .i64 0), (.int .i64 0), (.int .i64 0)] [(0, 1, (.t 57)), (1, 1, (.t 58)), (2, 1, (.t 59))]),
 oD 61 (.fieldAddr 0 (.t 7)),
 oD 62 (.load1 (.t 61)),
 oD 63 (.len .slice (.t 62)),
 oD 64 (.build [(.int .i64 0), (.int .i64 0), (.int .i64 0), (.int .i64 0), (.bool false)] [(0, 3, (.t 60)), (3, 1, (.t 63))]),
 oN (.store 5 (.t 11) (.t 64))])
 (.keep [3, 4, 6, 7, 10, 11, 14, 15, 16, 26, 27, 28, 34, 35, 36]))
 .skip)))
 (.seq (.ops none [oD 65 (.mov (.t 3)),
 oD 66 (.loadN 2 (.t 10)),
 oD 67 (.loadN 5 (.t 11)),
 oN (.mapUpdate (.agg [.int, .int]) (.t 65) (.t 66) (.t 67))])
 (.keep [3, 4, 6, 7, 14, 15, 16, 26, 27, 28, 34, 35, 36])))))))
 (.seq (.ops none [oD 68 (.bin .add (.t 36) (.k (.int .i64 1))),
 oD 36 (.mov (.t 68))])
 (.keep [3, 4, 6, 7, 14, 15, 16, 26, 27, 28, 34, 35, 36])))))))))))
 (.seq (.ops none [oD 69 (.bin .add (.t 28) (.k (.int .i64 1))),
 oD 28 (.mov (.t 69))])
 (.keep [3, 4, 14, 15, 16, 26, 27, 28])))))))))))
 (.seq (.ops none [oD 70 (.bin .add (.t 16) (.k (.int .i64 1))),
 oD 16 (.mov (.t 70))])
 (.keep [3, 14, 15, 16])))))))))
 (.seq (.seq (.ops none [oD 71 (.mov (.t 3)),
 oD 2 (.mov (.t 71))])
 (.keep [2]))
 .ret))))
  results := [.tmp 2]
theorem ok26 : FnOK Tryz.prog pureL 26 a26 := ⟨Tryz.f26, [(0, [0]), (1, [0, 3]), (2, [3, 14, 15, 16]), (3, [3, 14, 15, 16, 17]), (4, [3, 4, 5, 14, 15, 16]), (5, [3, 4, 14, 15, 16, 26, 27, 28]), (6, [3, 4, 14, 15, 16, 26, 27, 28, 29]), (7, [3, 4, 6, 7, 14, 15, 16, 26, 27, 28]), (8, [3, 4, 6, 7, 14, 15, 16, 26, 27, 28, 34, 35, 36]), (9, [3, 4, 6, 7, 14, 15, 16, 26, 27, 28, 34, 35, 36, 37]), (10, [3, 4, 6, 7, 8, 9, 14, 15, 16, 26, 27, 28, 34, 35, 36]), (11, [3, 4, 6, 7, 8, 10, 14, 15, 16, 26, 27, 28, 34, 35, 36]), (12, [3, 4, 6, 7, 8, 10, 11, 12, 14, 15, 16, 26, 27, 28, 34, 35, 36]), (13, [3, 4, 6, 7, 8, 10, 11, 12, 14, 15, 16, 26, 27, 28, 34, 35, 36]), (14, [3, 4, 6, 7, 8, 10, 11, 14, 15, 16, 26, 27, 28, 34, 35, 36, 55]), (15, [3, 4, 6, 7, 10, 11, 14, 15, 16, 26, 27, 28, 34, 35, 36]), (16, [3, 4, 6, 7, 14, 15, 16, 26, 27, 28, 34, 35, 36]), (17, [3, 4, 6, 7, 14, 15, 16, 26, 27, 28, 34, 35, 36]), (18, [3, 4, 14, 15, 16, 26, 27, 28]), (19, [3, 14, 15, 16]), (20, [2])], [(0, [3, 14, 15, 16]), (2, [3, 4, 14, 15, 16, 26, 27, 28]), (4, [3, 4, 6, 7, 14, 15, 16, 26, 27, 28, 34, 35, 36])], Tryz.func26, by kernel_rfl⟩
/-- (*stylus/order.reader).read -/
def a27 : AFunc where
  body :=
  (.seq (.seq (.ops none [oD 2 (.mov (.k (.bool false)))])
 (.keep [0]))
 (.seq (.seq (.ops none [oD 3 (.mov (.k (.func (.fn 49) [] [])))])
 (.keep [0, 3]))
 (.seq (.seq (.seq (.ops none [oD 6 (.mov (.t 0)),
 oD 7 (.nilCheck (.t 6)),
 oD 8 (.fieldAddr 2 (.t 7)),
 oD 9 (.load1 (.t 8)),
 oD 10 (.len .slice (.t 9)),
 oD 11 (.mov (.k (.int .i64 0)))])
 (.keep [0, 3, 9, 10, 11]))
 (.block 0 (.loop (.seq (.keep [0, 3, 9, 10, 11])
 (.seq (.seq (.ops none [oD 12 (.bin .lss (.t 11) (.t 10))])
 (.keep [0, 3, 9, 10, 11, 12]))
 (.seq (.cond (.t 12) .skip
 (.exit 0))
 (.seq (.block 1 (.seq (.seq (.ops none [oD 13 (.mov (.t 11)),
 oD 14 (.idxSl 3 (.t 9) (.t 11)),
 oD 15 (.loadN 3 (.t 14)),
 oD 5 (.alloc [(.int .i64 0), (.int .u8 0), (.int .i64 0)]),
 oD 4 (.mov (.t 13)),
 oN (.store 3 (.t 5) (.t 15))])
 (.keep [0, 3, 4, 5, 9, 10, 11]))
 (.seq (.block 2 (.seq (.seq (.ops none [oD 17 (.mov (.t 3)),
 oD 18 (.loadN 3 (.t 5)),
 oD 19 (.callv (.t 17) [(.t 18)]),
 oD 20 (.un .not (.t 19)),
 oD 16 (.mov (.t 20))])
 (.keep [0, 3, 4, 5, 9, 10, 11, 16]))
 (.cond (.t 16) (.seq (.seq (.ops none [oD 21 (.mov (.t 0)),
 oD 22 (.mov (.t 4)),
 oD 23 (.call 50 [(.t 21), (.t 22)]),
 oD 24 (.un .not (.t 23))])
 (.keep [0, 3, 9, 10, 11, 24]))
 (.cond (.t 24) (.seq (.seq (.ops none [oD 2 (.mov (.k (.bool false)))])
 (.keep [2]))
 .ret)
 .skip))
 (.seq (.seq (.ops none [oD 26 (.fieldAddr 0 (.t 5)),
 oD 27 (.load1 (.t 26)),
 oD 28 (.eq false (.leaf .int) (.t 27) (.k (.int .i64 2))),
 oD 29 (.mov (.t 28)),
 oG 30 29 true (.loadN 3 (.t 5)),
 oG 31 29 true (.call 51 [(.t 30)]),
 oD 32 (.pick (.t 29) (.t 31) (.k (.bool false))),
 oD 25 (.mov (.t 32))])
 (.keep [0, 3, 4, 5, 9, 10, 11, 25]))
 (.cond (.t 25) (.seq (.ops none [oD 33 (.mov (.t 0)),
 oD 34 (.mov (.t 0)),
 oD 35 (.nilCheck (.t 34)),
 oD 36 (.fieldAddr 6 (.t 35)),
 oD 37 (.load1 (.t 36)),
 oD 38 (.mov (.t 4)),
 oD 39 (.buildSlice [(.int .i64 0)] 1 1 [(0, 1, (.t 38))]),
 oD 40 (.append 1 (.t 37) (.t 39)),
 oD 41 (.nilCheck (.t 33)),
 oD 42 (.fieldAddr 6 (.t 41)),
 oN (.store 1 (.t 42) (.t 40))])
 (.keep [0, 3, 9, 10, 11]))
 (.seq (.seq (.ops none [oD 44 (.loadN 3 (.t 5)),
 oD 45 (.call 51 [(.t 44)]),
 oD 43 (.mov (.t 45))])
 (.keep [0, 3, 9, 10, 11, 43]))
 (.cond (.t 43) (.ops (some [0, 3, 9, 10, 11]) [oD 46 (.mov (.t 0)),
 oD 47 (.mov (.t 0)),
 oD 48 (.nilCheck (.t 47)),
 oD 49 (.fieldAddr 6 (.t 48)),
 oD 50 (.load1 (.t 49)),
 oD 51 (.mov (.t 0)),
 oD 52 (.nilCheck (.t 51)),
 oD 53 (.fieldAddr 6 (.t 52)),
 oD 54 (.load1 (.t 53)),
 oD 55 (.len .slice (.t 54)),
 oD 56 (.bin .sub (.t 55) (.k (.int .i64 1))),
 oD 57 (.sliceSl 1 (.t 50) none (some (.t 56))),
 oD 58 (.nilCheck (.t 46)),
 oD 59 (.fieldAddr 6 (.t 58)),
 oN (.store 1 (.t 59) (.t 57))])
 .skip)))))))
 (.ops (some [0, 3, 9, 10, 11]) [oD 60 (.mov (.t 0)),
 oD 61 (.mov (.t 0)),
 oD 62 (.nilCheck (.t 61)),
 oD 63 (.fieldAddr 4 (.t 62)),
 oD 64 (.load1 (.t 63)),
 oD 65 (.mov (.t 0)),
 oD 66 (.nilCheck (.t 65)),
 oD 67 (.fieldAddr 0 (.t 66)),
 oD 68 (.fieldAddr 1 (.t 67)),
 oD 69 (.load1 (.t 68)),
 oD 70 (.len .slice (.t 69)),
 oD 71 (.buildSlice [(.int .i64 0)] 1 1 [(0, 1, (.t 70))]),
 oD 72 (.append 1 (.t 64) (.t 71)),
 oD 73 (.nilCheck (.t 60)),
 oD 74 (.fieldAddr 4 (.t 73)),
 oN (.store 1 (.t 74) (.t 72))]))))
 (.seq (.ops none [oD 75 (.bin .add (.t 11) (.k (.int .i64 1))),
 oD 11 (.mov (.t 75))])
 (.keep [0, 3, 9, 10, 11])))))))))
 (.seq (.seq (.ops none [oD 2 (.mov (.k (.bool true)))])
 (.keep [2]))
 .ret))))
  results := [.tmp 2]
theorem ok27 : FnOK Tryz.prog pureL 27 a27 := ⟨Tryz.f27, [(0, [0]), (1, [0, 3]), (2, [0, 3, 9, 10, 11]), (3, [0, 3, 9, 10, 11, 12]), (4, [0, 3, 4, 5, 9, 10, 11]), (5, [0, 3, 4, 5, 9, 10, 11, 16]), (8, [0, 3, 4, 5, 9, 10, 11, 25]), (10, [0, 3, 9, 10, 11, 43]), (11, [0, 3, 9, 10, 11]), (9, [0, 3, 9, 10, 11]), (6, [0, 3, 9, 10, 11, 24]), (7, [2]), (12, [0, 3, 9, 10, 11]), (13, [0, 3, 9, 10, 11]), (14, [2])], [(0, [0, 3, 9, 10, 11])], Tryz.func27, by kernel_rfl⟩
/-- (*stylus/order.reader).nodes -/
def a28 : AFunc where
  body :=
  (.seq (.seq (.ops none [oD 2 (.box (.t 0))])
 (.keep [1, 2]))
 (.seq (.seq (.ops none [oD 4 (.alloc [(.int .i64 0)]),
 oN (.store 1 (.t 4) (.k (.int .i64 0)))])
 (.keep [1, 2, 4]))
 (.seq (.seq (.ops none [oD 7 (.makeFunc 52 [] [(.t 4), (.t 2)]),
 oD 5 (.alloc [.nilfunc]),
 oN (.store 1 (.t 5) (.t 7))])
 (.keep [1, 2, 4, 5]))
 (.seq (.seq (.ops none [oD 6 (.alloc [.nilfunc])])
 (.keep [1, 2, 4, 5, 6]))
 (.seq (.seq (.ops none [oD 8 (.makeFunc 53 [] [(.t 2), (.t 5), (.t 4), (.t 6)]),
 oN (.store 1 (.t 6) (.t 8))])
 (.keep [1, 6]))
 (.seq (.ops none [oD 9 (.load1 (.t 6)),
 oD 10 (.mov (.t 1)),
 oD 11 (.callv (.t 9) [(.t 10)])])
 (.keep [])))))))
  results := []
theorem ok28 : FnOK Tryz.prog pureL 28 a28 := ⟨Tryz.f28, [(0, [1, 2]), (1, [1, 2, 4]), (2, [1, 2, 4, 5]), (3, [1, 2, 4, 5, 6]), (4, [1, 6]), (5, [])], [], Tryz.func28, by kernel_rfl⟩
/-- stylus/lay.Of -/
def a34 : AFunc where
  body :=
  (.seq (.seq (.ops none [oD 4 (.box (.t 1)),
 oD 5 (.box (.t 2)),
 oD 6 (.mov (.k .nilslice)),
 oD 7 (.mov (.k (.int .i64 0)))])
 (.keep [0, 4, 5]))
 (.seq (.seq (.seq (.ops none [oD 15 (.mov (.t 0)),
 oD 16 (.call 25 [(.t 15)]),
 oD 14 (.mov (.t 16)),
 oD 17 (.extract 0 (.t 14)),
 oD 18 (.extract 1 (.t 14)),
 oD 8 (.mov (.t 17)),
 oD 9 (.mov (.t 18))])
 (.keep [0, 4, 5, 9]))
 (.seq (.seq (.ops none [oD 19 (.mov (.t 9)),
 oD 20 (.eq true (.leaf .int) (.t 19) (.k (.int .i64 0)))])
 (.keep [0, 4, 5, 9, 20]))
 (.cond (.t 20) (.seq (.seq (.ops none [oD 21 (.mov (.t 9)),
 oD 6 (.mov (.k .nilslice)),
 oD 7 (.mov (.t 21))])
 (.keep [6, 7]))
 .ret)
 .skip)))
 (.seq (.seq (.seq (.ops none [oD 22 (.loadN 131 (.t 4)),
 oD 23 (.call 60 [(.t 22)]),
 oD 10 (.mov (.t 23))])
 (.keep [0, 4, 5, 10]))
 (.seq (.seq (.ops none [oD 24 (.mov (.t 10)),
 oD 25 (.eq true (.leaf .int) (.t 24) (.k (.int .i64 0)))])
 (.keep [0, 4, 5, 10, 25]))
 (.cond (.t 25) (.seq (.seq (.ops none [oD 26 (.mov (.t 10)),
 oD 6 (.mov (.k .nilslice)),
 oD 7 (.mov (.t 26))])
 (.keep [6, 7]))
 .ret)
 .skip)))
 (.seq (.seq (.seq (.ops none [oD 27 (.loadN 5 (.t 5)),
 oD 28 (.call 61 [(.t 27)]),
 oD 11 (.mov (.t 28))])
 (.keep [0, 4, 5, 11]))
 (.seq (.seq (.ops none [oD 29 (.mov (.t 11)),
 oD 30 (.eq true (.leaf .int) (.t 29) (.k (.int .i64 0)))])
 (.keep [0, 4, 5, 11, 30]))
 (.cond (.t 30) (.seq (.seq (.ops none [oD 31 (.mov (.t 11)),
 oD 6 (.mov (.k .nilslice)),
 oD 7 (.mov (.t 31))])
 (.keep [6, 7]))
 .ret)
 .skip)))
 (.seq (.seq (.ops none [oD 32 (.loadN 5 (.t 5)),
 oD 33 (.mov (.t 0)),
 oD 34 (.loadN 131 (.t 4)),
 oD 35 (.build [(.int .i64 0), (.int .i64 0), (.int .i64 0), (.int .i64 0), (.str []), .nilslice, (.int .i64 0), (.int .i64 0), (.int .i64 0), (.int .i64 0), (.int .i64 0), (.int .i64 0), (.int .i64 0), (.int .i64 0), (.int .i64 0), (.int .i64 0), (.int .i64 0), (.int .i64 0), (.int .i64 0), (.int .i64 0), (.int .i64 0), (.int .i64 0), (.int .i64 0), (.int .i64 0), (.int .i64 0), (.int .i64 0), (.int .i64 0), (.int .i64 0), (.int .i64 0), (.int .i64 0), (.int .i64 0), (.int .i64 0), (.int .i64 0), (.int .i64 0), (.int .i64 0), (.int .i64 0), (.int .i64 0), (.int .i64 0), (.int .i64 0), (.int .i64 0), (.int .i64 0), (.int .i64 0), (.int .i64 0), (.int .i64 0), (.int .i64 0), (.int .i64 0), (.int .i64 0), (.int .i64 0), (.int .i64 0), (.int .i64 0), (.int .i64 0), (.int .i64 0), (.int .i64 0), (.int .i64 0), (.int .i64 0), (.int .i64 0), (.int .i64 0), (.int .i64 0), (.int .i64 0), (.int .i64 0), (.int .i64 0), (.int .i64 0), (.int .i64 0), (.int .i64 0), (.int .i64 0), (.int .i64 0), (.int .i64 0), (.int .i64 0), (.int .i64 0), (.int .i64 0), (.int .i64 0), (.int .i64 0), (.int .i64 0), (.int .i64 0), (.int .i64 0), (.int .i64 0), (.int .i64 0), (.int .i64 0), (.int .i64 0), (.int .i64 0), (.int .i64 0), (.int .i64 0), (.int .i64 0), (.int .i64 0), (.int .i64 0), (.int .i64 0), (.int .i64 0), (.int .i64 0), (.int .i64 0), (.int .i64 0), (.int .i64 0), (.int .i64 0), (.int .i64 0), (.int .i64 0), (.int .i64 0), (.int .i64 0), (.int .i64 0), (.int .i64 0), (.int .i64 0), (.int .i64 0), (.int .i64 0), (.int .i64 0), (.int .i64 0), (.int .i64 0), (.int .i64 0), (.int .i64 0), (.int .i64 0), (.int .i64 0), (.int .i64 0), (.int .i64 0), (.int .i64 0), (.int .i64 0), (.int .i64 0), (.int .i64 0), (.int .i64 0), (.int .i64 0), (.int .i64 0), (.int .i64 0), (.int .i64 0), (.int .i64 0), (.int .i64 0), (.int .i64 0), (.int .i64 0), (.int .i64 0), (.int .i64 0), (.int .i64 0), (.int .i64 0), (.int .i64 0), (.int .i64 0), (.int .i64 0), (.int .i64 0), (.int .i64 0), (.int .i64 0), (.int .i64 0), (.int .i64 0), (.int .i64 0), .nilslice, .nilslice] [(0, 5, (.t 32)), (5, 1, (.t 33)), (6, 131, (.t 34))]),
 oD 36 (.box (.t 35)),
 oD 12 (.mov (.t 36))])
 (.keep [0, 12]))
 (.seq (.seq (.seq (.ops none [oD 13 (.mov (.k (.int .i64 0)))])
 (.keep [0, 12, 13]))
 (.block 0 (.loop (.seq (.keep [0, 12, 13])
 (.seq (.seq (.seq (.ops none [oD 37 (.mov (.t 13)),
 oD 38 (.mov (.t 0)),
 oD 39 (.len .slice (.t 38)),
 oD 40 (.bin .lss (.t 37) (.t 39))])
 (.keep [0, 12, 13, 40]))
 (.cond (.t 40) .skip
 (.exit 0)))
 (.seq (.block 1 (.seq (.ops none [oD 45 (.mov (.t 12)),
 oD 46 (.mov (.t 13)),
 oD 47 (.call 63 [(.t 45), (.t 46)])])
 (.keep [0, 12, 13])))
 (.seq (.ops none [oD 41 (.mov (.t 12)),
 oD 42 (.mov (.t 13)),
 oD 43 (.call 62 [(.t 41), (.t 42)]),
 oD 44 (.bin .add (.t 43) (.k (.int .i64 1))),
 oD 13 (.mov (.t 44))])
 (.keep [0, 12, 13]))))))))
 (.seq (.seq (.ops none [oD 48 (.mov (.t 12)),
 oD 49 (.nilCheck (.t 48)),
 oD 50 (.fieldAddr 137 (.t 49)),
 oD 51 (.load1 (.t 50)),
 oD 6 (.mov (.t 51)),
 oD 7 (.mov (.k (.int .i64 0)))])
 (.keep [6, 7]))
 .ret)))))))
  results := [.tmp 6, .tmp 7]
theorem ok34 : FnOK Tryz.prog pureL 34 a34 := ⟨Tryz.f34, [(0, [0, 4, 5]), (1, [0, 4, 5, 9]), (2, [0, 4, 5, 9, 20]), (3, [6, 7]), (4, [0, 4, 5, 10]), (5, [0, 4, 5, 10, 25]), (6, [6, 7]), (7, [0, 4, 5, 11]), (8, [0, 4, 5, 11, 30]), (9, [6, 7]), (10, [0, 12]), (11, [0, 12, 13]), (12, [0, 12, 13, 40]), (14, [0, 12, 13]), (13, [0, 12, 13]), (15, [6, 7])], [(0, [0, 12, 13])], Tryz.func34, by kernel_rfl⟩
/-- stylus/pages.Fill -/
def a35 : AFunc where
  body :=
  (.seq (.seq (.ops none [oD 4 (.mov (.k .nilslice))])
 (.keep [0, 1]))
 (.seq (.seq (.ops none [oD 5 (.alloc [.nilslice, .nilslice])])
 (.keep [0, 1, 5]))
 (.seq (.seq (.ops none [oD 11 (.makeFunc 64 [] [(.t 5)]),
 oD 6 (.mov (.t 11))])
 (.keep [0, 1, 5, 6]))
 (.seq (.seq (.ops none [oD 7 (.mov (.k (.int .i64 0)))])
 (.keep [0, 1, 5, 6, 7]))
 (.seq .skip
 (.seq (.block 0 (.loop (.seq (.keep [0, 1, 5, 6, 7])
 (.seq (.seq (.seq (.ops none [oD 12 (.mov (.t 7)),
 oD 13 (.mov (.t 0)),
 oD 14 (.len .slice (.t 13)),
 oD 15 (.bin .lss (.t 12) (.t 14))])
 (.keep [0, 1, 5, 6, 7, 15]))
 (.cond (.t 15) .skip
 (.exit 0)))
 (.block 1 (.seq (.seq (.ops none [oD 16 (.mov (.t 0)),
 oD 17 (.mov (.t 7)),
 oD 18 (.idxSl 6 (.t 16) (.t 17)),
 oD 19 (.loadN 6 (.t 18)),
 oD 8 (.alloc [.nilslice, (.int .i64 0), (.int .i64 0), (.int .i64 0), (.bool false), .nilslice]),
 oN (.store 6 (.t 8) (.t 19))])
 (.keep [0, 1, 5, 6, 7, 8]))
 (.seq (.seq (.ops none [oD 20 (.mov (.t 7)),
 oD 21 (.bin .add (.t 20) (.k (.int .i64 1))),
 oD 7 (.mov (.t 21))])
 (.keep [0, 1, 5, 6, 7, 8]))
 (.seq (.ops (some [0, 1, 5, 6, 7, 8, 9]) [oD 22 (.fieldAddr 0 (.t 5)),
 oD 23 (.load1 (.t 22)),
 oD 25 (.loadN 6 (.t 8)),
 ⟨(some 24), none, .call 65 [(.t 23)], [⟨25, none, .loadN 6 (.t 8)⟩]⟩,
 oD 26 (.buildSlice [.nilslice, (.int .i64 0), (.int .i64 0), (.int .i64 0), (.bool false), .nilslice] 6 1 [(0, 6, (.t 25))]),
 oD 27 (.append 6 (.t 24) (.t 26)),
 oD 9 (.mov (.t 27))])
 (.seq (.block 2 (.seq (.seq (.ops none [oD 29 (.fieldAddr 4 (.t 8)),
 oD 30 (.load1 (.t 29)),
 oD 28 (.mov (.t 30))])
 (.keep [0, 1, 5, 6, 7, 9, 28]))
 (.cond (.t 28) (.seq (.seq (.ops none [oD 31 (.mov (.t 9)),
 oD 32 (.fieldAddr 0 (.t 5)),
 oN (.store 1 (.t 32) (.t 31))])
 (.keep [0, 1, 5, 6, 7, 9]))
 (.seq (.seq (.ops none [oD 33 (.mov (.t 6)),
 oD 34 (.mov (.t 9)),
 oD 35 (.len .slice (.t 34)),
 oD 36 (.callv (.t 33) [(.t 35)])])
 (.keep [0, 1, 5, 6, 7]))
 (.exit 1)))
 (.seq (.seq (.ops none [oD 38 (.mov (.t 9)),
 oD 39 (.len .slice (.t 38)),
 oD 40 (.bin .gtr (.t 39) (.k (.int .i64 1))),
 oD 41 (.mov (.t 40)),
 oG 42 41 true (.mov (.t 9)),
 oG 43 41 true (.call 66 [(.t 42)]),
 oG 44 41 true (.mov (.t 1)),
 oG 45 41 true (.bin .gtr (.t 43) (.t 44)),
 oD 46 (.pick (.t 41) (.t 45) (.k (.bool false))),
 oD 37 (.mov (.t 46))])
 (.keep [0, 1, 5, 6, 7, 9, 37]))
 (.cond (.t 37) (.seq (.seq (.ops none [oD 47 (.call 67 [(.t 5)]),
 oD 10 (.mov (.t 47))])
 (.keep [0, 1, 5, 6, 7, 9, 10]))
 (.seq (.seq (.ops none [oD 48 (.mov (.t 7)),
 oD 49 (.mov (.t 9)),
 oD 50 (.len .slice (.t 49)),
 oD 51 (.mov (.t 10)),
 oD 52 (.bin .sub (.t 50) (.t 51)),
 oD 53 (.bin .sub (.t 48) (.t 52)),
 oD 7 (.mov (.t 53))])
 (.keep [0, 1, 5, 6, 7, 10]))
 (.seq (.seq (.ops none [oD 54 (.mov (.t 6)),
 oD 55 (.mov (.t 10)),
 oD 56 (.callv (.t 54) [(.t 55)])])
 (.keep [0, 1, 5, 6, 7]))
 (.exit 1))))
 .skip)))))
 (.seq (.ops none [oD 57 (.mov (.t 9)),
 oD 58 (.fieldAddr 0 (.t 5)),
 oN (.store 1 (.t 58) (.t 57))])
 (.keep [0, 1, 5, 6, 7])))))))))))
 (.seq (.seq (.ops none [oD 59 (.mov (.t 6)),
 oD 60 (.fieldAddr 0 (.t 5)),
 oD 61 (.load1 (.t 60)),
 oD 62 (.len .slice (.t 61)),
 oD 63 (.callv (.t 59) [(.t 62)])])
 (.keep [5]))
 (.seq (.seq (.ops none [oD 64 (.fieldAddr 1 (.t 5)),
 oD 65 (.load1 (.t 64)),
 oD 4 (.mov (.t 65))])
 (.keep [4]))
 .ret))))))))
  results := [.tmp 4]
theorem ok35 : FnOK Tryz.prog pureL 35 a35 := ⟨Tryz.f35, [(0, [0, 1]), (1, [0, 1, 5]), (2, [0, 1, 5, 6]), (3, [0, 1, 5, 6, 7]), (4, [0, 1, 5, 6, 7, 15]), (5, [0, 1, 5, 6, 7, 8]), (6, [0, 1, 5, 6, 7, 8]), (7, [0, 1, 5, 6, 7, 8, 9]), (8, [0, 1, 5, 6, 7, 9, 28]), (11, [0, 1, 5, 6, 7, 9, 37]), (12, [0, 1, 5, 6, 7, 9, 10]), (13, [0, 1, 5, 6, 7, 10]), (14, [0, 1, 5, 6, 7]), (9, [0, 1, 5, 6, 7, 9]), (10, [0, 1, 5, 6, 7]), (15, [0, 1, 5, 6, 7]), (16, [5]), (17, [4])], [(0, [0, 1, 5, 6, 7])], Tryz.func35, by kernel_rfl⟩
/-- stylus/pages.page -/
def a36 : AFunc where
  body :=
  (.seq (.seq (.ops none [oD 2 (.alloc [.nilslice, .nilslice])])
 (.keep [0, 2]))
 (.seq (.seq (.ops none [oD 3 (.alloc [.nilslice, .nilslice])])
 (.keep [0, 2, 3]))
 (.seq (.seq (.seq (.ops none [oD 6 (.mov (.t 0)),
 oD 7 (.len .slice (.t 6)),
 oD 8 (.mov (.k (.int .i64 0)))])
 (.keep [2, 3, 6, 7, 8]))
 (.block 0 (.loop (.seq (.keep [2, 3, 6, 7, 8])
 (.seq (.seq (.ops none [oD 9 (.bin .lss (.t 8) (.t 7))])
 (.keep [2, 3, 6, 7, 8, 9]))
 (.seq (.cond (.t 9) .skip
 (.exit 0))
 (.seq (.block 1 (.seq (.seq (.ops none [oD 10 (.idxSl 6 (.t 6) (.t 8)),
 oD 11 (.loadN 6 (.t 10)),
 oD 5 (.alloc [.nilslice, (.int .i64 0), (.int .i64 0), (.int .i64 0), (.bool false), .nilslice]),
 oN (.store 6 (.t 5) (.t 11))])
 (.keep [2, 3, 5, 6, 7, 8]))
 (.seq (.seq (.seq (.ops none [oD 12 (.fieldAddr 4 (.t 5)),
 oD 13 (.load1 (.t 12))])
 (.keep [2, 3, 5, 6, 7, 8, 13]))
 (.cond (.t 13) (.exit 1)
 .skip))
 (.seq (.ops (some [2, 3, 5, 6, 7, 8]) [oD 14 (.fieldAddr 0 (.t 3)),
 oD 15 (.load1 (.t 14)),
 oD 16 (.fieldAddr 0 (.t 5)),
 oD 17 (.loadN 3 (.t 16)),
 oD 18 (.buildSlice [.nilslice, (.int .i64 0), (.int .i64 0)] 3 1 [(0, 3, (.t 17))]),
 ⟨(some 19), none, .call 68 [(.t 18), (.k (.int .i64 0))], [⟨15, none, .load1 (.t 14)⟩]⟩,
 oD 20 (.append 3 (.t 15) (.t 19)),
 oD 21 (.fieldAddr 0 (.t 3)),
 oN (.store 1 (.t 21) (.t 20))])
 (.ops (some [2, 3, 6, 7, 8]) [oD 22 (.fieldAddr 1 (.t 3)),
 oD 23 (.load1 (.t 22)),
 oD 24 (.fieldAddr 5 (.t 5)),
 oD 25 (.load1 (.t 24)),
 ⟨(some 26), none, .call 68 [(.t 25), (.k (.int .i64 0))], [⟨23, none, .load1 (.t 22)⟩]⟩,
 oD 27 (.append 3 (.t 23) (.t 26)),
 oD 28 (.fieldAddr 1 (.t 3)),
 oN (.store 1 (.t 28) (.t 27))])))))
 (.seq (.ops none [oD 29 (.bin .add (.t 8) (.k (.int .i64 1))),
 oD 8 (.mov (.t 29))])
 (.keep [2, 3, 6, 7, 8])))))))))
 (.seq (.seq (.ops none [oD 30 (.loadN 2 (.t 3)),
 oN (.store 2 (.t 2) (.t 30))])
 (.keep [2]))
 .ret))))
  results := [.cellN 2 2]
theorem ok36 : FnOK Tryz.prog pureL 36 a36 := ⟨Tryz.f36, [(0, [0, 2]), (1, [0, 2, 3]), (2, [2, 3, 6, 7, 8]), (3, [2, 3, 6, 7, 8, 9]), (4, [2, 3, 5, 6, 7, 8]), (5, [2, 3, 5, 6, 7, 8, 13]), (6, [2, 3, 5, 6, 7, 8]), (7, [2, 3, 6, 7, 8]), (8, [2, 3, 6, 7, 8]), (9, [2])], [(0, [2, 3, 6, 7, 8])], Tryz.func36, by kernel_rfl⟩
/-- stylus/pages.told -/
def a37 : AFunc where
  body :=
  (.seq (.seq (.ops none [oD 4 (.mov (.k .nilslice))])
 (.keep [0, 1]))
 (.seq (.seq (.ops none [oD 13 (.mov (.t 0)),
 oD 14 (.mov (.t 1)),
 oD 15 (.call 69 [(.t 13), (.t 14)]),
 oD 5 (.mov (.t 15))])
 (.keep [0, 5]))
 (.seq (.seq (.ops none [oD 6 (.mov (.k .nilslice))])
 (.keep [0, 5, 6]))
 (.seq (.seq (.seq (.ops none [oD 16 (.mov (.t 0)),
 oD 17 (.len .slice (.t 16)),
 oD 18 (.mov (.k (.int .i64 0)))])
 (.keep [5, 6, 16, 17, 18]))
 (.block 0 (.loop (.seq (.keep [5, 6, 16, 17, 18])
 (.seq (.seq (.ops none [oD 19 (.bin .lss (.t 18) (.t 17))])
 (.keep [5, 6, 16, 17, 18, 19]))
 (.seq (.cond (.t 19) .skip
 (.exit 0))
 (.seq (.block 1 (.seq (.seq (.ops none [oD 20 (.mov (.t 18)),
 oD 21 (.idxSl 3 (.t 16) (.t 18)),
 oD 22 (.loadN 3 (.t 21)),
 oD 8 (.alloc [(.int .i64 0), (.int .u8 0), (.int .i64 0)]),
 oD 7 (.mov (.t 20)),
 oN (.store 3 (.t 8) (.t 22))])
 (.keep [5, 6, 7, 8, 16, 17, 18]))
 (.seq (.seq (.seq (.ops none [oD 23 (.fieldAddr 0 (.t 8)),
 oD 24 (.load1 (.t 23)),
 oD 25 (.eq false (.leaf .int) (.t 24) (.k (.int .i64 2)))])
 (.keep [5, 6, 7, 8, 16, 17, 18, 25]))
 (.cond (.t 25) (.seq (.ops none [oD 26 (.mov (.t 6)),
 oD 27 (.mov (.t 7)),
 oD 28 (.buildSlice [(.int .i64 0)] 1 1 [(0, 1, (.t 27))]),
 oD 29 (.append 1 (.t 26) (.t 28)),
 oD 6 (.mov (.t 29))])
 (.keep [5, 6, 7, 8, 16, 17, 18]))
 .skip))
 (.seq (.seq (.seq (.ops none [oD 30 (.fieldAddr 0 (.t 8)),
 oD 31 (.load1 (.t 30)),
 oD 32 (.eq false (.leaf .int) (.t 31) (.k (.int .i64 1))),
 oD 33 (.mov (.t 32)),
 oG 34 33 true (.mov (.t 5)),
 oG 35 33 true (.mov (.t 7)),
 oG 36 33 true (.idxSl 1 (.t 34) (.t 35)),
 oG 37 33 true (.load1 (.t 36)),
 oG 38 33 true (.bin .gtr (.t 37) (.k (.int .i64 0))),
 oD 39 (.pick (.t 33) (.t 38) (.k (.bool false)))])
 (.keep [5, 6, 7, 8, 16, 17, 18, 39]))
 (.cond (.t 39) (.seq (.seq (.ops none [oD 40 (.mov (.t 6)),
 oD 41 (.len .slice (.t 40)),
 oD 42 (.mov (.k (.int .i64 0)))])
 (.keep [5, 6, 7, 8, 16, 17, 18, 40, 41, 42]))
 (.block 2 (.loop (.seq (.keep [5, 6, 7, 8, 16, 17, 18, 40, 41, 42])
 (.seq (.seq (.ops none [oD 43 (.bin .lss (.t 42) (.t 41))])
 (.keep [5, 6, 7, 8, 16, 17, 18, 40, 41, 42, 43]))
 (.seq (.cond (.t 43) .skip
 (.exit 2))
 (.seq (.block 3 (.seq (.seq (.ops none [oD 44 (.idxSl 1 (.t 40) (.t 42)),
 oD 45 (.load1 (.t 44)),
 oD 10 (.mov (.t 45))])
 (.keep [5, 6, 7, 8, 10, 16, 17, 18, 40, 41, 42]))
 (.seq (.seq (.ops none [oD 46 (.mov (.t 5)),
 oD 47 (.mov (.t 10)),
 oD 48 (.idxSl 1 (.t 46) (.t 47)),
 oD 49 (.load1 (.t 48)),
 oD 50 (.eq false (.leaf .int) (.t 49) (.k (.int .i64 0)))])
 (.keep [5, 6, 7, 8, 10, 16, 17, 18, 40, 41, 42, 50]))
 (.cond (.t 50) (.seq (.ops none [oD 51 (.mov (.t 5)),
 oD 52 (.mov (.t 10)),
 oD 53 (.mov (.t 5)),
 oD 54 (.mov (.t 7)),
 oD 55 (.idxSl 1 (.t 53) (.t 54)),
 oD 56 (.load1 (.t 55)),
 oD 57 (.idxSl 1 (.t 51) (.t 52)),
 oN (.store 1 (.t 57) (.t 56))])
 (.keep [5, 6, 7, 8, 16, 17, 18, 40, 41, 42]))
 .skip))))
 (.seq (.ops none [oD 58 (.bin .add (.t 42) (.k (.int .i64 1))),
 oD 42 (.mov (.t 58))])
 (.keep [5, 6, 7, 8, 16, 17, 18, 40, 41, 42])))))))))
 .skip))
 (.seq (.seq (.ops none [oD 59 (.fieldAddr 0 (.t 8)),
 oD 60 (.load1 (.t 59)),
 oD 61 (.eq false (.leaf .int) (.t 60) (.k (.int .i64 3)))])
 (.keep [5, 6, 16, 17, 18, 61]))
 (.cond (.t 61) (.seq (.ops none [oD 62 (.mov (.t 6)),
 oD 63 (.mov (.t 6)),
 oD 64 (.len .slice (.t 63)),
 oD 65 (.bin .sub (.t 64) (.k (.int .i64 1))),
 oD 66 (.sliceSl 1 (.t 62) none (some (.t 65))),
 oD 6 (.mov (.t 66))])
 (.keep [5, 6, 16, 17, 18]))
 .skip))))))
 (.seq (.ops none [oD 67 (.bin .add (.t 18) (.k (.int .i64 1))),
 oD 18 (.mov (.t 67))])
 (.keep [5, 6, 16, 17, 18])))))))))
 (.seq (.seq (.ops none [oD 11 (.mov (.k (.int .i64 1)))])
 (.keep [5, 11]))
 (.seq (.seq (.seq (.ops none [oD 68 (.mov (.t 5)),
 oD 69 (.len .slice (.t 68)),
 oD 70 (.mov (.k (.int .i64 0)))])
 (.keep [5, 11, 69, 70]))
 (.block 4 (.loop (.seq (.keep [5, 11, 69, 70])
 (.seq (.seq (.ops none [oD 71 (.bin .lss (.t 70) (.t 69))])
 (.keep [5, 11, 69, 70, 71]))
 (.seq (.cond (.t 71) .skip
 (.exit 4))
 (.seq (.block 5 (.seq (.seq (.ops none [oD 72 (.mov (.t 70)),
 oD 12 (.mov (.t 72))])
 (.keep [5, 11, 12, 69, 70]))
 (.seq (.seq (.seq (.ops none [oD 73 (.mov (.t 5)),
 oD 74 (.mov (.t 12)),
 oD 75 (.idxSl 1 (.t 73) (.t 74)),
 oD 76 (.load1 (.t 75)),
 oD 77 (.eq false (.leaf .int) (.t 76) (.k (.int .i64 0)))])
 (.keep [5, 11, 12, 69, 70, 77]))
 (.cond (.t 77) (.seq (.ops none [oD 78 (.mov (.t 5)),
 oD 79 (.mov (.t 12)),
 oD 80 (.mov (.t 11)),
 oD 81 (.idxSl 1 (.t 78) (.t 79)),
 oN (.store 1 (.t 81) (.t 80))])
 (.keep [5, 12, 69, 70]))
 .skip))
 (.seq (.ops none [oD 82 (.mov (.t 5)),
 oD 83 (.mov (.t 12)),
 oD 84 (.idxSl 1 (.t 82) (.t 83)),
 oD 85 (.load1 (.t 84)),
 oD 11 (.mov (.t 85))])
 (.keep [5, 11, 69, 70])))))
 (.seq (.ops none [oD 86 (.bin .add (.t 70) (.k (.int .i64 1))),
 oD 70 (.mov (.t 86))])
 (.keep [5, 11, 69, 70])))))))))
 (.seq (.seq (.ops none [oD 87 (.mov (.t 5)),
 oD 4 (.mov (.t 87))])
 (.keep [4]))
 .ret)))))))
  results := [.tmp 4]
theorem ok37 : FnOK Tryz.prog pureL 37 a37 := ⟨Tryz.f37, [(0, [0, 1]), (1, [0, 5]), (2, [0, 5, 6]), (3, [5, 6, 16, 17, 18]), (4, [5, 6, 16, 17, 18, 19]), (5, [5, 6, 7, 8, 16, 17, 18]), (6, [5, 6, 7, 8, 16, 17, 18, 25]), (7, [5, 6, 7, 8, 16, 17, 18]), (8, [5, 6, 7, 8, 16, 17, 18, 39]), (9, [5, 6, 7, 8, 16, 17, 18, 40, 41, 42]), (10, [5, 6, 7, 8, 16, 17, 18, 40, 41, 42, 43]), (11, [5, 6, 7, 8, 10, 16, 17, 18, 40, 41, 42]), (12, [5, 6, 7, 8, 10, 16, 17, 18, 40, 41, 42, 50]), (13, [5, 6, 7, 8, 16, 17, 18, 40, 41, 42]), (14, [5, 6, 7, 8, 16, 17, 18, 40, 41, 42]), (15, [5, 6, 16, 17, 18, 61]), (16, [5, 6, 16, 17, 18]), (17, [5, 6, 16, 17, 18]), (18, [5, 11]), (19, [5, 11, 69, 70]), (20, [5, 11, 69, 70, 71]), (21, [5, 11, 12, 69, 70]), (22, [5, 11, 12, 69, 70, 77]), (23, [5, 12, 69, 70]), (24, [5, 11, 69, 70]), (25, [5, 11, 69, 70]), (26, [4])], [(0, [5, 6, 16, 17, 18]), (2, [5, 6, 7, 8, 16, 17, 18, 40, 41, 42]), (4, [5, 11, 69, 70])], Tryz.func37, by kernel_rfl⟩
/-- stylus/styluslaw23.even -/
def a38 : AFunc where
  body :=
  (.seq (.seq (.ops none [oD 0 (.alloc [(.int .i64 0), (.int .i64 0), (.int .i64 0), (.int .i64 0), (.int .i64 0), (.int .i64 0), (.int .i64 0), (.int .i64 0), (.int .i64 0), (.int .i64 0), (.int .i64 0), (.int .i64 0), (.int .i64 0), (.int .i64 0), (.int .i64 0), (.int .i64 0), (.int .i64 0), (.int .i64 0), (.int .i64 0), (.int .i64 0), (.int .i64 0), (.int .i64 0), (.int .i64 0), (.int .i64 0), (.int .i64 0), (.int .i64 0), (.int .i64 0), (.int .i64 0), (.int .i64 0), (.int .i64 0), (.int .i64 0), (.int .i64 0), (.int .i64 0), (.int .i64 0), (.int .i64 0), (.int .i64 0), (.int .i64 0), (.int .i64 0), (.int .i64 0), (.int .i64 0), (.int .i64 0), (.int .i64 0), (.int .i64 0), (.int .i64 0), (.int .i64 0), (.int .i64 0), (.int .i64 0), (.int .i64 0), (.int .i64 0), (.int .i64 0), (.int .i64 0), (.int .i64 0), (.int .i64 0), (.int .i64 0), (.int .i64 0), (.int .i64 0), (.int .i64 0), (.int .i64 0), (.int .i64 0), (.int .i64 0), (.int .i64 0), (.int .i64 0), (.int .i64 0), (.int .i64 0), (.int .i64 0), (.int .i64 0), (.int .i64 0), (.int .i64 0), (.int .i64 0), (.int .i64 0), (.int .i64 0), (.int .i64 0), (.int .i64 0), (.int .i64 0), (.int .i64 0), (.int .i64 0), (.int .i64 0), (.int .i64 0), (.int .i64 0), (.int .i64 0), (.int .i64 0), (.int .i64 0), (.int .i64 0), (.int .i64 0), (.int .i64 0), (.int .i64 0), (.int .i64 0), (.int .i64 0), (.int .i64 0), (.int .i64 0), (.int .i64 0), (.int .i64 0), (.int .i64 0), (.int .i64 0), (.int .i64 0), (.int .i64 0), (.int .i64 0), (.int .i64 0), (.int .i64 0), (.int .i64 0), (.int .i64 0), (.int .i64 0), (.int .i64 0), (.int .i64 0), (.int .i64 0), (.int .i64 0), (.int .i64 0), (.int .i64 0), (.int .i64 0), (.int .i64 0), (.int .i64 0), (.int .i64 0), (.int .i64 0), (.int .i64 0), (.int .i64 0), (.int .i64 0), (.int .i64 0), (.int .i64 0), (.int .i64 0), (.int .i64 0), (.int .i64 0), (.int .i64 0), (.int .i64 0), (.int .i64 0), (.int .i64 0), (.int .i64 0), (.int .i64 0), (.int .i64 0), (.int .i64 0), (.int .i64 0), .nilslice])])
 (.keep [0]))
 (.seq (.seq (.ops none [oD 3 (.build [(.int .i64 0), (.int .i64 0), (.int .i64 0), (.int .i64 0), (.int .i64 0), (.int .i64 0), (.int .i64 0), (.int .i64 0), (.int .i64 0), (.int .i64 0), (.int .i64 0), (.int .i64 0), (.int .i64 0), (.int .i64 0), (.int .i64 0), (.int .i64 0), (.int .i64 0), (.int .i64 0), (.int .i64 0), (.int .i64 0), (.int .i64 0), (.int .i64 0), (.int .i64 0), (.int .i64 0), (.int .i64 0), (.int .i64 0), (.int .i64 0), (.int .i64 0), (.int .i64 0), (.int .i64 0), (.int .i64 0), (.int .i64 0), (.int .i64 0), (.int .i64 0), (.int .i64 0), (.int .i64 0), (.int .i64 0), (.int .i64 0), (.int .i64 0), (.int .i64 0), (.int .i64 0), (.int .i64 0), (.int .i64 0), (.int .i64 0), (.int .i64 0), (.int .i64 0), (.int .i64 0), (.int .i64 0), (.int .i64 0), (.int .i64 0), (.int .i64 0), (.int .i64 0), (.int .i64 0), (.int .i64 0), (.int .i64 0), (.int .i64 0), (.int .i64 0), (.int .i64 0), (.int .i64 0), (.int .i64 0), (.int .i64 0), (.int .i64 0), (.int .i64 0), (.int .i64 0), (.int .i64 0), (.int .i64 0), (.int .i64 0), (.int .i64 0), (.int .i64 0), (.int .i64 0), (.int .i64 0), (.int .i64 0), (.int .i64 0), (.int .i64 0), (.int .i64 0), (.int .i64 0), (.int .i64 0), (.int .i64 0), (.int .i64 0), (.int .i64 0), (.int .i64 0), (.int .i64 0), (.int .i64 0), (.int .i64 0), (.int .i64 0), (.int .i64 0), (.int .i64 0), (.int .i64 0), (.int .i64 0), (.int .i64 0), (.int .i64 0), (.int .i64 0), (.int .i64 0), (.int .i64 0), (.int .i64 0), (.int .i64 0), (.int .i64 0), (.int .i64 0), (.int .i64 0), (.int .i64 0), (.int .i64 0), (.int .i64 0), (.int .i64 0), (.int .i64 0), (.int .i64 0), (.int .i64 0), (.int .i64 0), (.int .i64 0), (.int .i64 0), (.int .i64 0), (.int .i64 0), (.int .i64 0), (.int .i64 0), (.int .i64 0), (.int .i64 0), (.int .i64 0), (.int .i64 0), (.int .i64 0), (.int .i64 0), (.int .i64 0), (.int .i64 0), (.int .i64 0), (.int .i64 0), (.int .i64 0), (.int .i64 0), (.int .i64 0), (.int .i64 0), (.int .i64 0), (.int .i64 0), (.int .i64 0), .nilslice] [(128, 1, (.k (.int .i64 100))), (129, 1, (.k (.int .i64 80)))]),
 oD 1 (.alloc [(.int .i64 0), (.int .i64 0), (.int .i64 0), (.int .i64 0), (.int .i64 0), (.int .i64 0), (.int .i64 0), (.int .i64 0), (.int .i64 0), (.int .i64 0), (.int .i64 0), (.int .i64 0), (.int .i64 0), (.int .i64 0), (.int .i64 0), (.int .i64 0), (.int .i64 0), (.int .i64 0), (.int .i64 0), (.int .i64 0), (.int .i64 0), (.int .i64 0), (.int .i64 0), (.int .i64 0), (.int .i64 0), (.int .i64 0), (.int .i64 0), (.int .i64 0), (.int .i64 0), (.int .i64 0), (.int .i64 0), (.int .i64 0), (.int .i64 0), (.int .i64 0), (.int .i64 0), (.int .i64 0), (.int .i64 0), (.int .i64 0), (.int .i64 0), (.int .i64 0), (.int .i64 0), (.int .i64 0), (.int .i64 0), (.int .i64 0), (.int .i64 0), (.int .i64 0), (.int .i64 0), (.int .i64 0), (.int .i64 0), (.int .i64 0), (.int .i64 0), (.int .i64 0), (.int .i64 0), (.int .i64 0), (.int .i64 0), (.int .i64 0), (.int .i64 0), (.int .i64 0), (.int .i64 0), (.int .i64 0), (.int .i64 0), (.int .i64 0), (.int .i64 0), (.int .i64 0), (.int .i64 0), (.int .i64 0), (.int .i64 0), (.int .i64 0), (.int .i64 0), (.int .i64 0), (.int .i64 0), (.int .i64 0), (.int .i64 0), (.int .i64 0), (.int .i64 0), (.int .i64 0), (.int .i64 0), (.int .i64 0), (.int .i64 0), (.int .i64 0), (.int .i64 0), (.int .i64 0), (.int .i64 0), (.int .i64 0), (.int .i64 0), (.int .i64 0), (.int .i64 0), (.int .i64 0), (.int .i64 0), (.int .i64 0), (.int .i64 0), (.int .i64 0), (.int .i64 0), (.int .i64 0), (.int .i64 0), (.int .i64 0), (.int .i64 0), (.int .i64 0), (.int .i64 0), (.int .i64 0), (.int .i64 0), (.int .i64 0), (.int .i64 0), (.int .i64 0), (.int .i64 0), (.int .i64 0), (.int .i64 0), (.int .i64 0), (.int .i64 0), (.int .i64 0), (.int .i64 0), (.int .i64 0), (.int .i64 0), (.int .i64 0), (.int .i64 0), (.int .i64 0), (.int .i64 0), (.int .i64 0), (.int .i64 0), (.int .i64 0), (.int .i64 0), (.int .i64 0), (.int .i64 0), (.int .i64 0), (.int .i64 0), (.int .i64 0), (.int .i64 0), (.int .i64 0), (.int .i64 0), (.int .i64 0), .nilslice]),
 oN (.store 131 (.t 1) (.t 3))])
 (.keep [0, 1]))
 (.seq (.seq (.seq (.ops none [oD 2 (.mov (.k (.int .i64 0)))])
 (.keep [0, 1, 2]))
 (.block 0 (.loop (.seq (.keep [0, 1, 2])
 (.seq (.seq (.seq (.ops none [oD 4 (.mov (.t 2)),
 oD 5 (.bin .lss (.t 4) (.k (.int .i64 128)))])
 (.keep [0, 1, 2, 5]))
 (.cond (.t 5) .skip
 (.exit 0)))
 (.seq (.block 1 (.seq (.seq (.ops none [oD 8 (.mov (.t 2)),
 oD 9 (.convInt .u8 (.t 8)),
 oD 10 (.call 70 [(.t 9)])])
 (.keep [0, 1, 2, 10]))
 (.cond (.t 10) (.seq (.ops none [oD 11 (.mov (.t 2)),
 oD 12 (.fieldAddr 0 (.t 1)),
 oD 13 (.idxArr 128 1 (.t 12) (.t 11)),
 oN (.store 1 (.t 13) (.k (.int .i64 500)))])
 (.keep [0, 1, 2]))
 .skip)))
 (.seq (.ops none [oD 6 (.mov (.t 2)),
 oD 7 (.bin .add (.t 6) (.k (.int .i64 1))),
 oD 2 (.mov (.t 7))])
 (.keep [0, 1, 2]))))))))
 (.seq (.seq (.ops none [oD 14 (.loadN 131 (.t 1)),
 oN (.store 131 (.t 0) (.t 14))])
 (.keep [0]))
 .ret))))
  results := [.cellN 0 131]
theorem ok38 : FnOK Tryz.prog pureL 38 a38 := ⟨Tryz.f38, [(0, [0]), (1, [0, 1]), (2, [0, 1, 2]), (3, [0, 1, 2, 5]), (5, [0, 1, 2, 10]), (6, [0, 1, 2]), (4, [0, 1, 2]), (7, [0])], [(0, [0, 1, 2])], Tryz.func38, by kernel_rfl⟩
/-- stylus/styluslaw23.least -/
def a39 : AFunc where
  body :=
  (.seq (.seq (.ops none [oD 0 (.alloc [(.int .i64 0), (.int .i64 0), (.int .i64 0), (.int .i64 0), (.str [])])])
 (.keep [0]))
 (.seq (.seq (.ops none [oD 1 (.build [(.int .i64 0), (.int .i64 0), (.int .i64 0), (.int .i64 0), (.str [])] [(0, 1, (.k (.int .i64 40000))), (1, 1, (.k (.int .i64 12))), (2, 1, (.k (.int .i64 20))), (3, 1, (.k (.int .i64 5))), (4, 1, (.k (.str [97])))]),
 oN (.store 5 (.t 0) (.t 1))])
 (.keep [0]))
 .ret))
  results := [.cellN 0 5]
theorem ok39 : FnOK Tryz.prog pureL 39 a39 := ⟨Tryz.f39, [(0, [0]), (1, [0])], [], Tryz.func39, by kernel_rfl⟩
/-- stylus/stylusref04.Parse -/
def a40 : AFunc where
  body :=
  (.seq (.seq (.ops none [oD 2 (.mov (.k .nilslice)),
 oD 3 (.mov (.k (.int .i64 0))),
 oD 4 (.mov (.k (.int .i64 0)))])
 (.keep [0]))
 (.seq (.seq (.ops none [oD 14 (.mov (.t 0)),
 oD 15 (.call 71 [(.t 14)]),
 oD 13 (.mov (.t 15)),
 oD 16 (.extract 0 (.t 13)),
 oD 17 (.extract 1 (.t 13)),
 oD 18 (.extract 2 (.t 13)),
 oD 5 (.mov (.t 16)),
 oD 6 (.mov (.t 17)),
 oD 7 (.mov (.t 18))])
 (.keep [0, 5, 6, 7]))
 (.seq (.seq (.seq (.ops none [oD 19 (.mov (.t 7)),
 oD 20 (.eq true (.leaf .int) (.t 19) (.k (.int .i64 0)))])
 (.keep [0, 5, 6, 7, 20]))
 (.cond (.t 20) (.seq (.seq (.ops none [oD 21 (.mov (.t 6)),
 oD 22 (.mov (.t 7)),
 oD 2 (.mov (.k .nilslice)),
 oD 3 (.mov (.t 21)),
 oD 4 (.mov (.t 22))])
 (.keep [2, 3, 4]))
 .ret)
 .skip))
 (.seq (.seq (.seq (.ops none [oD 8 (.mov (.k (.int .i64 0)))])
 (.keep [0, 5, 8]))
 (.block 0 (.loop (.seq (.keep [0, 5, 8])
 (.seq (.seq (.seq (.ops none [oD 23 (.mov (.t 8)),
 oD 24 (.mov (.t 5)),
 oD 25 (.len .slice (.t 24)),
 oD 26 (.bin .lss (.t 23) (.t 25))])
 (.keep [0, 5, 8, 26]))
 (.cond (.t 26) .skip
 (.exit 0)))
 (.seq (.block 1 (.seq (.seq (.ops none [oD 30 (.mov (.t 5)),
 oD 31 (.mov (.t 8)),
 oD 32 (.sliceSl 4 (.t 30) none (some (.t 31))),
 oD 33 (.call 72 [(.t 32)]),
 oD 29 (.mov (.t 33)),
 oD 34 (.extract 0 (.t 29)),
 oD 35 (.extract 1 (.t 29)),
 oD 9 (.mov (.t 34)),
 oD 10 (.mov (.t 35))])
 (.keep [0, 5, 8, 9, 10]))
 (.seq (.seq (.ops none [oD 37 (.mov (.t 9)),
 oD 38 (.mov (.t 10)),
 oD 39 (.mov (.t 5)),
 oD 40 (.mov (.t 8)),
 oD 41 (.idxSl 4 (.t 39) (.t 40)),
 oD 42 (.loadN 4 (.t 41)),
 oD 43 (.call 73 [(.t 37), (.t 38), (.t 42)]),
 oD 36 (.mov (.t 43)),
 oD 44 (.extract 0 (.t 36)),
 oD 45 (.extract 1 (.t 36)),
 oD 6 (.mov (.t 44)),
 oD 7 (.mov (.t 45))])
 (.keep [0, 5, 6, 7, 8]))
 (.seq (.seq (.ops none [oD 46 (.mov (.t 7)),
 oD 47 (.eq true (.leaf .int) (.t 46) (.k (.int .i64 0)))])
 (.keep [0, 5, 6, 7, 8, 47]))
 (.cond (.t 47) (.seq (.seq (.ops none [oD 48 (.mov (.t 6)),
 oD 49 (.mov (.t 7)),
 oD 2 (.mov (.k .nilslice)),
 oD 3 (.mov (.t 48)),
 oD 4 (.mov (.t 49))])
 (.keep [2, 3, 4]))
 .ret)
 .skip)))))
 (.seq (.ops none [oD 27 (.mov (.t 8)),
 oD 28 (.bin .add (.t 27) (.k (.int .i64 1))),
 oD 8 (.mov (.t 28))])
 (.keep [0, 5, 8]))))))))
 (.seq (.seq (.ops none [oD 51 (.mov (.t 5)),
 oD 52 (.call 72 [(.t 51)]),
 oD 50 (.mov (.t 52)),
 oD 53 (.extract 0 (.t 50)),
 oD 54 (.extract 1 (.t 50)),
 oD 11 (.mov (.t 53)),
 oD 12 (.mov (.t 54))])
 (.keep [0, 11, 12]))
 (.seq (.seq (.seq (.ops none [oD 55 (.mov (.t 12)),
 oD 56 (.len .slice (.t 55)),
 oD 57 (.bin .gtr (.t 56) (.k (.int .i64 1)))])
 (.keep [0, 11, 57]))
 (.cond (.t 57) (.seq (.seq (.ops none [oD 58 (.mov (.t 0)),
 oD 59 (.len .str (.t 58)),
 oD 2 (.mov (.k .nilslice)),
 oD 3 (.mov (.t 59)),
 oD 4 (.mov (.k (.int .i64 2)))])
 (.keep [2, 3, 4]))
 .ret)
 .skip))
 (.seq (.seq (.ops none [oD 60 (.mov (.t 11)),
 oD 2 (.mov (.t 60)),
 oD 3 (.mov (.k (.int .i64 0))),
 oD 4 (.mov (.k (.int .i64 0)))])
 (.keep [2, 3, 4]))
 .ret)))))))
  results := [.tmp 2, .tmp 3, .tmp 4]
theorem ok40 : FnOK Tryz.prog pureL 40 a40 := ⟨Tryz.f40, [(0, [0]), (1, [0, 5, 6, 7]), (2, [0, 5, 6, 7, 20]), (3, [2, 3, 4]), (4, [0, 5, 8]), (5, [0, 5, 8, 26]), (7, [0, 5, 8, 9, 10]), (8, [0, 5, 6, 7, 8]), (9, [0, 5, 6, 7, 8, 47]), (10, [2, 3, 4]), (6, [0, 5, 8]), (11, [0, 11, 12]), (12, [0, 11, 57]), (13, [2, 3, 4]), (14, [2, 3, 4])], [(0, [0, 5, 8])], Tryz.func40, by kernel_rfl⟩
/-- stylus/stylusref05.Of -/
def a41 : AFunc where
  body :=
  (.seq (.seq (.ops none [oD 2 (.mov (.k .nilslice)),
 oD 3 (.mov (.k (.int .i64 0)))])
 (.keep [0]))
 (.seq (.seq (.seq (.ops none [oD 8 (.mov (.t 0)),
 oD 9 (.call 55 [(.t 8)]),
 oD 4 (.mov (.t 9))])
 (.keep [0, 4]))
 (.seq (.seq (.ops none [oD 10 (.mov (.t 4)),
 oD 11 (.eq true (.leaf .int) (.t 10) (.k (.int .i64 0)))])
 (.keep [0, 4, 11]))
 (.cond (.t 11) (.seq (.seq (.ops none [oD 12 (.mov (.t 4)),
 oD 2 (.mov (.k .nilslice)),
 oD 3 (.mov (.t 12))])
 (.keep [2, 3]))
 .ret)
 .skip)))
 (.seq (.seq (.ops none [oD 13 (.mov (.t 0)),
 oD 14 (.call 74 [(.t 13)]),
 oD 5 (.mov (.t 14))])
 (.keep [5]))
 (.seq (.seq (.seq (.ops none [oD 6 (.mov (.k (.int .i64 0)))])
 (.keep [5, 6]))
 (.block 0 (.loop (.seq (.keep [5, 6])
 (.seq (.seq (.seq (.ops none [oD 15 (.mov (.t 6)),
 oD 16 (.mov (.t 5)),
 oD 17 (.len .slice (.t 16)),
 oD 18 (.bin .lss (.t 15) (.t 17))])
 (.keep [5, 6, 18]))
 (.cond (.t 18) .skip
 (.exit 0)))
 (.seq (.block 1 (.seq (.seq (.ops none [oD 21 (.mov (.t 5)),
 oD 22 (.mov (.t 6)),
 oD 23 (.idxSl 4 (.t 21) (.t 22)),
 oD 24 (.fieldAddr 0 (.t 23)),
 oD 25 (.load1 (.t 24)),
 oD 26 (.eq false (.leaf .int) (.t 25) (.k (.int .u8 46))),
 oD 27 (.mov (.t 26)),
 oG 28 27 true (.mov (.t 5)),
 oG 29 27 true (.mov (.t 6)),
 oG 30 27 true (.idxSl 4 (.t 28) (.t 29)),
 oG 31 27 true (.fieldAddr 1 (.t 30)),
 oG 32 27 true (.load1 (.t 31)),
 oG 33 27 true (.eq false (.leaf .str) (.t 32) (.k (.str []))),
 oD 34 (.pick (.t 27) (.t 33) (.k (.bool false)))])
 (.keep [5, 6, 34]))
 (.cond (.t 34) (.seq (.seq (.ops none [oD 35 (.mov (.t 5)),
 oD 36 (.mov (.t 6)),
 oD 37 (.call 75 [(.t 35), (.t 36)]),
 oD 5 (.mov (.t 37))])
 (.keep [5, 6]))
 (.seq (.ops none [oD 38 (.mov (.t 6)),
 oD 39 (.bin .sub (.t 38) (.k (.int .i64 1))),
 oD 6 (.mov (.t 39))])
 (.keep [5, 6])))
 .skip)))
 (.seq (.ops none [oD 19 (.mov (.t 6)),
 oD 20 (.bin .add (.t 19) (.k (.int .i64 1))),
 oD 6 (.mov (.t 20))])
 (.keep [5, 6]))))))))
 (.seq (.seq (.seq (.ops none [oD 7 (.mov (.k (.int .i64 1)))])
 (.keep [5, 7]))
 (.block 2 (.loop (.seq (.keep [5, 7])
 (.seq (.seq (.seq (.ops none [oD 40 (.mov (.t 7)),
 oD 41 (.mov (.t 5)),
 oD 42 (.len .slice (.t 41)),
 oD 43 (.bin .lss (.t 40) (.t 42))])
 (.keep [5, 7, 43]))
 (.cond (.t 43) .skip
 (.exit 2)))
 (.seq (.block 3 (.seq (.seq (.ops none [oD 46 (.mov (.t 5)),
 oD 47 (.mov (.t 7)),
 oD 48 (.idxSl 4 (.t 46) (.t 47)),
 oD 49 (.fieldAddr 0 (.t 48)),
 oD 50 (.load1 (.t 49)),
 oD 51 (.eq false (.leaf .int) (.t 50) (.k (.int .u8 46))),
 oD 52 (.mov (.t 51)),
 oG 53 52 true (.mov (.t 5)),
 oG 54 52 true (.mov (.t 7)),
 oG 55 52 true (.bin .sub (.t 54) (.k (.int .i64 1))),
 oG 56 52 true (.idxSl 4 (.t 53) (.t 55)),
 oG 57 52 true (.fieldAddr 0 (.t 56)),
 oG 58 52 true (.load1 (.t 57)),
 oG 59 52 true (.eq false (.leaf .int) (.t 58) (.k (.int .u8 46))),
 oD 60 (.pick (.t 52) (.t 59) (.k (.bool false))),
 oD 61 (.mov (.t 60)),
 oG 62 61 true (.mov (.t 5)),
 oG 63 61 true (.mov (.t 7)),
 oG 64 61 true (.call 76 [(.t 62), (.t 63)]),
 oG 65 61 true (.mov (.t 5)),
 oG 66 61 true (.mov (.t 7)),
 oG 67 61 true (.bin .sub (.t 66) (.k (.int .i64 1))),
 oG 68 61 true (.call 76 [(.t 65), (.t 67)]),
 oG 69 61 true (.eq false (.leaf .int) (.t 64) (.t 68)),
 oD 70 (.pick (.t 61) (.t 69) (.k (.bool false)))])
 (.keep [5, 7, 70]))
 (.cond (.t 70) (.seq (.ops (some [5, 7]) [oD 71 (.mov (.t 5)),
 oD 72 (.mov (.t 7)),
 oD 73 (.bin .sub (.t 72) (.k (.int .i64 1))),
 oD 74 (.mov (.t 5)),
 oD 75 (.mov (.t 7)),
 oD 76 (.bin .sub (.t 75) (.k (.int .i64 1))),
 oD 77 (.idxSl 4 (.t 74) (.t 76)),
 oD 78 (.fieldAddr 1 (.t 77)),
 oD 79 (.load1 (.t 78)),
 oD 80 (.mov (.t 5)),
 oD 81 (.mov (.t 7)),
 oD 82 (.idxSl 4 (.t 80) (.t 81)),
 oD 83 (.fieldAddr 1 (.t 82)),
 oD 84 (.load1 (.t 83)),
 oD 85 (.bin .add (.t 79) (.t 84)),
 oD 86 (.idxSl 4 (.t 71) (.t 73)),
 oD 87 (.fieldAddr 1 (.t 86)),
 oN (.store 1 (.t 87) (.t 85))])
 (.seq (.seq (.ops none [oD 88 (.mov (.t 5)),
 oD 89 (.mov (.t 7)),
 oD 90 (.call 75 [(.t 88), (.t 89)]),
 oD 5 (.mov (.t 90))])
 (.keep [5, 7]))
 (.seq (.ops none [oD 91 (.mov (.t 7)),
 oD 92 (.bin .sub (.t 91) (.k (.int .i64 1))),
 oD 7 (.mov (.t 92))])
 (.keep [5, 7]))))
 .skip)))
 (.seq (.ops none [oD 44 (.mov (.t 7)),
 oD 45 (.bin .add (.t 44) (.k (.int .i64 1))),
 oD 7 (.mov (.t 45))])
 (.keep [5, 7]))))))))
 (.seq (.seq (.ops none [oD 93 (.mov (.t 5)),
 oD 2 (.mov (.t 93)),
 oD 3 (.mov (.k (.int .i64 0)))])
 (.keep [2, 3]))
 .ret))))))
  results := [.tmp 2, .tmp 3]
theorem ok41 : FnOK Tryz.prog pureL 41 a41 := ⟨Tryz.f41, [(0, [0]), (1, [0, 4]), (2, [0, 4, 11]), (3, [2, 3]), (4, [5]), (5, [5, 6]), (6, [5, 6, 18]), (8, [5, 6, 34]), (9, [5, 6]), (10, [5, 6]), (7, [5, 6]), (11, [5, 7]), (12, [5, 7, 43]), (14, [5, 7, 70]), (15, [5, 7]), (16, [5, 7]), (17, [5, 7]), (13, [5, 7]), (18, [2, 3])], [(0, [5, 6]), (2, [5, 7])], Tryz.func41, by kernel_rfl⟩
/-- stylus/stylusref07.Of -/
def a42 : AFunc where
  body :=
  (.seq (.seq (.ops none [oD 2 (.mov (.k .nilslice)),
 oD 3 (.mov (.k (.int .i64 0)))])
 (.keep [0]))
 (.seq (.seq (.seq (.ops none [oD 5 (.mov (.t 0)),
 oD 6 (.call 55 [(.t 5)]),
 oD 4 (.mov (.t 6))])
 (.keep [0, 4]))
 (.seq (.seq (.ops none [oD 7 (.mov (.t 4)),
 oD 8 (.eq true (.leaf .int) (.t 7) (.k (.int .i64 0)))])
 (.keep [0, 4, 8]))
 (.cond (.t 8) (.seq (.seq (.ops none [oD 9 (.mov (.t 4)),
 oD 2 (.mov (.k .nilslice)),
 oD 3 (.mov (.t 9))])
 (.keep [2, 3]))
 .ret)
 .skip)))
 (.seq (.seq (.seq (.ops none [oD 10 (.mov (.t 0)),
 oD 11 (.call 56 [(.t 10)]),
 oD 12 (.un .not (.t 11))])
 (.keep [0, 12]))
 (.cond (.t 12) (.seq (.seq (.ops none [oD 2 (.mov (.k .nilslice)),
 oD 3 (.mov (.k (.int .i64 1)))])
 (.keep [2, 3]))
 .ret)
 .skip))
 (.seq (.seq (.ops none [oD 13 (.mov (.t 0)),
 oD 14 (.mov (.t 0)),
 oD 15 (.len .slice (.t 14)),
 oD 16 (.call 77 [(.k .nilslice), (.t 13), (.k (.int .i64 0)), (.t 15)]),
 oD 2 (.mov (.t 16)),
 oD 3 (.mov (.k (.int .i64 0)))])
 (.keep [2, 3]))
 .ret))))
  results := [.tmp 2, .tmp 3]
theorem ok42 : FnOK Tryz.prog pureL 42 a42 := ⟨Tryz.f42, [(0, [0]), (1, [0, 4]), (2, [0, 4, 8]), (3, [2, 3]), (4, [0, 12]), (5, [2, 3]), (6, [2, 3])], [], Tryz.func42, by kernel_rfl⟩
/-- slices.ContainsFunc[[]stylus/api.Tok,stylus/api.Tok] -/
def a43 : AFunc where
  body :=
  (.seq (.seq (.ops none [oD 4 (.mov (.k (.bool false)))])
 (.keep [0, 1]))
 (.seq (.seq (.ops none [oD 5 (.mov (.t 0)),
 oD 6 (.mov (.t 1)),
 oD 7 (.call 78 [(.t 5), (.t 6)]),
 oD 8 (.bin .geq (.t 7) (.k (.int .i64 0))),
 oD 4 (.mov (.t 8))])
 (.keep [4]))
 .ret))
  results := [.tmp 4]
theorem ok43 : FnOK Tryz.prog pureL 43 a43 := ⟨Tryz.f43, [(0, [0, 1]), (1, [4])], [], Tryz.func43, by kernel_rfl⟩
/-- stylus/flat.Tree$1 -/
def a44 : AFunc where
  body :=
  (.seq (.seq (.ops none [oD 2 (.box (.t 0)),
 oD 3 (.mov (.k (.bool false)))])
 (.keep [1, 2]))
 (.seq (.seq (.ops none [oD 4 (.loadN 3 (.t 2)),
 oD 5 (.call 45 [(.t 1), (.t 4)]),
 oD 6 (.un .not (.t 5)),
 oD 3 (.mov (.t 6))])
 (.keep [3]))
 .ret))
  results := [.tmp 3]
theorem ok44 : FnOK Tryz.prog pureL 44 a44 := ⟨Tryz.f44, [(0, [1, 2]), (1, [3])], [], Tryz.func44, by kernel_rfl⟩
/-- (*stylus/flat.grown).take -/
def a45 : AFunc where
  body :=
  (.seq (.seq (.ops none [oD 3 (.box (.t 1)),
 oD 4 (.mov (.k (.bool false)))])
 (.keep [0, 3]))
 (.seq (.seq (.ops none [oD 7 (.mov (.t 0)),
 oD 8 (.nilCheck (.t 7)),
 oD 9 (.fieldAddr 2 (.t 8)),
 oD 10 (.load1 (.t 9)),
 oD 5 (.mov (.t 10))])
 (.keep [0, 3, 5]))
 (.seq (.seq (.ops none [oD 11 (.mov (.t 0)),
 oD 12 (.fieldAddr 0 (.t 3)),
 oD 13 (.load1 (.t 12)),
 oD 14 (.eq false (.leaf .int) (.t 13) (.k (.int .i64 1))),
 oD 15 (.nilCheck (.t 11)),
 oD 16 (.fieldAddr 2 (.t 15)),
 oN (.store 1 (.t 16) (.t 14))])
 (.keep [0, 3, 5]))
 (.seq (.seq (.seq (.ops none [oD 17 (.fieldAddr 0 (.t 3)),
 oD 18 (.load1 (.t 17))])
 (.keep [0, 3, 5, 18]))
 (.block 0 (.seq (.seq (.ops none [oD 20 (.eq false (.leaf .int) (.t 18) (.k (.int .i64 1))),
 oD 19 (.mov (.t 20))])
 (.keep [0, 3, 5, 18, 19]))
 (.cond (.t 19) (.seq (.seq (.seq (.ops none [oD 21 (.mov (.t 5)),
 oD 22 (.un .not (.t 21))])
 (.keep [0, 3, 22]))
 (.cond (.t 22) (.ops (some [0, 3]) [oD 23 (.mov (.t 0)),
 oD 24 (.mov (.t 0)),
 oD 25 (.nilCheck (.t 24)),
 oD 26 (.fieldAddr 0 (.t 25)),
 oD 27 (.load1 (.t 26)),
 oD 28 (.fieldAddr 2 (.t 3)),
 oD 29 (.load1 (.t 28)),
 oD 30 (.build [(.int .u8 0), (.str []), (.int .i64 0), (.int .i64 0)] [(0, 1, (.k (.int .u8 46))), (2, 1, (.t 29)), (3, 1, (.k (.int .i64 1)))]),
 oD 31 (.buildSlice [(.int .u8 0), (.str []), (.int .i64 0), (.int .i64 0)] 4 1 [(0, 4, (.t 30))]),
 oD 32 (.append 4 (.t 27) (.t 31)),
 oD 33 (.nilCheck (.t 23)),
 oD 34 (.fieldAddr 0 (.t 33)),
 oN (.store 1 (.t 34) (.t 32))])
 .skip))
 (.ops (some []) [oD 35 (.mov (.t 0)),
 oD 36 (.nilCheck (.t 35)),
 oD 37 (.fieldAddr 0 (.t 36)),
 oD 38 (.load1 (.t 37)),
 oD 39 (.mov (.t 0)),
 oD 40 (.nilCheck (.t 39)),
 oD 41 (.fieldAddr 0 (.t 40)),
 oD 42 (.load1 (.t 41)),
 oD 43 (.len .slice (.t 42)),
 oD 44 (.bin .sub (.t 43) (.k (.int .i64 1))),
 oD 45 (.idxSl 4 (.t 38) (.t 44)),
 oD 46 (.fieldAddr 1 (.t 45)),
 oD 47 (.load1 (.t 46)),
 oD 48 (.fieldAddr 1 (.t 3)),
 oD 49 (.load1 (.t 48)),
 oD 50 (.buildSlice [(.int .u8 0)] 1 1 [(0, 1, (.t 49))]),
 oD 51 (.bytesStr (.t 50)),
 oD 52 (.bin .add (.t 47) (.t 51)),
 oD 53 (.idxSl 4 (.t 38) (.t 44)),
 oD 54 (.fieldAddr 1 (.t 53)),
 oN (.store 1 (.t 54) (.t 52))]))
 (.seq (.seq (.ops none [oD 56 (.eq false (.leaf .int) (.t 18) (.k (.int .i64 2))),
 oD 55 (.mov (.t 56))])
 (.keep [0, 3, 18, 55]))
 (.cond (.t 55) (.seq (.ops (some [0, 3]) [oD 57 (.mov (.t 0)),
 oD 58 (.mov (.t 0)),
 oD 59 (.nilCheck (.t 58)),
 oD 60 (.fieldAddr 1 (.t 59)),
 oD 61 (.load1 (.t 60)),
 oD 62 (.loadN 3 (.t 3)),
 oD 63 (.mov (.t 0)),
 oD 64 (.nilCheck (.t 63)),
 oD 65 (.fieldAddr 0 (.t 64)),
 oD 66 (.load1 (.t 65)),
 oD 67 (.len .slice (.t 66)),
 oD 68 (.build [(.int .i64 0), (.int .u8 0), (.int .i64 0), (.int .i64 0)] [(0, 3, (.t 62)), (3, 1, (.t 67))]),
 oD 69 (.buildSlice [(.int .i64 0), (.int .u8 0), (.int .i64 0), (.int .i64 0)] 4 1 [(0, 4, (.t 68))]),
 oD 70 (.append 4 (.t 61) (.t 69)),
 oD 71 (.nilCheck (.t 57)),
 oD 72 (.fieldAddr 1 (.t 71)),
 oN (.store 1 (.t 72) (.t 70))])
 (.ops (some []) [oD 73 (.mov (.t 0)),
 oD 74 (.mov (.t 0)),
 oD 75 (.nilCheck (.t 74)),
 oD 76 (.fieldAddr 0 (.t 75)),
 oD 77 (.load1 (.t 76)),
 oD 78 (.fieldAddr 1 (.t 3)),
 oD 79 (.load1 (.t 78)),
 oD 80 (.fieldAddr 2 (.t 3)),
 oD 81 (.load1 (.t 80)),
 oD 82 (.build [(.int .u8 0), (.str []), (.int .i64 0), (.int .i64 0)] [(0, 1, (.t 79)), (2, 1, (.t 81)), (3, 1, (.k (.int .i64 1)))]),
 oD 83 (.buildSlice [(.int .u8 0), (.str []), (.int .i64 0), (.int .i64 0)] 4 1 [(0, 4, (.t 82))]),
 oD 84 (.append 4 (.t 77) (.t 83)),
 oD 85 (.nilCheck (.t 73)),
 oD 86 (.fieldAddr 0 (.t 85)),
 oN (.store 1 (.t 86) (.t 84))]))
 (.seq (.seq (.ops none [oD 88 (.eq false (.leaf .int) (.t 18) (.k (.int .i64 3))),
 oD 87 (.mov (.t 88))])
 (.keep [0, 3, 87]))
 (.cond (.t 87) (.seq (.seq (.ops (some [0, 113]) [oD 89 (.mov (.t 0)),
 oD 90 (.nilCheck (.t 89)),
 oD 91 (.fieldAddr 1 (.t 90)),
 oD 92 (.load1 (.t 91)),
 oD 93 (.len .slice (.t 92)),
 oD 94 (.eq false (.leaf .int) (.t 93) (.k (.int .i64 0))),
 oD 95 (.mov (.t 94)),
 oG 96 95 false (.mov (.t 0)),
 oG 97 95 false (.nilCheck (.t 96)),
 oG 98 95 false (.fieldAddr 1 (.t 97)),
 oG 99 95 false (.load1 (.t 98)),
 oG 100 95 false (.mov (.t 0)),
 oG 101 95 false (.nilCheck (.t 100)),
 oG 102 95 false (.fieldAddr 1 (.t 101)),
 oG 103 95 false (.load1 (.t 102)),
 oG 104 95 false (.len .slice (.t 103)),
 oG 105 95 false (.bin .sub (.t 104) (.k (.int .i64 1))),
 oG 106 95 false (.idxSl 4 (.t 99) (.t 105)),
 oG 107 95 false (.fieldAddr 0 (.t 106)),
 oG 108 95 false (.fieldAddr 1 (.t 107)),
 oG 109 95 false (.load1 (.t 108)),
 oG 110 95 false (.fieldAddr 1 (.t 3)),
 oG 111 95 false (.load1 (.t 110)),
 oG 112 95 false (.eq true (.leaf .int) (.t 109) (.t 111)),
 oD 113 (.pick (.t 95) (.k (.bool true)) (.t 112))])
 (.cond (.t 113) (.seq (.seq (.ops none [oD 4 (.mov (.k (.bool false)))])
 (.keep [4]))
 .ret)
 .skip))
 (.seq (.ops (some [0, 6]) [oD 114 (.mov (.t 0)),
 oD 115 (.nilCheck (.t 114)),
 oD 116 (.fieldAddr 1 (.t 115)),
 oD 117 (.load1 (.t 116)),
 oD 118 (.mov (.t 0)),
 oD 119 (.nilCheck (.t 118)),
 oD 120 (.fieldAddr 1 (.t 119)),
 oD 121 (.load1 (.t 120)),
 oD 122 (.len .slice (.t 121)),
 oD 123 (.bin .sub (.t 122) (.k (.int .i64 1))),
 oD 124 (.idxSl 4 (.t 117) (.t 123)),
 oD 125 (.loadN 4 (.t 124)),
 oD 6 (.alloc [(.int .i64 0), (.int .u8 0), (.int .i64 0), (.int .i64 0)]),
 oN (.store 4 (.t 6) (.t 125))])
 (.seq (.ops (some [0, 6]) [oD 126 (.mov (.t 0)),
 oD 127 (.mov (.t 0)),
 oD 128 (.nilCheck (.t 127)),
 oD 129 (.fieldAddr 1 (.t 128)),
 oD 130 (.load1 (.t 129)),
 oD 131 (.mov (.t 0)),
 oD 132 (.nilCheck (.t 131)),
 oD 133 (.fieldAddr 1 (.t 132)),
 oD 134 (.load1 (.t 133)),
 oD 135 (.len .slice (.t 134)),
 oD 136 (.bin .sub (.t 135) (.k (.int .i64 1))),
 oD 137 (.sliceSl 4 (.t 130) none (some (.t 136))),
 oD 138 (.nilCheck (.t 126)),
 oD 139 (.fieldAddr 1 (.t 138)),
 oN (.store 1 (.t 139) (.t 137))])
 (.ops (some []) [oD 140 (.mov (.t 0)),
 oD 141 (.nilCheck (.t 140)),
 oD 142 (.fieldAddr 0 (.t 141)),
 oD 143 (.load1 (.t 142)),
 oD 144 (.fieldAddr 3 (.t 6)),
 oD 145 (.load1 (.t 144)),
 oD 146 (.mov (.t 0)),
 oD 147 (.nilCheck (.t 146)),
 oD 148 (.fieldAddr 0 (.t 147)),
 oD 149 (.load1 (.t 148)),
 oD 150 (.len .slice (.t 149)),
 oD 151 (.fieldAddr 3 (.t 6)),
 oD 152 (.load1 (.t 151)),
 oD 153 (.bin .sub (.t 150) (.t 152)),
 oD 154 (.idxSl 4 (.t 143) (.t 145)),
 oD 155 (.fieldAddr 3 (.t 154)),
 oN (.store 1 (.t 155) (.t 153))]))))
 (.seq (.seq (.ops none [oD 4 (.mov (.k (.bool false)))])
 (.keep [4]))
 .ret)))))))))
 (.seq (.seq (.ops none [oD 4 (.mov (.k (.bool true)))])
 (.keep [4]))
 .ret)))))
  results := [.tmp 4]
theorem ok45 : FnOK Tryz.prog pureL 45 a45 := ⟨Tryz.f45, [(0, [0, 3]), (1, [0, 3, 5]), (2, [0, 3, 5]), (3, [0, 3, 5, 18]), (5, [0, 3, 5, 18, 19]), (9, [0, 3, 18, 55]), (12, [0, 3, 87]), (4, [4]), (13, [0, 113]), (14, [4]), (15, [0, 6]), (16, [0, 6]), (17, []), (10, [0, 3]), (11, []), (6, [0, 3, 22]), (7, [0, 3]), (8, []), (18, [4])], [], Tryz.func45, by kernel_rfl⟩
/-- stylus/tree.Check -/
def a46 : AFunc where
  body :=
  (.seq (.seq (.ops none [oD 2 (.mov (.k (.int .i64 0)))])
 (.keep [0]))
 (.seq (.seq (.seq (.ops none [oD 10 (.mov (.t 0)),
 oD 11 (.call 79 [(.t 10), (.k (.func (.fn 80) [] []))]),
 oD 12 (.mov (.t 11)),
 oG 13 12 false (.mov (.t 0)),
 oG 14 12 false (.mov (.t 0)),
 oG 15 12 false (.len .slice (.t 14)),
 oG 16 12 false (.call 82 [(.t 13), (.k (.int .i64 0)), (.t 15)]),
 oG 17 12 false (.un .not (.t 16)),
 oD 18 (.pick (.t 12) (.k (.bool true)) (.t 17))])
 (.keep [0, 18]))
 (.cond (.t 18) (.seq (.seq (.ops none [oD 2 (.mov (.k (.int .i64 2)))])
 (.keep [2]))
 .ret)
 .skip))
 (.seq (.seq (.ops none [oD 19 (.call 83 []),
 oD 3 (.mov (.t 19))])
 (.keep [0, 3]))
 (.seq (.seq (.ops none [oD 20 (.mov (.t 3)),
 oD 21 (.makeFunc 84 [(.t 20)] []),
 oD 22 (.mov (.t 3)),
 oD 23 (.makeFunc 85 [(.t 22)] []),
 oD 24 (.mov (.t 3)),
 oD 25 (.makeFunc 86 [(.t 24)] []),
 oD 26 (.build [.nilfunc, .nilfunc, .nilfunc, .nilfunc] [(1, 1, (.t 21)), (2, 1, (.t 23)), (3, 1, (.t 25))]),
 oD 4 (.alloc [.nilfunc, .nilfunc, .nilfunc, .nilfunc]),
 oN (.store 4 (.t 4) (.t 26))])
 (.keep [0, 3, 4]))
 (.seq (.seq (.ops none [oD 5 (.mov (.k (.int .i64 0)))])
 (.keep [0, 3, 4, 5]))
 (.seq (.seq (.seq (.ops none [oD 27 (.mov (.t 0)),
 oD 28 (.call 87 [(.t 27)]),
 oD 29 (.len .slice (.t 28)),
 oD 30 (.mov (.k (.int .i64 0)))])
 (.keep [3, 4, 5, 28, 29, 30]))
 (.block 0 (.loop (.seq (.keep [3, 4, 5, 28, 29, 30])
 (.seq (.seq (.ops none [oD 31 (.bin .lss (.t 30) (.t 29))])
 (.keep [3, 4, 5, 28, 29, 30, 31]))
 (.seq (.cond (.t 31) .skip
 (.exit 0))
 (.seq (.block 1 (.seq (.seq (.ops none [oD 32 (.idxSl 4 (.t 28) (.t 30)),
 oD 33 (.loadN 4 (.t 32)),
 oD 7 (.alloc [(.int .i64 0), (.int .u8 0), (.str []), (.int .i64 0)]),
 oN (.store 4 (.t 7) (.t 33))])
 (.keep [3, 4, 5, 7, 28, 29, 30]))
 (.seq (.seq (.seq (.ops none [oD 34 (.fieldAddr 0 (.t 7)),
 oD 35 (.load1 (.t 34)),
 oD 36 (.eq false (.leaf .int) (.t 35) (.k (.int .i64 1))),
 oD 37 (.mov (.t 36)),
 oG 38 37 true (.mov (.t 3)),
 oG 39 37 true (.call 88 [(.t 38), (.k (.int .u8 46))]),
 oG 40 37 true (.un .not (.t 39)),
 oD 41 (.pick (.t 37) (.t 40) (.k (.bool false)))])
 (.keep [3, 4, 5, 7, 28, 29, 30, 41]))
 (.cond (.t 41) (.seq (.seq (.ops none [oD 2 (.mov (.k (.int .i64 2)))])
 (.keep [2]))
 .ret)
 .skip))
 (.seq (.ops (some [3, 4, 5, 9, 28, 29, 30]) [oD 43 (.fieldAddr 0 (.t 7)),
 oD 44 (.load1 (.t 43)),
 oD 45 (.idxArr 4 1 (.t 4) (.t 44)),
 oD 46 (.load1 (.t 45)),
 oD 47 (.loadN 4 (.t 7)),
 oD 48 (.callv (.t 46) [(.t 47)]),
 oD 42 (.mov (.t 48)),
 oD 49 (.extract 0 (.t 42)),
 oD 50 (.extract 1 (.t 42)),
 oD 8 (.mov (.t 49)),
 oD 9 (.mov (.t 50))])
 (.seq (.seq (.ops none [oD 51 (.mov (.t 5)),
 oD 52 (.mov (.t 9)),
 oD 53 (.call 89 [(.t 51), (.t 52)]),
 oD 5 (.mov (.t 53))])
 (.keep [3, 4, 5, 28, 29, 30]))
 (.seq (.seq (.ops none [oD 54 (.mov (.t 5)),
 oD 55 (.eq false (.leaf .int) (.t 54) (.k (.int .i64 2)))])
 (.keep [3, 4, 5, 28, 29, 30, 55]))
 (.cond (.t 55) (.seq (.seq (.ops none [oD 56 (.mov (.t 5)),
 oD 2 (.mov (.t 56))])
 (.keep [2]))
 .ret)
 .skip)))))))
 (.seq (.ops none [oD 57 (.bin .add (.t 30) (.k (.int .i64 1))),
 oD 30 (.mov (.t 57))])
 (.keep [3, 4, 5, 28, 29, 30])))))))))
 (.seq (.seq (.ops none [oD 58 (.mov (.t 5)),
 oD 2 (.mov (.t 58))])
 (.keep [2]))
 .ret)))))))
  results := [.tmp 2]
theorem ok46 : FnOK Tryz.prog pureL 46 a46 := ⟨Tryz.f46, [(0, [0]), (1, [0, 18]), (2, [2]), (3, [0, 3]), (4, [0, 3, 4]), (5, [0, 3, 4, 5]), (6, [3, 4, 5, 28, 29, 30]), (7, [3, 4, 5, 28, 29, 30, 31]), (8, [3, 4, 5, 7, 28, 29, 30]), (9, [3, 4, 5, 7, 28, 29, 30, 41]), (10, [2]), (11, [3, 4, 5, 9, 28, 29, 30]), (12, [3, 4, 5, 28, 29, 30]), (13, [3, 4, 5, 28, 29, 30, 55]), (14, [2]), (15, [3, 4, 5, 28, 29, 30]), (16, [2])], [(0, [3, 4, 5, 28, 29, 30])], Tryz.func46, by kernel_rfl⟩
/-- stylus/norm.Is -/
def a47 : AFunc where
  body :=
  (.seq (.seq (.ops none [oD 2 (.mov (.k (.bool false)))])
 (.keep [0]))
 (.seq (.seq (.ops none [oD 6 (.mov (.t 0)),
 oD 7 (.call 90 [(.t 6)]),
 oD 5 (.mov (.t 7)),
 oD 8 (.extract 0 (.t 5)),
 oD 9 (.extract 1 (.t 5)),
 oD 3 (.mov (.t 8)),
 oD 4 (.mov (.t 9))])
 (.keep [0, 3, 4]))
 (.seq (.seq (.ops none [oD 10 (.mov (.t 4)),
 oD 11 (.eq false (.leaf .int) (.t 10) (.k (.int .i64 0))),
 oD 12 (.mov (.t 11)),
 oG 13 12 true (.mov (.t 0)),
 oG 14 12 true (.mov (.t 3)),
 oG 15 12 true (.call 91 [(.t 13), (.t 14)]),
 oD 16 (.pick (.t 12) (.t 15) (.k (.bool false))),
 oD 2 (.mov (.t 16))])
 (.keep [2]))
 .ret)))
  results := [.tmp 2]
theorem ok47 : FnOK Tryz.prog pureL 47 a47 := ⟨Tryz.f47, [(0, [0]), (1, [0, 3, 4]), (2, [2])], [], Tryz.func47, by kernel_rfl⟩
/-- slices.Concat[[]stylus/api.Line,stylus/api.Line] -/
def a48 : AFunc where
  body :=
  (.seq (.seq (.ops none [oD 2 (.mov (.k .nilslice))])
 (.keep [0]))
 (.seq (.seq (.ops none [oD 3 (.mov (.k (.int .i64 0)))])
 (.keep [0, 3]))
 (.seq (.seq (.seq (.ops none [oD 9 (.mov (.t 0)),
 oD 10 (.len .slice (.t 9)),
 oD 11 (.mov (.k (.int .i64 0)))])
 (.keep [0, 3, 9, 10, 11]))
 (.block 0 (.loop (.seq (.keep [0, 3, 9, 10, 11])
 (.seq (.seq (.ops none [oD 12 (.bin .lss (.t 11) (.t 10))])
 (.keep [0, 3, 9, 10, 11, 12]))
 (.seq (.cond (.t 12) .skip
 (.exit 0))
 (.seq (.block 1 (.seq (.seq (.ops none [oD 13 (.idxSl 1 (.t 9) (.t 11)),
 oD 14 (.load1 (.t 13)),
 oD 5 (.mov (.t 14))])
 (.keep [0, 3, 5, 9, 10, 11]))
 (.seq (.seq (.ops none [oD 15 (.mov (.t 3)),
 oD 16 (.mov (.t 5)),
 oD 17 (.len .slice (.t 16)),
 oD 18 (.bin .add (.t 15) (.t 17)),
 oD 3 (.mov (.t 18))])
 (.keep [0, 3, 9, 10, 11]))
 (.seq (.seq (.ops none [oD 19 (.mov (.t 3)),
 oD 20 (.bin .lss (.t 19) (.k (.int .i64 0)))])
 (.keep [0, 3, 9, 10, 11, 20]))
 (.cond (.t 20) (.ops none [oN (.nilCheck (.k .nilptr))])
 .skip)))))
 (.seq (.ops none [oD 22 (.bin .add (.t 11) (.k (.int .i64 1))),
 oD 11 (.mov (.t 22))])
 (.keep [0, 3, 9, 10, 11])))))))))
 (.seq (.seq (.ops none [oD 23 (.mov (.t 3)),
 oD 24 (.call 92 [(.k .nilslice), (.t 23)]),
 oD 6 (.mov (.t 24))])
 (.keep [0, 6]))
 (.seq (.seq (.seq (.ops none [oD 25 (.mov (.t 0)),
 oD 26 (.len .slice (.t 25)),
 oD 27 (.mov (.k (.int .i64 0)))])
 (.keep [6, 25, 26, 27]))
 (.block 2 (.loop (.seq (.keep [6, 25, 26, 27])
 (.seq (.seq (.ops none [oD 28 (.bin .lss (.t 27) (.t 26))])
 (.keep [6, 25, 26, 27, 28]))
 (.seq (.cond (.t 28) .skip
 (.exit 2))
 (.seq (.block 3 (.seq (.seq (.ops none [oD 29 (.idxSl 1 (.t 25) (.t 27)),
 oD 30 (.load1 (.t 29)),
 oD 8 (.mov (.t 30))])
 (.keep [6, 8, 25, 26, 27]))
 (.seq (.ops none [oD 31 (.mov (.t 6)),
 oD 32 (.mov (.t 8)),
 oD 33 (.append 3 (.t 31) (.t 32)),
 oD 6 (.mov (.t 33))])
 (.keep [6, 25, 26, 27]))))
 (.seq (.ops none [oD 34 (.bin .add (.t 27) (.k (.int .i64 1))),
 oD 27 (.mov (.t 34))])
 (.keep [6, 25, 26, 27])))))))))
 (.seq (.seq (.ops none [oD 35 (.mov (.t 6)),
 oD 2 (.mov (.t 35))])
 (.keep [2]))
 .ret))))))
  results := [.tmp 2]
theorem ok48 : FnOK Tryz.prog pureL 48 a48 := ⟨Tryz.f48, [(0, [0]), (1, [0, 3]), (2, [0, 3, 9, 10, 11]), (3, [0, 3, 9, 10, 11, 12]), (4, [0, 3, 5, 9, 10, 11]), (5, [0, 3, 9, 10, 11]), (6, [0, 3, 9, 10, 11, 20]), (8, [0, 3, 9, 10, 11]), (9, [0, 6]), (10, [6, 25, 26, 27]), (11, [6, 25, 26, 27, 28]), (12, [6, 8, 25, 26, 27]), (13, [6, 25, 26, 27]), (14, [6, 25, 26, 27]), (15, [2])], [(0, [0, 3, 9, 10, 11]), (2, [6, 25, 26, 27])], Tryz.func48, by kernel_rfl⟩
/-- (*stylus/order.reader).read$1 -/
def a49 : AFunc where
  body :=
  (.seq (.seq (.ops none [oD 1 (.box (.t 0)),
 oD 2 (.mov (.k (.bool false)))])
 (.keep [1]))
 (.seq (.seq (.ops none [oD 3 (.fieldAddr 0 (.t 1)),
 oD 4 (.load1 (.t 3)),
 oD 5 (.eq true (.leaf .int) (.t 4) (.k (.int .i64 1))),
 oD 2 (.mov (.t 5))])
 (.keep [2]))
 .ret))
  results := [.tmp 2]
theorem ok49 : FnOK Tryz.prog pureL 49 a49 := ⟨Tryz.f49, [(0, [1]), (1, [2])], [], Tryz.func49, by kernel_rfl⟩
/-- (*stylus/order.reader).char -/
def a50 : AFunc where
  body :=
  (.seq (.seq (.ops none [oD 4 (.mov (.k (.bool false)))])
 (.keep [0, 1]))
 (.seq (.ops (some [0, 1, 5]) [oD 12 (.mov (.t 0)),
 oD 13 (.nilCheck (.t 12)),
 oD 14 (.fieldAddr 6 (.t 13)),
 oD 15 (.load1 (.t 14)),
 oD 16 (.mov (.t 0)),
 oD 17 (.nilCheck (.t 16)),
 oD 18 (.fieldAddr 6 (.t 17)),
 oD 19 (.load1 (.t 18)),
 oD 20 (.len .slice (.t 19)),
 oD 21 (.bin .sub (.t 20) (.k (.int .i64 1))),
 oD 22 (.idxSl 1 (.t 15) (.t 21)),
 oD 23 (.load1 (.t 22)),
 oD 5 (.mov (.t 23))])
 (.seq (.seq (.seq (.ops none [oD 25 (.mov (.t 0)),
 oD 26 (.nilCheck (.t 25)),
 oD 27 (.fieldAddr 3 (.t 26)),
 oD 28 (.load1 (.t 27)),
 oD 29 (.mov (.t 1)),
 oD 30 (.build [(.int .i64 0), (.int .i64 0)] [(0, 1, (.t 29)), (1, 1, (.k (.int .i64 1)))]),
 oD 31 (.lookup (.agg [.int, .int]) (.agg [(.int .i64 0), (.int .i64 0), (.int .i64 0), (.int .i64 0), (.bool false)]) true (.t 28) (.t 30)),
 oD 24 (.mov (.t 31)),
 oD 32 (.extract 0 (.t 24)),
 oD 33 (.extract 1 (.t 24)),
 oD 6 (.alloc [(.int .i64 0), (.int .i64 0), (.int .i64 0), (.int .i64 0), (.bool false)]),
 oN (.store 5 (.t 6) (.t 32)),
 oD 7 (.mov (.t 33))])
 (.keep [0, 1, 5, 6, 7]))
 (.seq (.seq (.ops none [oD 34 (.mov (.t 7))])
 (.keep [0, 1, 5, 6, 34]))
 (.cond (.t 34) (.ops (some [0, 1, 5]) [oD 35 (.mov (.t 0)),
 oD 36 (.mov (.t 0)),
 oD 37 (.nilCheck (.t 36)),
 oD 38 (.fieldAddr 0 (.t 37)),
 oD 39 (.fieldAddr 1 (.t 38)),
 oD 40 (.load1 (.t 39)),
 oD 41 (.fieldAddr 0 (.t 6)),
 oD 42 (.loadN 3 (.t 41)),
 oD 43 (.buildSlice [(.int .i64 0), (.int .i64 0), (.int .i64 0)] 3 1 [(0, 3, (.t 42))]),
 oD 44 (.append 3 (.t 40) (.t 43)),
 oD 45 (.nilCheck (.t 35)),
 oD 46 (.fieldAddr 0 (.t 45)),
 oD 47 (.fieldAddr 1 (.t 46)),
 oN (.store 1 (.t 47) (.t 44))])
 .skip)))
 (.seq (.seq (.ops none [oD 49 (.mov (.t 0)),
 oD 50 (.nilCheck (.t 49)),
 oD 51 (.fieldAddr 3 (.t 50)),
 oD 52 (.load1 (.t 51)),
 oD 53 (.mov (.t 1)),
 oD 54 (.build [(.int .i64 0), (.int .i64 0)] [(0, 1, (.t 53)), (1, 1, (.k (.int .i64 0)))]),
 oD 55 (.lookup (.agg [.int, .int]) (.agg [(.int .i64 0), (.int .i64 0), (.int .i64 0), (.int .i64 0), (.bool false)]) true (.t 52) (.t 54)),
 oD 48 (.mov (.t 55)),
 oD 56 (.extract 0 (.t 48)),
 oD 57 (.extract 1 (.t 48)),
 oD 8 (.alloc [(.int .i64 0), (.int .i64 0), (.int .i64 0), (.int .i64 0), (.bool false)]),
 oN (.store 5 (.t 8) (.t 56)),
 oD 9 (.mov (.t 57))])
 (.keep [0, 1, 5, 8, 9]))
 (.seq (.seq (.seq (.ops none [oD 58 (.mov (.t 9))])
 (.keep [0, 1, 5, 8, 58]))
 (.cond (.t 58) (.seq (.ops (some [0, 8]) [oD 59 (.mov (.t 0)),
 oD 60 (.nilCheck (.t 59)),
 oD 61 (.fieldAddr 5 (.t 60)),
 oD 62 (.load1 (.t 61)),
 oD 63 (.mov (.t 5)),
 oD 64 (.loadN 5 (.t 8)),
 oN (.mapUpdate (.leaf .int) (.t 62) (.t 63) (.t 64))])
 (.seq (.ops (some [8]) [oD 65 (.mov (.t 0)),
 oD 66 (.mov (.t 0)),
 oD 67 (.nilCheck (.t 66)),
 oD 68 (.fieldAddr 0 (.t 67)),
 oD 69 (.fieldAddr 1 (.t 68)),
 oD 70 (.load1 (.t 69)),
 oD 71 (.fieldAddr 0 (.t 8)),
 oD 72 (.loadN 3 (.t 71)),
 oD 73 (.buildSlice [(.int .i64 0), (.int .i64 0), (.int .i64 0)] 3 1 [(0, 3, (.t 72))]),
 oD 74 (.append 3 (.t 70) (.t 73)),
 oD 75 (.nilCheck (.t 65)),
 oD 76 (.fieldAddr 0 (.t 75)),
 oD 77 (.fieldAddr 1 (.t 76)),
 oN (.store 1 (.t 77) (.t 74))])
 (.seq (.seq (.ops none [oD 78 (.fieldAddr 4 (.t 8)),
 oD 79 (.load1 (.t 78)),
 oD 80 (.un .not (.t 79)),
 oD 4 (.mov (.t 80))])
 (.keep [4]))
 .ret)))
 .skip))
 (.seq (.seq (.ops none [oD 82 (.mov (.t 0)),
 oD 83 (.nilCheck (.t 82)),
 oD 84 (.fieldAddr 5 (.t 83)),
 oD 85 (.load1 (.t 84)),
 oD 86 (.mov (.t 5)),
 oD 87 (.lookup (.leaf .int) (.agg [(.int .i64 0), (.int .i64 0), (.int .i64 0), (.int .i64 0), (.bool false)]) true (.t 85) (.t 86)),
 oD 81 (.mov (.t 87)),
 oD 88 (.extract 0 (.t 81)),
 oD 89 (.extract 1 (.t 81)),
 oD 10 (.alloc [(.int .i64 0), (.int .i64 0), (.int .i64 0), (.int .i64 0), (.bool false)]),
 oN (.store 5 (.t 10) (.t 88)),
 oD 11 (.mov (.t 89))])
 (.keep [0, 1, 10, 11]))
 (.seq (.seq (.ops none [oD 90 (.fieldAddr 3 (.t 10)),
 oD 91 (.load1 (.t 90)),
 oD 92 (.fieldAddr 0 (.t 10)),
 oD 93 (.fieldAddr 2 (.t 92)),
 oN (.store 1 (.t 93) (.t 91))])
 (.keep [0, 1, 10, 11]))
 (.seq (.ops (some [0, 1, 11]) [oD 94 (.mov (.t 0)),
 oD 95 (.mov (.t 0)),
 oD 96 (.nilCheck (.t 95)),
 oD 97 (.fieldAddr 0 (.t 96)),
 oD 98 (.fieldAddr 1 (.t 97)),
 oD 99 (.load1 (.t 98)),
 oD 100 (.fieldAddr 0 (.t 10)),
 oD 101 (.loadN 3 (.t 100)),
 oD 102 (.buildSlice [(.int .i64 0), (.int .i64 0), (.int .i64 0)] 3 1 [(0, 3, (.t 101))]),
 oD 103 (.append 3 (.t 99) (.t 102)),
 oD 104 (.nilCheck (.t 94)),
 oD 105 (.fieldAddr 0 (.t 104)),
 oD 106 (.fieldAddr 1 (.t 105)),
 oN (.store 1 (.t 106) (.t 103))])
 (.seq (.seq (.ops none [oD 107 (.mov (.t 11)),
 oD 108 (.mov (.t 107)),
 oG 109 108 true (.mov (.t 0)),
 oG 110 108 true (.nilCheck (.t 109)),
 oG 111 108 true (.fieldAddr 2 (.t 110)),
 oG 112 108 true (.load1 (.t 111)),
 oG 113 108 true (.mov (.t 1)),
 oG 114 108 true (.idxSl 3 (.t 112) (.t 113)),
 oG 115 108 true (.fieldAddr 1 (.t 114)),
 oG 116 108 true (.load1 (.t 115)),
 oG 117 108 true (.eq false (.leaf .int) (.t 116) (.k (.int .u8 32))),
 oD 118 (.pick (.t 108) (.t 117) (.k (.bool false))),
 oD 4 (.mov (.t 118))])
 (.keep [4]))
 .ret)))))))))
  results := [.tmp 4]
theorem ok50 : FnOK Tryz.prog pureL 50 a50 := ⟨Tryz.f50, [(0, [0, 1]), (1, [0, 1, 5]), (2, [0, 1, 5, 6, 7]), (3, [0, 1, 5, 6, 34]), (4, [0, 1, 5]), (5, [0, 1, 5, 8, 9]), (6, [0, 1, 5, 8, 58]), (7, [0, 8]), (8, [8]), (9, [4]), (10, [0, 1, 10, 11]), (11, [0, 1, 10, 11]), (12, [0, 1, 11]), (13, [4])], [], Tryz.func50, by kernel_rfl⟩
/-- stylus/order.flows -/
def a51 : AFunc where
  body :=
  (.seq (.seq (.ops none [oD 1 (.box (.t 0)),
 oD 2 (.mov (.k (.bool false)))])
 (.keep [1]))
 (.seq (.seq (.ops none [oD 3 (.fieldAddr 1 (.t 1)),
 oD 4 (.load1 (.t 3)),
 oD 5 (.eq true (.leaf .int) (.t 4) (.k (.int .u8 101))),
 oD 6 (.mov (.t 5)),
 oG 7 6 true (.fieldAddr 1 (.t 1)),
 oG 8 6 true (.load1 (.t 7)),
 oG 9 6 true (.eq true (.leaf .int) (.t 8) (.k (.int .u8 115))),
 oD 10 (.pick (.t 6) (.t 9) (.k (.bool false))),
 oD 2 (.mov (.t 10))])
 (.keep [2]))
 .ret))
  results := [.tmp 2]
theorem ok51 : FnOK Tryz.prog pureL 51 a51 := ⟨Tryz.f51, [(0, [1]), (1, [2])], [], Tryz.func51, by kernel_rfl⟩
/-- (*stylus/order.reader).nodes$1 -/
def a52 : AFunc where
  body :=
  (.seq (.seq (.ops none [oD 2 (.mov (.k (.int .i64 0)))])
 (.keep [0, 1]))
 (.seq (.seq (.seq (.ops none [oD 3 (.load1 (.t 0)),
 oD 4 (.eq false (.leaf .int) (.t 3) (.k (.int .i64 0)))])
 (.keep [0, 1, 4]))
 (.cond (.t 4) (.seq (.seq (.ops none [oD 2 (.mov (.k (.int .i64 0)))])
 (.keep [2]))
 .ret)
 .skip))
 (.seq (.ops (some [2]) [oD 5 (.load1 (.t 1)),
 oD 6 (.nilCheck (.t 5)),
 oD 7 (.fieldAddr 4 (.t 6)),
 oD 8 (.load1 (.t 7)),
 oD 9 (.load1 (.t 0)),
 oD 10 (.bin .sub (.t 9) (.k (.int .i64 1))),
 oD 11 (.idxSl 1 (.t 8) (.t 10)),
 oD 12 (.load1 (.t 11)),
 oD 2 (.mov (.t 12))])
 .ret)))
  results := [.tmp 2]
theorem ok52 : FnOK Tryz.prog pureL 52 a52 := ⟨Tryz.f52, [(0, [0, 1]), (1, [0, 1, 4]), (2, [2]), (3, [2])], [], Tryz.func52, by kernel_rfl⟩
/-- (*stylus/order.reader).nodes$2 -/
def a53 : AFunc where
  body :=
  (.block 0 (.loop (.seq (.keep [0, 1, 2, 3, 4])
 (.seq (.seq (.seq (.ops none [oD 8 (.mov (.t 0)),
 oD 9 (.len .slice (.t 8)),
 oD 10 (.bin .gtr (.t 9) (.k (.int .i64 0)))])
 (.keep [0, 1, 2, 3, 4, 10]))
 (.cond (.t 10) .skip
 (.exit 0)))
 (.block 1 (.seq (.seq (.ops none [oD 11 (.mov (.t 0)),
 oD 12 (.idxSl 4 (.t 11) (.k (.int .i64 0))),
 oD 13 (.loadN 4 (.t 12)),
 oD 6 (.alloc [(.int .u8 0), (.str []), (.int .i64 0), (.int .i64 0)]),
 oN (.store 4 (.t 6) (.t 13))])
 (.keep [0, 1, 2, 3, 4, 6]))
 (.seq (.seq (.ops none [oD 14 (.load1 (.t 1)),
 oD 15 (.nilCheck (.t 14)),
 oD 16 (.fieldAddr 0 (.t 15)),
 oD 17 (.fieldAddr 0 (.t 16)),
 oD 18 (.load1 (.t 17)),
 oD 19 (.len .slice (.t 18)),
 oD 7 (.mov (.t 19))])
 (.keep [0, 1, 2, 3, 4, 6, 7]))
 (.seq (.ops (some [0, 1, 2, 3, 4, 6, 7]) [oD 20 (.load1 (.t 1)),
 oD 21 (.load1 (.t 1)),
 oD 22 (.nilCheck (.t 21)),
 oD 23 (.fieldAddr 0 (.t 22)),
 oD 24 (.fieldAddr 0 (.t 23)),
 oD 25 (.load1 (.t 24)),
 oD 26 (.fieldAddr 0 (.t 6)),
 oD 27 (.load1 (.t 26)),
 oD 28 (.fieldAddr 3 (.t 6)),
 oD 29 (.load1 (.t 28)),
 oD 30 (.load1 (.t 2)),
 ⟨(some 31), none, .callv (.t 30) [], [⟨20, none, .load1 (.t 1)⟩, ⟨21, none, .load1 (.t 1)⟩, ⟨25, none, .load1 (.t 24)⟩, ⟨27, none, .load1 (.t 26)⟩, ⟨29, none, .load1 (.t 28)⟩]⟩,
 oD 32 (.build [(.int .u8 0), (.int .i64 0), (.int .i64 0), (.int .i64 0)] [(0, 1, (.t 27)), (1, 1, (.t 29)), (2, 1, (.t 31))]),
 oD 33 (.buildSlice [(.int .u8 0), (.int .i64 0), (.int .i64 0), (.int .i64 0)] 4 1 [(0, 4, (.t 32))]),
 oD 34 (.appendX 4 (.t 25) (.t 33)),
 oD 35 (.nilCheck (.t 20)),
 oD 36 (.fieldAddr 0 (.t 35)),
 oD 37 (.fieldAddr 0 (.t 36)),
 oN (.store 1 (.t 37) (.t 34))])
 (.seq (.seq (.seq (.ops none [oD 38 (.fieldAddr 0 (.t 6)),
 oD 39 (.load1 (.t 38)),
 oD 40 (.eq false (.leaf .int) (.t 39) (.k (.int .u8 46)))])
 (.keep [0, 1, 2, 3, 4, 6, 7, 40]))
 (.cond (.t 40) (.seq (.ops none [oD 41 (.load1 (.t 3)),
 oD 42 (.fieldAddr 1 (.t 6)),
 oD 43 (.load1 (.t 42)),
 oD 44 (.len .str (.t 43)),
 oD 45 (.bin .add (.t 41) (.t 44)),
 oN (.store 1 (.t 3) (.t 45))])
 (.keep [0, 1, 2, 3, 4, 6, 7]))
 (.seq (.seq (.ops none [oD 46 (.load1 (.t 3)),
 oD 47 (.bin .add (.t 46) (.k (.int .i64 1))),
 oN (.store 1 (.t 3) (.t 47))])
 (.keep [0, 1, 2, 3, 4, 6, 7]))
 (.seq (.ops (some [0, 1, 2, 3, 4, 6, 7]) [oD 48 (.load1 (.t 4)),
 oD 49 (.mov (.t 0)),
 oD 50 (.fieldAddr 3 (.t 6)),
 oD 51 (.load1 (.t 50)),
 oD 52 (.sliceSl 4 (.t 49) (some (.k (.int .i64 1))) (some (.t 51))),
 oD 53 (.callv (.t 48) [(.t 52)])])
 (.seq (.ops none [oD 54 (.load1 (.t 3)),
 oD 55 (.bin .add (.t 54) (.k (.int .i64 1))),
 oN (.store 1 (.t 3) (.t 55))])
 (.keep [0, 1, 2, 3, 4, 6, 7]))))))
 (.seq (.ops (some [0, 1, 2, 3, 4, 6]) [oD 56 (.load1 (.t 1)),
 oD 57 (.nilCheck (.t 56)),
 oD 58 (.fieldAddr 0 (.t 57)),
 oD 59 (.fieldAddr 0 (.t 58)),
 oD 60 (.load1 (.t 59)),
 oD 61 (.mov (.t 7)),
 oD 62 (.load1 (.t 2)),
 ⟨(some 63), none, .callv (.t 62) [], [⟨56, none, .load1 (.t 1)⟩, ⟨60, none, .load1 (.t 59)⟩]⟩,
 oD 64 (.idxSl 4 (.t 60) (.t 61)),
 oD 65 (.fieldAddr 3 (.t 64)),
 oN (.store 1 (.t 65) (.t 63))])
 (.seq (.ops none [oD 66 (.mov (.t 0)),
 oD 67 (.fieldAddr 3 (.t 6)),
 oD 68 (.load1 (.t 67)),
 oD 69 (.sliceSl 4 (.t 66) (some (.t 68)) none),
 oD 0 (.mov (.t 69))])
 (.keep [0, 1, 2, 3, 4]))))))))))))
  results := []
theorem ok53 : FnOK Tryz.prog pureL 53 a53 := ⟨Tryz.f53, [(0, [0, 1, 2, 3, 4, 10]), (1, [0, 1, 2, 3, 4, 6]), (2, [0, 1, 2, 3, 4, 6, 7]), (3, [0, 1, 2, 3, 4, 6, 7]), (4, [0, 1, 2, 3, 4, 6, 7, 40]), (6, [0, 1, 2, 3, 4, 6, 7]), (7, [0, 1, 2, 3, 4, 6, 7]), (8, [0, 1, 2, 3, 4, 6, 7]), (5, [0, 1, 2, 3, 4, 6, 7]), (9, [0, 1, 2, 3, 4, 6]), (10, [0, 1, 2, 3, 4])], [(0, [0, 1, 2, 3, 4])], Tryz.func53, by kernel_rfl⟩
/-- stylus/stylusref04.Check -/
def a55 : AFunc where
  body :=
  (.seq (.seq (.ops none [oD 2 (.mov (.k (.int .i64 0)))])
 (.keep [0]))
 (.seq (.seq (.seq (.ops none [oD 3 (.mov (.k (.int .i64 0)))])
 (.keep [0, 3]))
 (.block 0 (.loop (.seq (.keep [0, 3])
 (.seq (.seq (.seq (.ops none [oD 14 (.mov (.t 3)),
 oD 15 (.mov (.t 0)),
 oD 16 (.len .slice (.t 15)),
 oD 17 (.bin .lss (.t 14) (.t 16))])
 (.keep [0, 3, 17]))
 (.cond (.t 17) .skip
 (.exit 0)))
 (.seq (.block 1 (.seq (.seq (.seq (.ops none [oD 20 (.mov (.t 0)),
 oD 21 (.mov (.t 3)),
 oD 22 (.idxSl 4 (.t 20) (.t 21)),
 oD 23 (.fieldAddr 0 (.t 22)),
 oD 24 (.load1 (.t 23)),
 oD 25 (.eq false (.leaf .int) (.t 24) (.k (.int .u8 46))),
 oD 26 (.mov (.t 25)),
 oG 27 26 true (.mov (.t 0)),
 oG 28 26 true (.mov (.t 3)),
 oG 29 26 true (.idxSl 4 (.t 27) (.t 28)),
 oG 30 26 true (.fieldAddr 1 (.t 29)),
 oG 31 26 true (.load1 (.t 30)),
 oG 32 26 true (.eq false (.leaf .str) (.t 31) (.k (.str []))),
 oD 33 (.pick (.t 26) (.t 32) (.k (.bool false))),
 oD 34 (.mov (.t 33)),
 oG 35 34 false (.mov (.t 0)),
 oG 36 34 false (.mov (.t 3)),
 oG 37 34 false (.idxSl 4 (.t 35) (.t 36)),
 oG 38 34 false (.fieldAddr 0 (.t 37)),
 oG 39 34 false (.load1 (.t 38)),
 oG 40 34 false (.eq true (.leaf .int) (.t 39) (.k (.int .u8 46))),
 oG 41 34 false (.mov (.t 40)),
 oG 42 41 true (.mov (.t 0)),
 oG 43 41 true (.mov (.t 3)),
 oG 44 41 true (.idxSl 4 (.t 42) (.t 43)),
 oG 45 41 true (.fieldAddr 1 (.t 44)),
 oG 46 41 true (.load1 (.t 45)),
 oG 47 41 true (.eq true (.leaf .str) (.t 46) (.k (.str []))),
 oG 48 41 true (.mov (.t 47)),
 oG 49 48 false (.mov (.t 0)),
 oG 50 48 false (.mov (.t 3)),
 oG 51 48 false (.idxSl 4 (.t 49) (.t 50)),
 oG 52 48 false (.fieldAddr 0 (.t 51)),
 oG 53 48 false (.load1 (.t 52)),
 oG 54 48 false (.call 94 [(.t 53)]),
 oG 55 48 false (.eq false (.leaf .str) (.t 54) (.k (.str []))),
 oG 56 41 true (.pick (.t 48) (.k (.bool true)) (.t 55)),
 oG 57 34 false (.pick (.t 41) (.t 56) (.k (.bool false))),
 oD 58 (.pick (.t 34) (.k (.bool true)) (.t 57))])
 (.keep [0, 3, 58]))
 (.cond (.t 58) (.seq (.seq (.ops none [oD 2 (.mov (.k (.int .i64 2)))])
 (.keep [2]))
 .ret)
 .skip))
 (.seq (.seq (.ops none [oD 4 (.mov (.k (.int .i64 0)))])
 (.keep [0, 3, 4]))
 (.block 2 (.loop (.seq (.keep [0, 3, 4])
 (.seq (.seq (.seq (.ops none [oD 59 (.mov (.t 4)),
 oD 60 (.mov (.t 0)),
 oD 61 (.mov (.t 3)),
 oD 62 (.idxSl 4 (.t 60) (.t 61)),
 oD 63 (.fieldAddr 1 (.t 62)),
 oD 64 (.load1 (.t 63)),
 oD 65 (.len .str (.t 64)),
 oD 66 (.bin .lss (.t 59) (.t 65))])
 (.keep [0, 3, 4, 66]))
 (.cond (.t 66) .skip
 (.exit 2)))
 (.seq (.block 3 (.seq (.seq (.ops none [oD 69 (.mov (.t 0)),
 oD 70 (.mov (.t 3)),
 oD 71 (.idxSl 4 (.t 69) (.t 70)),
 oD 72 (.fieldAddr 1 (.t 71)),
 oD 73 (.load1 (.t 72)),
 oD 74 (.mov (.t 4)),
 oD 75 (.indexStr (.t 73) (.t 74)),
 oD 76 (.call 70 [(.t 75)]),
 oD 77 (.un .not (.t 76)),
 oD 78 (.mov (.t 77)),
 oG 79 78 true (.mov (.t 0)),
 oG 80 78 true (.mov (.t 3)),
 oG 81 78 true (.idxSl 4 (.t 79) (.t 80)),
 oG 82 78 true (.fieldAddr 1 (.t 81)),
 oG 83 78 true (.load1 (.t 82)),
 oG 84 78 true (.mov (.t 4)),
 oG 85 78 true (.indexStr (.t 83) (.t 84)),
 oG 86 78 true (.call 95 [(.t 85)]),
 oG 87 78 true (.un .not (.t 86)),
 oD 88 (.pick (.t 78) (.t 87) (.k (.bool false)))])
 (.keep [0, 3, 4, 88]))
 (.cond (.t 88) (.seq (.seq (.ops none [oD 2 (.mov (.k (.int .i64 2)))])
 (.keep [2]))
 .ret)
 .skip)))
 (.seq (.ops none [oD 67 (.mov (.t 4)),
 oD 68 (.bin .add (.t 67) (.k (.int .i64 1))),
 oD 4 (.mov (.t 68))])
 (.keep [0, 3, 4]))))))))))
 (.seq (.ops none [oD 18 (.mov (.t 3)),
 oD 19 (.bin .add (.t 18) (.k (.int .i64 1))),
 oD 3 (.mov (.t 19))])
 (.keep [0, 3]))))))))
 (.seq (.seq (.ops none [oD 90 (.mov (.t 0)),
 oD 91 (.mov (.t 0)),
 oD 92 (.len .slice (.t 91)),
 oD 93 (.call 96 [(.t 90), (.k (.int .i64 0)), (.t 92)]),
 oD 89 (.mov (.t 93)),
 oD 94 (.extract 0 (.t 89)),
 oD 95 (.extract 1 (.t 89)),
 oD 5 (.mov (.t 94)),
 oD 6 (.mov (.t 95))])
 (.keep [5, 6]))
 (.seq (.seq (.seq (.ops none [oD 96 (.mov (.t 6)),
 oD 97 (.un .not (.t 96))])
 (.keep [5, 97]))
 (.cond (.t 97) (.seq (.seq (.ops none [oD 2 (.mov (.k (.int .i64 2)))])
 (.keep [2]))
 .ret)
 .skip))
 (.seq (.seq (.ops none [oD 7 (.mov (.k (.int .i64 0))),
 oD 8 (.mov (.k (.int .i64 0)))])
 (.keep [5, 7, 8]))
 (.seq (.seq (.seq (.ops none [oD 9 (.mov (.k (.int .i64 0)))])
 (.keep [5, 7, 8, 9]))
 (.block 4 (.loop (.seq (.keep [5, 7, 8, 9])
 (.seq (.seq (.seq (.ops none [oD 98 (.mov (.t 9)),
 oD 99 (.mov (.t 5)),
 oD 100 (.len .slice (.t 99)),
 oD 101 (.bin .lss (.t 98) (.t 100))])
 (.keep [5, 7, 8, 9, 101]))
 (.cond (.t 101) .skip
 (.exit 4)))
 (.seq (.block 5 (.seq (.seq (.ops none [oD 105 (.mov (.t 5)),
 oD 106 (.mov (.t 9)),
 oD 107 (.sliceSl 4 (.t 105) none (some (.t 106))),
 oD 108 (.call 72 [(.t 107)]),
 oD 104 (.mov (.t 108)),
 oD 109 (.extract 0 (.t 104)),
 oD 110 (.extract 1 (.t 104)),
 oD 10 (.mov (.t 109)),
 oD 11 (.mov (.t 110))])
 (.keep [5, 7, 8, 9, 10, 11]))
 (.seq (.seq (.seq (.ops none [oD 111 (.mov (.t 5)),
 oD 112 (.mov (.t 9)),
 oD 113 (.idxSl 4 (.t 111) (.t 112)),
 oD 114 (.fieldAddr 0 (.t 113)),
 oD 115 (.load1 (.t 114)),
 oD 116 (.eq false (.leaf .int) (.t 115) (.k (.int .i64 1))),
 oD 117 (.mov (.t 116)),
 oG 118 117 true (.mov (.t 11)),
 oG 119 117 true (.call 97 [(.t 118)]),
 oG 120 117 true (.un .not (.t 119)),
 oD 121 (.pick (.t 117) (.t 120) (.k (.bool false)))])
 (.keep [5, 7, 8, 9, 10, 11, 121]))
 (.cond (.t 121) (.seq (.seq (.ops none [oD 2 (.mov (.k (.int .i64 2)))])
 (.keep [2]))
 .ret)
 .skip))
 (.seq (.seq (.ops none [oD 123 (.mov (.t 10)),
 oD 124 (.mov (.t 11)),
 oD 125 (.mov (.t 5)),
 oD 126 (.mov (.t 9)),
 oD 127 (.idxSl 4 (.t 125) (.t 126)),
 oD 128 (.loadN 4 (.t 127)),
 oD 129 (.call 73 [(.t 123), (.t 124), (.t 128)]),
 oD 122 (.mov (.t 129)),
 oD 130 (.extract 0 (.t 122)),
 oD 131 (.extract 1 (.t 122)),
 oD 12 (.mov (.t 130)),
 oD 13 (.mov (.t 131))])
 (.keep [5, 7, 8, 9, 13]))
 (.seq (.seq (.seq (.ops none [oD 132 (.mov (.t 13)),
 oD 133 (.eq false (.leaf .int) (.t 132) (.k (.int .i64 2)))])
 (.keep [5, 7, 8, 9, 13, 133]))
 (.cond (.t 133) (.seq (.seq (.ops none [oD 134 (.mov (.t 13)),
 oD 2 (.mov (.t 134))])
 (.keep [2]))
 .ret)
 .skip))
 (.seq (.seq (.seq (.ops none [oD 135 (.mov (.t 13)),
 oD 136 (.eq false (.leaf .int) (.t 135) (.k (.int .i64 5)))])
 (.keep [5, 7, 8, 9, 13, 136]))
 (.cond (.t 136) (.seq (.ops none [oD 137 (.mov (.t 7)),
 oD 138 (.bin .add (.t 137) (.k (.int .i64 1))),
 oD 7 (.mov (.t 138))])
 (.keep [5, 7, 8, 9, 13]))
 .skip))
 (.seq (.seq (.ops none [oD 139 (.mov (.t 13)),
 oD 140 (.eq false (.leaf .int) (.t 139) (.k (.int .i64 4)))])
 (.keep [5, 7, 8, 9, 140]))
 (.cond (.t 140) (.seq (.ops none [oD 141 (.mov (.t 8)),
 oD 142 (.bin .add (.t 141) (.k (.int .i64 1))),
 oD 8 (.mov (.t 142))])
 (.keep [5, 7, 8, 9]))
 .skip))))))))
 (.seq (.ops none [oD 102 (.mov (.t 9)),
 oD 103 (.bin .add (.t 102) (.k (.int .i64 1))),
 oD 9 (.mov (.t 103))])
 (.keep [5, 7, 8, 9]))))))))
 (.seq (.seq (.seq (.ops none [oD 143 (.mov (.t 7)),
 oD 144 (.bin .gtr (.t 143) (.k (.int .i64 0)))])
 (.keep [8, 144]))
 (.cond (.t 144) (.seq (.seq (.ops none [oD 2 (.mov (.k (.int .i64 5)))])
 (.keep [2]))
 .ret)
 .skip))
 (.seq (.seq (.seq (.ops none [oD 145 (.mov (.t 8)),
 oD 146 (.bin .gtr (.t 145) (.k (.int .i64 0)))])
 (.keep [146]))
 (.cond (.t 146) (.seq (.seq (.ops none [oD 2 (.mov (.k (.int .i64 4)))])
 (.keep [2]))
 .ret)
 .skip))
 (.seq (.seq (.ops none [oD 2 (.mov (.k (.int .i64 0)))])
 (.keep [2]))
 .ret)))))))))
  results := [.tmp 2]
theorem ok55 : FnOK Tryz.prog pureL 55 a55 := ⟨Tryz.f55, [(0, [0]), (1, [0, 3]), (2, [0, 3, 17]), (4, [0, 3, 58]), (5, [2]), (6, [0, 3, 4]), (7, [0, 3, 4, 66]), (9, [0, 3, 4, 88]), (10, [2]), (8, [0, 3, 4]), (3, [0, 3]), (11, [5, 6]), (12, [5, 97]), (13, [2]), (14, [5, 7, 8]), (15, [5, 7, 8, 9]), (16, [5, 7, 8, 9, 101]), (18, [5, 7, 8, 9, 10, 11]), (19, [5, 7, 8, 9, 10, 11, 121]), (20, [2]), (21, [5, 7, 8, 9, 13]), (22, [5, 7, 8, 9, 13, 133]), (23, [2]), (24, [5, 7, 8, 9, 13, 136]), (25, [5, 7, 8, 9, 13]), (26, [5, 7, 8, 9, 140]), (27, [5, 7, 8, 9]), (17, [5, 7, 8, 9]), (28, [8, 144]), (29, [2]), (30, [146]), (31, [2]), (32, [2])], [(0, [0, 3]), (2, [0, 3, 4]), (4, [5, 7, 8, 9])], Tryz.func55, by kernel_rfl⟩
/-- stylus/stylusref05.Is -/
def a56 : AFunc where
  body :=
  (.seq (.seq (.ops none [oD 2 (.mov (.k (.bool false)))])
 (.keep [0]))
 (.seq (.seq (.ops none [oD 6 (.mov (.t 0)),
 oD 7 (.call 41 [(.t 6)]),
 oD 5 (.mov (.t 7)),
 oD 8 (.extract 0 (.t 5)),
 oD 9 (.extract 1 (.t 5)),
 oD 3 (.mov (.t 8)),
 oD 4 (.mov (.t 9))])
 (.keep [0, 3, 4]))
 (.seq (.seq (.ops none [oD 10 (.mov (.t 4)),
 oD 11 (.eq false (.leaf .int) (.t 10) (.k (.int .i64 0))),
 oD 12 (.mov (.t 11)),
 oG 13 12 true (.mov (.t 0)),
 oG 14 12 true (.mov (.t 3)),
 oG 15 12 true (.call 98 [(.t 13), (.t 14)]),
 oD 16 (.pick (.t 12) (.t 15) (.k (.bool false))),
 oD 2 (.mov (.t 16))])
 (.keep [2]))
 .ret)))
  results := [.tmp 2]
theorem ok56 : FnOK Tryz.prog pureL 56 a56 := ⟨Tryz.f56, [(0, [0]), (1, [0, 3, 4]), (2, [2])], [], Tryz.func56, by kernel_rfl⟩
/-- stylus/metric.Check -/
def a60 : AFunc where
  body :=
  (.seq (.seq (.ops none [oD 1 (.box (.t 0)),
 oD 2 (.mov (.k (.int .i64 0)))])
 (.keep [1]))
 (.seq (.seq (.ops none [oD 3 (.mov (.k (.func (.fn 99) [] [])))])
 (.keep [1, 3]))
 (.seq (.seq (.ops none [oD 5 (.fieldAddr 128 (.t 1)),
 oD 6 (.load1 (.t 5)),
 oD 7 (.bin .geq (.t 6) (.k (.int .i64 0))),
 oD 8 (.mov (.t 7)),
 oG 9 8 true (.fieldAddr 128 (.t 1)),
 oG 10 8 true (.load1 (.t 9)),
 oG 11 8 true (.bin .leq (.t 10) (.k (.int .i64 2000))),
 oD 12 (.pick (.t 8) (.t 11) (.k (.bool false))),
 oD 13 (.mov (.t 12)),
 oG 14 13 true (.fieldAddr 129 (.t 1)),
 oG 15 13 true (.load1 (.t 14)),
 oG 16 13 true (.bin .geq (.t 15) (.k (.int .i64 0))),
 oD 17 (.pick (.t 13) (.t 16) (.k (.bool false))),
 oD 18 (.mov (.t 17)),
 oG 19 18 true (.fieldAddr 129 (.t 1)),
 oG 20 18 true (.load1 (.t 19)),
 oG 21 18 true (.fieldAddr 0 (.t 1)),
 oG 22 18 true (.idxArr 128 1 (.t 21) (.k (.int .i64 32))),
 oG 23 18 true (.load1 (.t 22)),
 oG 24 18 true (.bin .lss (.t 20) (.t 23)),
 oD 25 (.pick (.t 18) (.t 24) (.k (.bool false))),
 oD 4 (.mov (.t 25))])
 (.keep [1, 3, 4]))
 (.seq (.seq (.seq (.ops none [oD 26 (.loadN 131 (.t 1)),
 oD 27 (.call 101 [(.t 26)]),
 oD 28 (.un .not (.t 27)),
 oD 29 (.mov (.t 28)),
 oG 30 29 false (.mov (.t 4)),
 oG 31 29 false (.un .not (.t 30)),
 oD 32 (.pick (.t 29) (.k (.bool true)) (.t 31)),
 oD 33 (.mov (.t 32)),
 oG 34 33 false (.fieldAddr 130 (.t 1)),
 oG 35 33 false (.load1 (.t 34)),
 oG 36 33 false (.len .slice (.t 35)),
 oG 37 33 false (.bin .gtr (.t 36) (.k (.int .i64 500))),
 oD 38 (.pick (.t 33) (.k (.bool true)) (.t 37)),
 oD 39 (.mov (.t 38)),
 oG 40 39 false (.fieldAddr 130 (.t 1)),
 oG 41 39 false (.load1 (.t 40)),
 oG 42 39 false (.mov (.t 3)),
 oG 43 39 false (.call 102 [(.t 41), (.t 42)]),
 oD 44 (.pick (.t 39) (.k (.bool true)) (.t 43))])
 (.keep [44]))
 (.cond (.t 44) (.seq (.seq (.ops none [oD 2 (.mov (.k (.int .i64 7)))])
 (.keep [2]))
 .ret)
 .skip))
 (.seq (.seq (.ops none [oD 2 (.mov (.k (.int .i64 0)))])
 (.keep [2]))
 .ret)))))
  results := [.tmp 2]
theorem ok60 : FnOK Tryz.prog pureL 60 a60 := ⟨Tryz.f60, [(0, [1]), (1, [1, 3]), (2, [1, 3, 4]), (3, [44]), (4, [2]), (5, [2])], [], Tryz.func60, by kernel_rfl⟩
/-- stylus/lay.Check -/
def a61 : AFunc where
  body :=
  (.seq (.seq (.ops none [oD 1 (.box (.t 0)),
 oD 2 (.mov (.k (.int .i64 0)))])
 (.keep [1]))
 (.seq (.seq (.ops none [oD 3 (.mov (.k (.func (.fn 103) [] [])))])
 (.keep [1, 3]))
 (.seq (.seq (.ops none [oD 4 (.mov (.k (.func (.fn 104) [] [])))])
 (.keep [1, 3, 4]))
 (.seq (.seq (.ops none [oD 7 (.fieldAddr 4 (.t 1)),
 oD 8 (.load1 (.t 7)),
 oD 9 (.call 106 [(.t 8), (.k (.str [32]))]),
 oD 5 (.mov (.t 9))])
 (.keep [1, 3, 4, 5]))
 (.seq (.seq (.ops none [oD 10 (.mov (.t 3)),
 oD 11 (.fieldAddr 0 (.t 1)),
 oD 12 (.load1 (.t 11)),
 oD 13 (.callv (.t 10) [(.t 12), (.k (.int .i64 40000)), (.k (.int .i64 1000000))]),
 oD 14 (.mov (.t 13)),
 oG 15 14 true (.mov (.t 3)),
 oG 16 14 true (.fieldAddr 1 (.t 1)),
 oG 17 14 true (.load1 (.t 16)),
 oG 18 14 true (.callv (.t 15) [(.t 17), (.k (.int .i64 12)), (.k (.int .i64 200))]),
 oD 19 (.pick (.t 14) (.t 18) (.k (.bool false))),
 oD 20 (.mov (.t 19)),
 oG 21 20 true (.mov (.t 3)),
 oG 22 20 true (.fieldAddr 2 (.t 1)),
 oG 23 20 true (.load1 (.t 22)),
 oG 24 20 true (.callv (.t 21) [(.t 23), (.k (.int .i64 20)), (.k (.int .i64 200))]),
 oD 25 (.pick (.t 20) (.t 24) (.k (.bool false))),
 oD 26 (.mov (.t 25)),
 oG 27 26 true (.mov (.t 3)),
 oG 28 26 true (.fieldAddr 3 (.t 1)),
 oG 29 26 true (.load1 (.t 28)),
 oG 30 26 true (.callv (.t 27) [(.t 29), (.k (.int .i64 5)), (.k (.int .i64 200))]),
 oD 31 (.pick (.t 26) (.t 30) (.k (.bool false))),
 oD 6 (.mov (.t 31))])
 (.keep [1, 4, 5, 6]))
 (.seq (.seq (.seq (.ops none [oD 32 (.mov (.t 6)),
 oD 33 (.un .not (.t 32)),
 oD 34 (.mov (.t 33)),
 oG 35 34 false (.fieldAddr 4 (.t 1)),
 oG 36 34 false (.load1 (.t 35)),
 oG 37 34 false (.len .str (.t 36)),
 oG 38 34 false (.bin .gtr (.t 37) (.k (.int .i64 30))),
 oD 39 (.pick (.t 34) (.k (.bool true)) (.t 38)),
 oD 40 (.mov (.t 39)),
 oG 41 40 false (.mov (.t 5)),
 oG 42 40 false (.mov (.t 4)),
 oG 43 40 false (.call 107 [(.t 41), (.t 42)]),
 oD 44 (.pick (.t 40) (.k (.bool true)) (.t 43))])
 (.keep [44]))
 (.cond (.t 44) (.seq (.seq (.ops none [oD 2 (.mov (.k (.int .i64 8)))])
 (.keep [2]))
 .ret)
 .skip))
 (.seq (.seq (.ops none [oD 2 (.mov (.k (.int .i64 0)))])
 (.keep [2]))
 .ret)))))))
  results := [.tmp 2]
theorem ok61 : FnOK Tryz.prog pureL 61 a61 := ⟨Tryz.f61, [(0, [1]), (1, [1, 3]), (2, [1, 3, 4]), (3, [1, 3, 4, 5]), (4, [1, 4, 5, 6]), (5, [44]), (6, [2]), (7, [2])], [], Tryz.func61, by kernel_rfl⟩
/-- (*stylus/lay.layout).close -/
def a62 : AFunc where
  body :=
  (.seq (.seq (.ops none [oD 4 (.mov (.k (.int .i64 0)))])
 (.keep [0, 1]))
 (.seq (.seq (.ops none [oD 5 (.mov (.k (.int .i64 0)))])
 (.keep [0, 1, 5]))
 (.seq (.seq (.ops none [oD 7 (.mov (.t 1)),
 oD 6 (.mov (.t 7))])
 (.keep [0, 5, 6]))
 (.block 0 (.loop (.seq (.keep [0, 5, 6])
 (.seq (.block 1 (.seq (.seq (.seq (.ops none [oD 10 (.mov (.t 0)),
 oD 11 (.nilCheck (.t 10)),
 oD 12 (.fieldAddr 5 (.t 11)),
 oD 13 (.load1 (.t 12)),
 oD 14 (.mov (.t 6)),
 oD 15 (.idxSl 3 (.t 13) (.t 14)),
 oD 16 (.fieldAddr 0 (.t 15)),
 oD 17 (.load1 (.t 16))])
 (.keep [0, 5, 6, 17]))
 (.block 2 (.seq (.seq (.ops none [oD 19 (.eq false (.leaf .int) (.t 17) (.k (.int .i64 2))),
 oD 18 (.mov (.t 19))])
 (.keep [0, 5, 6, 17, 18]))
 (.cond (.t 18) (.seq (.ops none [oD 20 (.mov (.t 5)),
 oD 21 (.bin .add (.t 20) (.k (.int .i64 1))),
 oD 5 (.mov (.t 21))])
 (.keep [0, 5, 6]))
 (.seq (.seq (.ops none [oD 23 (.eq false (.leaf .int) (.t 17) (.k (.int .i64 3))),
 oD 22 (.mov (.t 23))])
 (.keep [0, 5, 6, 22]))
 (.cond (.t 22) (.seq (.ops none [oD 24 (.mov (.t 5)),
 oD 25 (.bin .sub (.t 24) (.k (.int .i64 1))),
 oD 5 (.mov (.t 25))])
 (.keep [0, 5, 6]))
 .skip))))))
 (.seq (.seq (.ops none [oD 26 (.mov (.t 5)),
 oD 27 (.eq false (.leaf .int) (.t 26) (.k (.int .i64 0)))])
 (.keep [0, 5, 6, 27]))
 (.cond (.t 27) (.seq (.seq (.ops none [oD 28 (.mov (.t 6)),
 oD 4 (.mov (.t 28))])
 (.keep [4]))
 .ret)
 .skip))))
 (.seq (.ops none [oD 8 (.mov (.t 6)),
 oD 9 (.bin .add (.t 8) (.k (.int .i64 1))),
 oD 6 (.mov (.t 9))])
 (.keep [0, 5, 6])))))))))
  results := [.tmp 4]
theorem ok62 : FnOK Tryz.prog pureL 62 a62 := ⟨Tryz.f62, [(0, [0, 1]), (1, [0, 1, 5]), (2, [0, 5, 6]), (4, [0, 5, 6, 17]), (5, [0, 5, 6, 17, 18]), (7, [0, 5, 6, 22]), (8, [0, 5, 6]), (6, [0, 5, 6]), (9, [0, 5, 6, 27]), (10, [4]), (3, [0, 5, 6])], [(0, [0, 5, 6])], Tryz.func62, by kernel_rfl⟩
/-- (*stylus/lay.layout).block -/
def a63 : AFunc where
  body :=
  (.seq (.seq (.ops none [oD 2 (.box (.t 0))])
 (.keep [1, 2]))
 (.seq (.seq (.ops none [oD 4 (.alloc [.nilfunc])])
 (.keep [1, 2, 4]))
 (.seq (.seq (.ops none [oD 7 (.makeFunc 108 [] [(.t 2), (.t 4)]),
 oN (.store 1 (.t 4) (.t 7))])
 (.keep [1, 2, 4]))
 (.seq (.seq (.ops none [oD 8 (.load1 (.t 2)),
 oD 9 (.nilCheck (.t 8)),
 oD 10 (.fieldAddr 5 (.t 9)),
 oD 11 (.load1 (.t 10)),
 oD 12 (.mov (.t 1)),
 oD 13 (.idxSl 3 (.t 11) (.t 12)),
 oD 14 (.fieldAddr 1 (.t 13)),
 oD 15 (.load1 (.t 14))])
 (.keep [1, 2, 4, 15]))
 (.block 0 (.seq (.seq (.ops none [oD 25 (.eq false (.leaf .int) (.t 15) (.k (.int .u8 107))),
 oD 24 (.mov (.t 25))])
 (.keep [1, 2, 4, 15, 24]))
 (.cond (.t 24) (.ops (some []) [oD 26 (.load1 (.t 2)),
 oD 27 (.load1 (.t 2)),
 oD 28 (.nilCheck (.t 27)),
 oD 29 (.fieldAddr 137 (.t 28)),
 oD 30 (.load1 (.t 29)),
 oD 31 (.build [.nilslice, (.int .i64 0), (.int .i64 0), (.int .i64 0), (.bool false), .nilslice] [(4, 1, (.k (.bool true)))]),
 oD 32 (.buildSlice [.nilslice, (.int .i64 0), (.int .i64 0), (.int .i64 0), (.bool false), .nilslice] 6 1 [(0, 6, (.t 31))]),
 oD 33 (.appendX 6 (.t 30) (.t 32)),
 oD 34 (.nilCheck (.t 26)),
 oD 35 (.fieldAddr 137 (.t 34)),
 oN (.store 1 (.t 35) (.t 33))])
 (.seq (.seq (.ops none [oD 37 (.eq false (.leaf .int) (.t 15) (.k (.int .u8 108))),
 oD 36 (.mov (.t 37))])
 (.keep [1, 2, 4, 15, 36]))
 (.cond (.t 36) (.seq (.ops none [oD 38 (.load1 (.t 4)),
 oD 39 (.mov (.t 1)),
 oD 40 (.callv (.t 38) [(.t 39), (.k (.int .i64 0))])])
 (.keep []))
 (.seq (.seq (.ops none [oD 42 (.eq false (.leaf .int) (.t 15) (.k (.int .u8 116))),
 oD 41 (.mov (.t 42))])
 (.keep [1, 2, 41]))
 (.cond (.t 41) (.seq (.seq (.ops none [oD 43 (.load1 (.t 2)),
 oD 44 (.mov (.t 1)),
 oD 45 (.call 109 [(.t 43), (.t 44), (.k (.int .u8 114))]),
 oD 46 (.len .slice (.t 45)),
 oD 47 (.mov (.k (.int .i64 0)))])
 (.keep [2, 45, 46, 47]))
 (.block 1 (.loop (.seq (.keep [2, 45, 46, 47])
 (.seq (.seq (.ops none [oD 48 (.bin .lss (.t 47) (.t 46))])
 (.keep [2, 45, 46, 47, 48]))
 (.seq (.cond (.t 48) .skip
 (.exit 1))
 (.seq (.block 2 (.seq (.seq (.ops none [oD 49 (.idxSl 1 (.t 45) (.t 47)),
 oD 50 (.load1 (.t 49)),
 oD 6 (.mov (.t 50))])
 (.keep [2, 6, 45, 46, 47]))
 (.seq (.ops none [oD 51 (.load1 (.t 2)),
 oD 52 (.mov (.t 6)),
 oD 53 (.call 111 [(.t 51), (.t 52)])])
 (.keep [2, 45, 46, 47]))))
 (.seq (.ops none [oD 54 (.bin .add (.t 47) (.k (.int .i64 1))),
 oD 47 (.mov (.t 54))])
 (.keep [2, 45, 46, 47])))))))))
 (.ops (some []) [oD 16 (.load1 (.t 2)),
 oD 17 (.mov (.t 1)),
 oD 18 (.load1 (.t 2)),
 oD 19 (.nilCheck (.t 18)),
 oD 20 (.fieldAddr 0 (.t 19)),
 oD 21 (.fieldAddr 0 (.t 20)),
 oD 22 (.load1 (.t 21)),
 oD 23 (.call 110 [(.t 16), (.t 17), (.t 22), (.k (.int .i64 0))])]))))))))))))
  results := []
theorem ok63 : FnOK Tryz.prog pureL 63 a63 := ⟨Tryz.f63, [(0, [1, 2]), (1, [1, 2, 4]), (2, [1, 2, 4]), (3, [1, 2, 4, 15]), (5, [1, 2, 4, 15, 24]), (7, [1, 2, 4, 15, 36]), (9, [1, 2, 41]), (4, []), (10, [2, 45, 46, 47]), (11, [2, 45, 46, 47, 48]), (12, [2, 6, 45, 46, 47]), (13, [2, 45, 46, 47]), (14, [2, 45, 46, 47]), (8, []), (6, [])], [(1, [2, 45, 46, 47])], Tryz.func63, by kernel_rfl⟩
/-- stylus/pages.Fill$1 -/
def a64 : AFunc where
  body :=
  (.seq (.ops (some [1]) [oD 3 (.fieldAddr 1 (.t 1)),
 oD 4 (.load1 (.t 3)),
 oD 5 (.fieldAddr 0 (.t 1)),
 oD 6 (.load1 (.t 5)),
 oD 7 (.mov (.t 0)),
 oD 8 (.sliceSl 6 (.t 6) none (some (.t 7))),
 ⟨(some 9), none, .call 65 [(.t 8)], [⟨4, none, .load1 (.t 3)⟩]⟩,
 oD 10 (.buildSlice [.nilslice] 1 1 [(0, 1, (.t 9))]),
 oD 11 (.append 1 (.t 4) (.t 10)),
 oD 12 (.fieldAddr 1 (.t 1)),
 oN (.store 1 (.t 12) (.t 11))])
 (.seq (.ops none [oD 13 (.fieldAddr 0 (.t 1)),
 oN (.store 1 (.t 13) (.k .nilslice))])
 (.keep [])))
  results := []
theorem ok64 : FnOK Tryz.prog pureL 64 a64 := ⟨Tryz.f64, [(0, [1]), (1, [])], [], Tryz.func64, by kernel_rfl⟩
/-- slices.Clone[stylus/pages.sheet,stylus/api.Strip] -/
def a65 : AFunc where
  body :=
  (.seq (.seq (.ops none [oD 2 (.mov (.k .nilslice))])
 (.keep [0]))
 (.seq (.seq (.seq (.ops none [oD 3 (.mov (.t 0)),
 oD 4 (.eq false .slice (.t 3) (.k .nilslice))])
 (.keep [0, 4]))
 (.cond (.t 4) (.seq (.seq (.ops none [oD 2 (.mov (.k .nilslice))])
 (.keep [2]))
 .ret)
 .skip))
 (.seq (.seq (.ops none [oD 5 (.buildSlice [] 6 0 []),
 oD 6 (.mov (.t 0)),
 oD 7 (.append 6 (.t 5) (.t 6)),
 oD 2 (.mov (.t 7))])
 (.keep [2]))
 .ret)))
  results := [.tmp 2]
theorem ok65 : FnOK Tryz.prog pureL 65 a65 := ⟨Tryz.f65, [(0, [0]), (1, [0, 4]), (2, [2]), (3, [2])], [], Tryz.func65, by kernel_rfl⟩
/-- (stylus/pages.sheet).high -/
def a66 : AFunc where
  body :=
  (.seq (.seq (.ops none [oD 2 (.mov (.k (.int .i64 0)))])
 (.keep [0]))
 (.seq (.seq (.ops none [oD 3 (.mov (.k (.int .i64 0))),
 oD 4 (.mov (.k (.int .i64 0)))])
 (.keep [0, 3, 4]))
 (.seq (.seq (.seq (.ops none [oD 7 (.mov (.t 0)),
 oD 8 (.len .slice (.t 7)),
 oD 9 (.mov (.k (.int .i64 0)))])
 (.keep [3, 4, 7, 8, 9]))
 (.block 0 (.loop (.seq (.keep [3, 4, 7, 8, 9])
 (.seq (.seq (.ops none [oD 10 (.bin .lss (.t 9) (.t 8))])
 (.keep [3, 4, 7, 8, 9, 10]))
 (.seq (.cond (.t 10) .skip
 (.exit 0))
 (.seq (.block 1 (.seq (.seq (.ops none [oD 11 (.idxSl 6 (.t 7) (.t 9)),
 oD 12 (.loadN 6 (.t 11)),
 oD 6 (.alloc [.nilslice, (.int .i64 0), (.int .i64 0), (.int .i64 0), (.bool false), .nilslice]),
 oN (.store 6 (.t 6) (.t 12))])
 (.keep [3, 4, 6, 7, 8, 9]))
 (.seq (.seq (.ops none [oD 13 (.mov (.t 3)),
 oD 14 (.fieldAddr 5 (.t 6)),
 oD 15 (.load1 (.t 14)),
 oD 16 (.len .slice (.t 15)),
 oD 17 (.bin .add (.k (.int .i64 1)) (.t 16)),
 oD 18 (.bin .add (.t 13) (.t 17)),
 oD 3 (.mov (.t 18))])
 (.keep [3, 4, 6, 7, 8, 9]))
 (.seq (.seq (.ops none [oD 19 (.fieldAddr 5 (.t 6)),
 oD 20 (.load1 (.t 19)),
 oD 21 (.len .slice (.t 20)),
 oD 22 (.bin .gtr (.t 21) (.k (.int .i64 0)))])
 (.keep [3, 4, 7, 8, 9, 22]))
 (.cond (.t 22) (.seq (.ops none [oD 4 (.mov (.k (.int .i64 1)))])
 (.keep [3, 4, 7, 8, 9]))
 .skip)))))
 (.seq (.ops none [oD 23 (.bin .add (.t 9) (.k (.int .i64 1))),
 oD 9 (.mov (.t 23))])
 (.keep [3, 4, 7, 8, 9])))))))))
 (.seq (.seq (.ops none [oD 24 (.mov (.t 3)),
 oD 25 (.mov (.t 4)),
 oD 26 (.bin .add (.t 24) (.t 25)),
 oD 2 (.mov (.t 26))])
 (.keep [2]))
 .ret))))
  results := [.tmp 2]
theorem ok66 : FnOK Tryz.prog pureL 66 a66 := ⟨Tryz.f66, [(0, [0]), (1, [0, 3, 4]), (2, [3, 4, 7, 8, 9]), (3, [3, 4, 7, 8, 9, 10]), (4, [3, 4, 6, 7, 8, 9]), (5, [3, 4, 6, 7, 8, 9]), (6, [3, 4, 7, 8, 9, 22]), (7, [3, 4, 7, 8, 9]), (8, [3, 4, 7, 8, 9]), (9, [2])], [(0, [3, 4, 7, 8, 9])], Tryz.func66, by kernel_rfl⟩
/-- (*stylus/pages.filler).cut -/
def a67 : AFunc where
  body :=
  (.seq (.seq (.ops none [oD 2 (.mov (.k (.int .i64 0)))])
 (.keep [0]))
 (.seq (.seq (.seq (.ops none [oD 6 (.build [(.int .i64 0), (.int .i64 0)] [(0, 1, (.k (.int .i64 0))), (1, 1, (.k (.int .i64 1)))]),
 oD 7 (.mov (.k (.int .i64 0)))])
 (.keep [0, 6, 7]))
 (.block 0 (.loop (.seq (.keep [0, 6, 7])
 (.seq (.seq (.ops none [oD 8 (.bin .lss (.t 7) (.k (.int .i64 2)))])
 (.keep [0, 6, 7, 8]))
 (.seq (.cond (.t 8) .skip
 (.exit 0))
 (.seq (.block 1 (.seq (.seq (.ops none [oD 9 (.index 2 1 false (.t 6) (.t 7)),
 oD 4 (.mov (.t 9))])
 (.keep [0, 4, 6, 7]))
 (.seq (.seq (.ops none [oD 10 (.mov (.t 0)),
 oD 11 (.nilCheck (.t 10)),
 oD 12 (.fieldAddr 0 (.t 11)),
 oD 13 (.load1 (.t 12)),
 oD 14 (.mov (.t 4)),
 oD 15 (.call 112 [(.t 13), (.t 14)]),
 oD 5 (.mov (.t 15))])
 (.keep [0, 5, 6, 7]))
 (.seq (.seq (.ops none [oD 16 (.mov (.t 5)),
 oD 17 (.bin .geq (.t 16) (.k (.int .i64 0)))])
 (.keep [0, 5, 6, 7, 17]))
 (.cond (.t 17) (.seq (.seq (.ops none [oD 18 (.mov (.t 5)),
 oD 19 (.bin .add (.t 18) (.k (.int .i64 1))),
 oD 2 (.mov (.t 19))])
 (.keep [2]))
 .ret)
 .skip)))))
 (.seq (.ops none [oD 20 (.bin .add (.t 7) (.k (.int .i64 1))),
 oD 7 (.mov (.t 20))])
 (.keep [0, 6, 7])))))))))
 (.seq (.seq (.ops none [oD 21 (.mov (.t 0)),
 oD 22 (.nilCheck (.t 21)),
 oD 23 (.fieldAddr 0 (.t 22)),
 oD 24 (.load1 (.t 23)),
 oD 25 (.len .slice (.t 24)),
 oD 2 (.mov (.t 25))])
 (.keep [2]))
 .ret)))
  results := [.tmp 2]
theorem ok67 : FnOK Tryz.prog pureL 67 a67 := ⟨Tryz.f67, [(0, [0]), (1, [0, 6, 7]), (2, [0, 6, 7, 8]), (3, [0, 4, 6, 7]), (4, [0, 5, 6, 7]), (5, [0, 5, 6, 7, 17]), (6, [2]), (7, [0, 6, 7]), (8, [2])], [(0, [0, 6, 7])], Tryz.func67, by kernel_rfl⟩
/-- stylus/lines.Moved -/
def a68 : AFunc where
  body :=
  (.seq (.seq (.ops none [oD 4 (.mov (.k .nilslice))])
 (.keep [0, 1]))
 (.seq (.seq (.ops none [oD 8 (.mov (.t 0)),
 oD 9 (.call 113 [(.t 8)]),
 oD 5 (.mov (.t 9))])
 (.keep [0, 1, 5]))
 (.seq (.seq (.seq (.ops none [oD 10 (.mov (.t 5)),
 oD 11 (.len .slice (.t 10)),
 oD 12 (.mov (.k (.int .i64 0)))])
 (.keep [0, 1, 5, 11, 12]))
 (.block 0 (.loop (.seq (.keep [0, 1, 5, 11, 12])
 (.seq (.seq (.ops none [oD 13 (.bin .lss (.t 12) (.t 11))])
 (.keep [0, 1, 5, 11, 12, 13]))
 (.seq (.cond (.t 13) .skip
 (.exit 0))
 (.seq (.block 1 (.seq (.seq (.ops none [oD 14 (.mov (.t 12)),
 oD 6 (.mov (.t 14))])
 (.keep [0, 1, 5, 6, 11, 12]))
 (.seq (.seq (.ops none [oD 15 (.mov (.t 5)),
 oD 16 (.mov (.t 6)),
 oD 17 (.mov (.t 0)),
 oD 18 (.mov (.t 6)),
 oD 19 (.idxSl 3 (.t 17) (.t 18)),
 oD 20 (.fieldAddr 0 (.t 19)),
 oD 21 (.load1 (.t 20)),
 oD 22 (.call 114 [(.t 21)]),
 oD 23 (.idxSl 3 (.t 15) (.t 16)),
 oD 24 (.fieldAddr 0 (.t 23)),
 oN (.store 1 (.t 24) (.t 22))])
 (.keep [0, 1, 5, 6, 11, 12]))
 (.seq (.seq (.ops none [oD 25 (.mov (.t 5)),
 oD 26 (.mov (.t 6)),
 oD 27 (.idxSl 3 (.t 25) (.t 26)),
 oD 28 (.fieldAddr 0 (.t 27)),
 oD 29 (.load1 (.t 28)),
 oD 30 (.len .slice (.t 29)),
 oD 31 (.mov (.k (.int .i64 0)))])
 (.keep [0, 1, 5, 6, 11, 12, 30, 31]))
 (.block 2 (.loop (.seq (.keep [0, 1, 5, 6, 11, 12, 30, 31])
 (.seq (.seq (.ops none [oD 32 (.bin .lss (.t 31) (.t 30))])
 (.keep [0, 1, 5, 6, 11, 12, 30, 31, 32]))
 (.seq (.cond (.t 32) .skip
 (.exit 2))
 (.seq (.block 3 (.seq (.seq (.ops none [oD 33 (.mov (.t 31)),
 oD 7 (.mov (.t 33))])
 (.keep [0, 1, 5, 6, 7, 11, 12, 30, 31]))
 (.seq (.ops none [oD 34 (.mov (.t 5)),
 oD 35 (.mov (.t 6)),
 oD 36 (.idxSl 3 (.t 34) (.t 35)),
 oD 37 (.fieldAddr 0 (.t 36)),
 oD 38 (.load1 (.t 37)),
 oD 39 (.mov (.t 7)),
 oD 40 (.idxSl 4 (.t 38) (.t 39)),
 oD 41 (.fieldAddr 0 (.t 40)),
 oD 42 (.load1 (.t 41)),
 oD 43 (.mov (.t 1)),
 oD 44 (.bin .add (.t 42) (.t 43)),
 oD 45 (.idxSl 4 (.t 38) (.t 39)),
 oD 46 (.fieldAddr 0 (.t 45)),
 oN (.store 1 (.t 46) (.t 44))])
 (.keep [0, 1, 5, 6, 11, 12, 30, 31]))))
 (.seq (.ops none [oD 47 (.bin .add (.t 31) (.k (.int .i64 1))),
 oD 31 (.mov (.t 47))])
 (.keep [0, 1, 5, 6, 11, 12, 30, 31]))))))))))))
 (.seq (.ops none [oD 48 (.bin .add (.t 12) (.k (.int .i64 1))),
 oD 12 (.mov (.t 48))])
 (.keep [0, 1, 5, 11, 12])))))))))
 (.seq (.seq (.ops none [oD 49 (.mov (.t 5)),
 oD 4 (.mov (.t 49))])
 (.keep [4]))
 .ret))))
  results := [.tmp 4]
theorem ok68 : FnOK Tryz.prog pureL 68 a68 := ⟨Tryz.f68, [(0, [0, 1]), (1, [0, 1, 5]), (2, [0, 1, 5, 11, 12]), (3, [0, 1, 5, 11, 12, 13]), (4, [0, 1, 5, 6, 11, 12]), (5, [0, 1, 5, 6, 11, 12]), (6, [0, 1, 5, 6, 11, 12, 30, 31]), (7, [0, 1, 5, 6, 11, 12, 30, 31, 32]), (8, [0, 1, 5, 6, 7, 11, 12, 30, 31]), (9, [0, 1, 5, 6, 11, 12, 30, 31]), (10, [0, 1, 5, 6, 11, 12, 30, 31]), (11, [0, 1, 5, 11, 12]), (12, [4])], [(0, [0, 1, 5, 11, 12]), (2, [0, 1, 5, 6, 11, 12, 30, 31])], Tryz.func68, by kernel_rfl⟩
/-- stylus/pages.shown -/
def a69 : AFunc where
  body :=
  (.seq (.seq (.ops none [oD 4 (.mov (.k .nilslice))])
 (.keep [0, 1]))
 (.seq (.seq (.ops none [oD 18 (.mov (.t 0)),
 oD 19 (.len .slice (.t 18)),
 oD 20 (.makeSlice [(.int .i64 0)] 1 (.t 19) (.t 19)),
 oD 5 (.mov (.t 20))])
 (.keep [0, 1, 5]))
 (.seq (.seq (.ops none [oD 6 (.mov (.k .nilslice))])
 (.keep [0, 1, 5, 6]))
 (.seq (.seq (.seq (.ops none [oD 21 (.mov (.t 1)),
 oD 22 (.len .slice (.t 21)),
 oD 23 (.mov (.k (.int .i64 0)))])
 (.keep [0, 5, 6, 21, 22, 23]))
 (.block 0 (.loop (.seq (.keep [0, 5, 6, 21, 22, 23])
 (.seq (.seq (.ops none [oD 24 (.bin .lss (.t 23) (.t 22))])
 (.keep [0, 5, 6, 21, 22, 23, 24]))
 (.seq (.cond (.t 24) .skip
 (.exit 0))
 (.seq (.block 1 (.seq (.seq (.ops none [oD 25 (.mov (.t 23)),
 oD 26 (.idxSl 1 (.t 21) (.t 23)),
 oD 27 (.load1 (.t 26)),
 oD 7 (.mov (.t 25)),
 oD 8 (.mov (.t 27))])
 (.keep [0, 5, 6, 7, 8, 21, 22, 23]))
 (.seq (.seq (.ops none [oD 28 (.mov (.t 8)),
 oD 29 (.len .slice (.t 28)),
 oD 30 (.mov (.k (.int .i64 0)))])
 (.keep [0, 5, 6, 7, 21, 22, 23, 28, 29, 30]))
 (.block 2 (.loop (.seq (.keep [0, 5, 6, 7, 21, 22, 23, 28, 29, 30])
 (.seq (.seq (.ops none [oD 31 (.bin .lss (.t 30) (.t 29))])
 (.keep [0, 5, 6, 7, 21, 22, 23, 28, 29, 30, 31]))
 (.seq (.cond (.t 31) .skip
 (.exit 2))
 (.seq (.block 3 (.seq (.seq (.ops none [oD 32 (.idxSl 6 (.t 28) (.t 30)),
 oD 33 (.loadN 6 (.t 32)),
 oD 10 (.alloc [.nilslice, (.int .i64 0), (.int .i64 0), (.int .i64 0), (.bool false), .nilslice]),
 oN (.store 6 (.t 10) (.t 33))])
 (.keep [0, 5, 6, 7, 10, 21, 22, 23, 28, 29, 30]))
 (.seq (.seq (.seq (.ops none [oD 34 (.fieldAddr 4 (.t 10)),
 oD 35 (.load1 (.t 34))])
 (.keep [0, 5, 6, 7, 10, 21, 22, 23, 28, 29, 30, 35]))
 (.cond (.t 35) (.seq (.ops none [oD 36 (.mov (.t 6)),
 oD 37 (.mov (.t 7)),
 oD 38 (.bin .add (.t 37) (.k (.int .i64 1))),
 oD 39 (.buildSlice [(.int .i64 0)] 1 1 [(0, 1, (.t 38))]),
 oD 40 (.append 1 (.t 36) (.t 39)),
 oD 6 (.mov (.t 40))])
 (.keep [0, 5, 6, 7, 10, 21, 22, 23, 28, 29, 30]))
 .skip))
 (.seq (.seq (.ops none [oD 41 (.fieldAddr 0 (.t 10)),
 oD 42 (.loadN 3 (.t 41)),
 oD 43 (.buildSlice [.nilslice, (.int .i64 0), (.int .i64 0)] 3 1 [(0, 3, (.t 42))]),
 oD 44 (.fieldAddr 5 (.t 10)),
 oD 45 (.load1 (.t 44)),
 oD 46 (.append 3 (.t 43) (.t 45)),
 oD 47 (.len .slice (.t 46)),
 oD 48 (.mov (.k (.int .i64 0)))])
 (.keep [0, 5, 6, 7, 21, 22, 23, 28, 29, 30, 46, 47, 48]))
 (.block 4 (.loop (.seq (.keep [0, 5, 6, 7, 21, 22, 23, 28, 29, 30, 46, 47, 48])
 (.seq (.seq (.ops none [oD 49 (.bin .lss (.t 48) (.t 47))])
 (.keep [0, 5, 6, 7, 21, 22, 23, 28, 29, 30, 46, 47, 48, 49]))
 (.seq (.cond (.t 49) .skip
 (.exit 4))
 (.seq (.block 5 (.seq (.seq (.ops none [oD 50 (.idxSl 3 (.t 46) (.t 48)),
 oD 51 (.loadN 3 (.t 50)),
 oD 12 (.alloc [.nilslice, (.int .i64 0), (.int .i64 0)]),
 oN (.store 3 (.t 12) (.t 51))])
 (.keep [0, 5, 6, 7, 12, 21, 22, 23, 28, 29, 30, 46, 47, 48]))
 (.seq (.seq (.ops none [oD 52 (.fieldAddr 0 (.t 12)),
 oD 53 (.load1 (.t 52)),
 oD 54 (.len .slice (.t 53)),
 oD 55 (.mov (.k (.int .i64 0)))])
 (.keep [0, 5, 6, 7, 21, 22, 23, 28, 29, 30, 46, 47, 48, 53, 54, 55]))
 (.block 6 (.loop (.seq (.keep [0, 5, 6, 7, 21, 22, 23, 28, 29, 30, 46, 47, 48, 53, 54, 55])
 (.seq (.seq (.ops none [oD 56 (.bin .lss (.t 55) (.t 54))])
 (.keep [0, 5, 6, 7, 21, 22, 23, 28, 29, 30, 46, 47, 48, 53, 54, 55, 56]))
 (.seq (.cond (.t 56) .skip
 (.exit 6))
 (.seq (.block 7 (.seq (.seq (.ops none [oD 57 (.idxSl 4 (.t 53) (.t 55)),
 oD 58 (.loadN 4 (.t 57)),
 oD 14 (.alloc [(.int .i64 0), (.int .u8 0), (.int .i64 0), (.int .i64 0)]),
 oN (.store 4 (.t 14) (.t 58))])
 (.keep [0, 5, 6, 7, 14, 21, 22, 23, 28, 29, 30, 46, 47, 48, 53, 54, 55]))
 (.seq (.seq (.ops none [oD 59 (.fieldAddr 2 (.t 14)),
 oD 60 (.load1 (.t 59)),
 oD 61 (.eq true (.leaf .int) (.t 60) (.k (.int .i64 1)))])
 (.keep [0, 5, 6, 7, 14, 21, 22, 23, 28, 29, 30, 46, 47, 48, 53, 54, 55, 61]))
 (.cond (.t 61) (.seq (.ops none [oD 62 (.mov (.t 5)),
 oD 63 (.fieldAddr 3 (.t 14)),
 oD 64 (.load1 (.t 63)),
 oD 65 (.mov (.t 7)),
 oD 66 (.bin .add (.t 65) (.k (.int .i64 1))),
 oD 67 (.idxSl 1 (.t 62) (.t 64)),
 oN (.store 1 (.t 67) (.t 66))])
 (.keep [0, 5, 6, 7, 21, 22, 23, 28, 29, 30, 46, 47, 48, 53, 54, 55]))
 .skip))))
 (.seq (.ops none [oD 68 (.bin .add (.t 55) (.k (.int .i64 1))),
 oD 55 (.mov (.t 68))])
 (.keep [0, 5, 6, 7, 21, 22, 23, 28, 29, 30, 46, 47, 48, 53, 54, 55])))))))))))
 (.seq (.ops none [oD 69 (.bin .add (.t 48) (.k (.int .i64 1))),
 oD 48 (.mov (.t 69))])
 (.keep [0, 5, 6, 7, 21, 22, 23, 28, 29, 30, 46, 47, 48]))))))))))))
 (.seq (.ops none [oD 70 (.bin .add (.t 30) (.k (.int .i64 1))),
 oD 30 (.mov (.t 70))])
 (.keep [0, 5, 6, 7, 21, 22, 23, 28, 29, 30])))))))))))
 (.seq (.ops none [oD 71 (.bin .add (.t 23) (.k (.int .i64 1))),
 oD 23 (.mov (.t 71))])
 (.keep [0, 5, 6, 21, 22, 23])))))))))
 (.seq (.seq (.ops none [oD 15 (.mov (.k (.int .i64 0)))])
 (.keep [0, 5, 6, 15]))
 (.seq (.seq (.seq (.ops none [oD 72 (.mov (.t 0)),
 oD 73 (.len .slice (.t 72)),
 oD 74 (.mov (.k (.int .i64 0)))])
 (.keep [5, 6, 15, 72, 73, 74]))
 (.block 8 (.loop (.seq (.keep [5, 6, 15, 72, 73, 74])
 (.seq (.seq (.ops none [oD 75 (.bin .lss (.t 74) (.t 73))])
 (.keep [5, 6, 15, 72, 73, 74, 75]))
 (.seq (.cond (.t 75) .skip
 (.exit 8))
 (.seq (.block 9 (.seq (.seq (.ops none [oD 76 (.mov (.t 74)),
 oD 77 (.idxSl 3 (.t 72) (.t 74)),
 oD 78 (.loadN 3 (.t 77)),
 oD 17 (.alloc [(.int .i64 0), (.int .u8 0), (.int .i64 0)]),
 oD 16 (.mov (.t 76)),
 oN (.store 3 (.t 17) (.t 78))])
 (.keep [5, 6, 15, 16, 17, 72, 73, 74]))
 (.seq (.seq (.ops none [oD 79 (.fieldAddr 0 (.t 17)),
 oD 80 (.load1 (.t 79)),
 oD 81 (.eq false (.leaf .int) (.t 80) (.k (.int .i64 2))),
 oD 82 (.mov (.t 81)),
 oG 83 82 true (.fieldAddr 1 (.t 17)),
 oG 84 82 true (.load1 (.t 83)),
 oG 85 82 true (.eq false (.leaf .int) (.t 84) (.k (.int .u8 107))),
 oD 86 (.pick (.t 82) (.t 85) (.k (.bool false)))])
 (.keep [5, 6, 15, 16, 72, 73, 74, 86]))
 (.cond (.t 86) (.seq (.ops (some [5, 6, 15, 72, 73, 74]) [oD 87 (.mov (.t 5)),
 oD 88 (.mov (.t 16)),
 oD 89 (.mov (.t 5)),
 oD 90 (.mov (.t 16)),
 oD 91 (.bin .add (.t 90) (.k (.int .i64 1))),
 oD 92 (.mov (.t 6)),
 oD 93 (.mov (.t 15)),
 oD 94 (.idxSl 1 (.t 92) (.t 93)),
 oD 95 (.load1 (.t 94)),
 oD 96 (.mov (.t 6)),
 oD 97 (.mov (.t 15)),
 oD 98 (.idxSl 1 (.t 96) (.t 97)),
 oD 99 (.load1 (.t 98)),
 oD 100 (.idxSl 1 (.t 87) (.t 88)),
 oN (.store 1 (.t 100) (.t 95)),
 oD 101 (.idxSl 1 (.t 89) (.t 91)),
 oN (.store 1 (.t 101) (.t 99))])
 (.seq (.ops none [oD 102 (.mov (.t 15)),
 oD 103 (.bin .add (.t 102) (.k (.int .i64 1))),
 oD 15 (.mov (.t 103))])
 (.keep [5, 6, 15, 72, 73, 74])))
 .skip))))
 (.seq (.ops none [oD 104 (.bin .add (.t 74) (.k (.int .i64 1))),
 oD 74 (.mov (.t 104))])
 (.keep [5, 6, 15, 72, 73, 74])))))))))
 (.seq (.seq (.ops none [oD 105 (.mov (.t 5)),
 oD 4 (.mov (.t 105))])
 (.keep [4]))
 .ret)))))))
  results := [.tmp 4]
theorem ok69 : FnOK Tryz.prog pureL 69 a69 := ⟨Tryz.f69, [(0, [0, 1]), (1, [0, 1, 5]), (2, [0, 1, 5, 6]), (3, [0, 5, 6, 21, 22, 23]), (4, [0, 5, 6, 21, 22, 23, 24]), (5, [0, 5, 6, 7, 8, 21, 22, 23]), (6, [0, 5, 6, 7, 21, 22, 23, 28, 29, 30]), (7, [0, 5, 6, 7, 21, 22, 23, 28, 29, 30, 31]), (8, [0, 5, 6, 7, 10, 21, 22, 23, 28, 29, 30]), (9, [0, 5, 6, 7, 10, 21, 22, 23, 28, 29, 30, 35]), (10, [0, 5, 6, 7, 10, 21, 22, 23, 28, 29, 30]), (11, [0, 5, 6, 7, 21, 22, 23, 28, 29, 30, 46, 47, 48]), (12, [0, 5, 6, 7, 21, 22, 23, 28, 29, 30, 46, 47, 48, 49]), (13, [0, 5, 6, 7, 12, 21, 22, 23, 28, 29, 30, 46, 47, 48]), (14, [0, 5, 6, 7, 21, 22, 23, 28, 29, 30, 46, 47, 48, 53, 54, 55]), (15, [0, 5, 6, 7, 21, 22, 23, 28, 29, 30, 46, 47, 48, 53, 54, 55, 56]), (16, [0, 5, 6, 7, 14, 21, 22, 23, 28, 29, 30, 46, 47, 48, 53, 54, 55]), (17, [0, 5, 6, 7, 14, 21, 22, 23, 28, 29, 30, 46, 47, 48, 53, 54, 55, 61]), (18, [0, 5, 6, 7, 21, 22, 23, 28, 29, 30, 46, 47, 48, 53, 54, 55]), (19, [0, 5, 6, 7, 21, 22, 23, 28, 29, 30, 46, 47, 48, 53, 54, 55]), (20, [0, 5, 6, 7, 21, 22, 23, 28, 29, 30, 46, 47, 48]), (21, [0, 5, 6, 7, 21, 22, 23, 28, 29, 30]), (22, [0, 5, 6, 21, 22, 23]), (23, [0, 5, 6, 15]), (24, [5, 6, 15, 72, 73, 74]), (25, [5, 6, 15, 72, 73, 74, 75]), (26, [5, 6, 15, 16, 17, 72, 73, 74]), (27, [5, 6, 15, 16, 72, 73, 74, 86]), (28, [5, 6, 15, 72, 73, 74]), (29, [5, 6, 15, 72, 73, 74]), (30, [5, 6, 15, 72, 73, 74]), (31, [4])], [(0, [0, 5, 6, 21, 22, 23]), (2, [0, 5, 6, 7, 21, 22, 23, 28, 29, 30]), (4, [0, 5, 6, 7, 21, 22, 23, 28, 29, 30, 46, 47, 48]), (6, [0, 5, 6, 7, 21, 22, 23, 28, 29, 30, 46, 47, 48, 53, 54, 55]), (8, [5, 6, 15, 72, 73, 74])], Tryz.func69, by kernel_rfl⟩
/-- stylus/stylusref01.Is -/
def a70 : AFunc where
  body :=
  (.seq (.seq (.ops none [oD 2 (.mov (.k (.bool false)))])
 (.keep [0]))
 (.seq (.seq (.ops none [oD 3 (.mov (.t 0)),
 oD 4 (.call 115 [(.t 3)]),
 oD 5 (.bin .geq (.t 4) (.k (.int .i64 1))),
 oD 6 (.mov (.t 5)),
 oG 7 6 true (.mov (.t 0)),
 oG 8 6 true (.call 115 [(.t 7)]),
 oG 9 6 true (.bin .leq (.t 8) (.k (.int .i64 5))),
 oD 10 (.pick (.t 6) (.t 9) (.k (.bool false))),
 oD 2 (.mov (.t 10))])
 (.keep [2]))
 .ret))
  results := [.tmp 2]
theorem ok70 : FnOK Tryz.prog pureL 70 a70 := ⟨Tryz.f70, [(0, [0]), (1, [2])], [], Tryz.func70, by kernel_rfl⟩
/-- stylus/stylusref03.Of -/
def a71 : AFunc where
  body :=
  (.seq (.seq (.ops none [oD 2 (.mov (.k .nilslice)),
 oD 3 (.mov (.k (.int .i64 0))),
 oD 4 (.mov (.k (.int .i64 0)))])
 (.keep [0]))
 (.seq (.seq (.seq (.ops none [oD 10 (.mov (.t 0)),
 oD 11 (.len .str (.t 10)),
 oD 12 (.bin .gtr (.t 11) (.k (.int .i64 8192)))])
 (.keep [0, 12]))
 (.cond (.t 12) (.seq (.seq (.ops none [oD 2 (.mov (.k .nilslice)),
 oD 3 (.mov (.k (.int .i64 0))),
 oD 4 (.mov (.k (.int .i64 4)))])
 (.keep [2, 3, 4]))
 .ret)
 .skip))
 (.seq (.seq (.ops none [oD 5 (.mov (.k .nilslice))])
 (.keep [0, 5]))
 (.seq (.seq (.ops none [oD 6 (.mov (.k (.int .i64 0)))])
 (.keep [0, 5, 6]))
 (.seq (.seq (.seq (.ops none [oD 7 (.mov (.k (.int .i64 0)))])
 (.keep [0, 5, 6, 7]))
 (.block 0 (.loop (.seq (.keep [0, 5, 6, 7])
 (.seq (.seq (.seq (.ops none [oD 13 (.mov (.t 7)),
 oD 14 (.mov (.t 0)),
 oD 15 (.len .str (.t 14)),
 oD 16 (.bin .lss (.t 13) (.t 15))])
 (.keep [0, 5, 6, 7, 16]))
 (.cond (.t 16) .skip
 (.exit 0)))
 (.seq (.block 1 (.seq (.seq (.seq (.ops none [oD 19 (.mov (.t 0)),
 oD 20 (.mov (.t 7)),
 oD 21 (.indexStr (.t 19) (.t 20)),
 oD 22 (.eq false (.leaf .int) (.t 21) (.k (.int .u8 125)))])
 (.keep [0, 5, 6, 7, 22]))
 (.cond (.t 22) (.seq (.seq (.ops none [oD 23 (.mov (.t 5)),
 oD 24 (.mov (.t 7)),
 oD 25 (.build [(.int .i64 0), (.int .u8 0), (.str []), (.int .i64 0)] [(0, 1, (.k (.int .i64 3))), (3, 1, (.t 24))]),
 oD 26 (.buildSlice [(.int .i64 0), (.int .u8 0), (.str []), (.int .i64 0)] 4 1 [(0, 4, (.t 25))]),
 oD 27 (.append 4 (.t 23) (.t 26)),
 oD 5 (.mov (.t 27))])
 (.keep [0, 5, 7]))
 (.seq (.seq (.ops none [oD 6 (.mov (.k (.int .i64 0)))])
 (.keep [0, 5, 6, 7]))
 (.exit 1)))
 .skip))
 (.seq (.seq (.seq (.ops none [oD 28 (.mov (.t 0)),
 oD 29 (.mov (.t 7)),
 oD 30 (.indexStr (.t 28) (.t 29)),
 oD 31 (.eq false (.leaf .int) (.t 30) (.k (.int .u8 123)))])
 (.keep [0, 5, 6, 7, 31]))
 (.cond (.t 31) (.seq (.seq (.ops none [oD 33 (.mov (.t 0)),
 oD 34 (.mov (.t 7)),
 oD 35 (.call 116 [(.t 33), (.t 34)]),
 oD 32 (.mov (.t 35)),
 oD 36 (.extract 0 (.t 32)),
 oD 37 (.extract 1 (.t 32)),
 oD 8 (.mov (.t 36)),
 oD 9 (.mov (.t 37))])
 (.keep [0, 5, 7, 8, 9]))
 (.seq (.seq (.seq (.ops none [oD 38 (.mov (.t 8)),
 oD 39 (.eq false (.leaf .int) (.t 38) (.k (.int .u8 0)))])
 (.keep [0, 5, 7, 8, 9, 39]))
 (.cond (.t 39) (.seq (.seq (.ops none [oD 40 (.mov (.t 7)),
 oD 2 (.mov (.k .nilslice)),
 oD 3 (.mov (.t 40)),
 oD 4 (.mov (.k (.int .i64 2)))])
 (.keep [2, 3, 4]))
 .ret)
 .skip))
 (.seq (.seq (.ops none [oD 41 (.mov (.t 5)),
 oD 42 (.mov (.t 8)),
 oD 43 (.mov (.t 7)),
 oD 44 (.build [(.int .i64 0), (.int .u8 0), (.str []), (.int .i64 0)] [(0, 1, (.k (.int .i64 2))), (1, 1, (.t 42)), (3, 1, (.t 43))]),
 oD 45 (.buildSlice [(.int .i64 0), (.int .u8 0), (.str []), (.int .i64 0)] 4 1 [(0, 4, (.t 44))]),
 oD 46 (.append 4 (.t 41) (.t 45)),
 oD 5 (.mov (.t 46))])
 (.keep [0, 5, 7, 9]))
 (.seq (.seq (.ops none [oD 47 (.mov (.t 7)),
 oD 48 (.mov (.t 9)),
 oD 49 (.len .str (.t 48)),
 oD 50 (.bin .add (.t 47) (.t 49)),
 oD 7 (.mov (.t 50))])
 (.keep [0, 5, 7]))
 (.seq (.seq (.seq (.ops none [oD 51 (.mov (.t 7)),
 oD 52 (.bin .add (.t 51) (.k (.int .i64 1))),
 oD 53 (.mov (.t 0)),
 oD 54 (.len .str (.t 53)),
 oD 55 (.bin .lss (.t 52) (.t 54)),
 oD 56 (.mov (.t 55)),
 oG 57 56 true (.mov (.t 0)),
 oG 58 56 true (.mov (.t 7)),
 oG 59 56 true (.bin .add (.t 58) (.k (.int .i64 1))),
 oG 60 56 true (.indexStr (.t 57) (.t 59)),
 oG 61 56 true (.call 95 [(.t 60)]),
 oD 62 (.pick (.t 56) (.t 61) (.k (.bool false)))])
 (.keep [0, 5, 7, 62]))
 (.cond (.t 62) (.seq (.ops none [oD 63 (.mov (.t 7)),
 oD 64 (.bin .add (.t 63) (.k (.int .i64 1))),
 oD 7 (.mov (.t 64))])
 (.keep [0, 5, 7]))
 .skip))
 (.seq (.seq (.ops none [oD 6 (.mov (.k (.int .i64 0)))])
 (.keep [0, 5, 6, 7]))
 (.exit 1)))))))
 .skip))
 (.seq (.seq (.seq (.ops none [oD 65 (.mov (.t 0)),
 oD 66 (.mov (.t 7)),
 oD 67 (.indexStr (.t 65) (.t 66)),
 oD 68 (.call 70 [(.t 67)]),
 oD 69 (.un .not (.t 68)),
 oD 70 (.mov (.t 69)),
 oG 71 70 true (.mov (.t 0)),
 oG 72 70 true (.mov (.t 7)),
 oG 73 70 true (.indexStr (.t 71) (.t 72)),
 oG 74 70 true (.call 95 [(.t 73)]),
 oG 75 70 true (.un .not (.t 74)),
 oD 76 (.pick (.t 70) (.t 75) (.k (.bool false)))])
 (.keep [0, 5, 6, 7, 76]))
 (.cond (.t 76) (.seq (.seq (.ops none [oD 77 (.mov (.t 7)),
 oD 2 (.mov (.k .nilslice)),
 oD 3 (.mov (.t 77)),
 oD 4 (.mov (.k (.int .i64 3)))])
 (.keep [2, 3, 4]))
 .ret)
 .skip))
 (.seq (.seq (.seq (.ops none [oD 78 (.mov (.t 6)),
 oD 79 (.eq false (.leaf .int) (.t 78) (.k (.int .i64 0)))])
 (.keep [0, 5, 6, 7, 79]))
 (.cond (.t 79) (.seq (.seq (.ops none [oD 80 (.mov (.t 5)),
 oD 81 (.mov (.t 7)),
 oD 82 (.build [(.int .i64 0), (.int .u8 0), (.str []), (.int .i64 0)] [(0, 1, (.k (.int .i64 1))), (3, 1, (.t 81))]),
 oD 83 (.buildSlice [(.int .i64 0), (.int .u8 0), (.str []), (.int .i64 0)] 4 1 [(0, 4, (.t 82))]),
 oD 84 (.append 4 (.t 80) (.t 83)),
 oD 5 (.mov (.t 84))])
 (.keep [0, 5, 7]))
 (.seq (.ops none [oD 6 (.mov (.k (.int .i64 1)))])
 (.keep [0, 5, 6, 7])))
 .skip))
 (.ops (some [0, 5, 6, 7]) [oD 85 (.mov (.t 5)),
 oD 86 (.mov (.t 5)),
 oD 87 (.len .slice (.t 86)),
 oD 88 (.bin .sub (.t 87) (.k (.int .i64 1))),
 oD 89 (.mov (.t 5)),
 oD 90 (.mov (.t 5)),
 oD 91 (.len .slice (.t 90)),
 oD 92 (.bin .sub (.t 91) (.k (.int .i64 1))),
 oD 93 (.idxSl 4 (.t 89) (.t 92)),
 oD 94 (.fieldAddr 2 (.t 93)),
 oD 95 (.load1 (.t 94)),
 oD 96 (.mov (.t 0)),
 oD 97 (.mov (.t 7)),
 oD 98 (.mov (.t 7)),
 oD 99 (.bin .add (.t 98) (.k (.int .i64 1))),
 oD 100 (.sliceStr (.t 96) (some (.t 97)) (some (.t 99))),
 oD 101 (.bin .add (.t 95) (.t 100)),
 oD 102 (.idxSl 4 (.t 85) (.t 88)),
 oD 103 (.fieldAddr 2 (.t 102)),
 oN (.store 1 (.t 103) (.t 101))]))))))
 (.seq (.ops none [oD 17 (.mov (.t 7)),
 oD 18 (.bin .add (.t 17) (.k (.int .i64 1))),
 oD 7 (.mov (.t 18))])
 (.keep [0, 5, 6, 7]))))))))
 (.seq (.seq (.ops none [oD 104 (.mov (.t 5)),
 oD 2 (.mov (.t 104)),
 oD 3 (.mov (.k (.int .i64 0))),
 oD 4 (.mov (.k (.int .i64 0)))])
 (.keep [2, 3, 4]))
 .ret))))))
  results := [.tmp 2, .tmp 3, .tmp 4]
theorem ok71 : FnOK Tryz.prog pureL 71 a71 := ⟨Tryz.f71, [(0, [0]), (1, [0, 12]), (2, [2, 3, 4]), (3, [0, 5]), (4, [0, 5, 6]), (5, [0, 5, 6, 7]), (6, [0, 5, 6, 7, 16]), (8, [0, 5, 6, 7, 22]), (9, [0, 5, 7]), (10, [0, 5, 6, 7]), (11, [0, 5, 6, 7, 31]), (12, [0, 5, 7, 8, 9]), (13, [0, 5, 7, 8, 9, 39]), (14, [2, 3, 4]), (15, [0, 5, 7, 9]), (16, [0, 5, 7]), (17, [0, 5, 7, 62]), (18, [0, 5, 7]), (19, [0, 5, 6, 7]), (20, [0, 5, 6, 7, 76]), (21, [2, 3, 4]), (22, [0, 5, 6, 7, 79]), (23, [0, 5, 7]), (24, [0, 5, 6, 7]), (25, [0, 5, 6, 7]), (7, [0, 5, 6, 7]), (26, [2, 3, 4])], [(0, [0, 5, 6, 7])], Tryz.func71, by kernel_rfl⟩
/-- stylus/stylusref04.Read -/
def a72 : AFunc where
  body :=
  (.seq (.seq (.ops none [oD 2 (.mov (.k .nilslice)),
 oD 3 (.mov (.k .nilslice))])
 (.keep [0]))
 (.seq (.seq (.ops none [oD 9 (.build [(.int .u8 0), (.str []), (.int .i64 0), (.int .i64 0), (.int .i64 0), (.str [])] []),
 oD 10 (.buildSlice [(.int .u8 0), (.str []), (.int .i64 0), (.int .i64 0), (.int .i64 0), (.str [])] 6 1 [(0, 6, (.t 9))]),
 oD 4 (.mov (.t 10))])
 (.keep [0, 4]))
 (.seq (.seq (.ops none [oD 5 (.mov (.k .nilslice))])
 (.keep [0, 4, 5]))
 (.seq (.seq (.seq (.ops none [oD 6 (.mov (.k (.int .i64 0)))])
 (.keep [0, 4, 5, 6]))
 (.block 0 (.loop (.seq (.keep [0, 4, 5, 6])
 (.seq (.seq (.seq (.ops none [oD 11 (.mov (.t 6)),
 oD 12 (.mov (.t 0)),
 oD 13 (.len .slice (.t 12)),
 oD 14 (.bin .lss (.t 11) (.t 13))])
 (.keep [0, 4, 5, 6, 14]))
 (.cond (.t 14) .skip
 (.exit 0)))
 (.seq (.block 1 (.seq (.seq (.ops none [oD 17 (.mov (.t 4)),
 oD 18 (.len .slice (.t 17)),
 oD 19 (.bin .sub (.t 18) (.k (.int .i64 1))),
 oD 7 (.mov (.t 19))])
 (.keep [0, 4, 5, 6, 7]))
 (.seq (.seq (.seq (.ops none [oD 20 (.mov (.t 0)),
 oD 21 (.mov (.t 6)),
 oD 22 (.idxSl 4 (.t 20) (.t 21)),
 oD 23 (.fieldAddr 0 (.t 22)),
 oD 24 (.load1 (.t 23)),
 oD 25 (.eq false (.leaf .int) (.t 24) (.k (.int .i64 1)))])
 (.keep [0, 4, 5, 6, 7, 25]))
 (.cond (.t 25) (.seq (.seq (.seq (.ops none [oD 26 (.mov (.t 4)),
 oD 27 (.call 97 [(.t 26)])])
 (.keep [0, 4, 5, 6, 7, 27]))
 (.cond (.t 27) (.seq (.seq (.ops none [oD 28 (.mov (.t 4)),
 oD 29 (.mov (.t 7)),
 oD 30 (.mov (.t 4)),
 oD 31 (.mov (.t 7)),
 oD 32 (.idxSl 6 (.t 30) (.t 31)),
 oD 33 (.fieldAddr 1 (.t 32)),
 oD 34 (.load1 (.t 33)),
 oD 35 (.bin .add (.t 34) (.k (.str [46]))),
 oD 36 (.idxSl 6 (.t 28) (.t 29)),
 oD 37 (.fieldAddr 1 (.t 36)),
 oN (.store 1 (.t 37) (.t 35))])
 (.keep [0, 4, 5, 6]))
 (.seq (.ops (some [0, 4, 5, 6]) [oD 38 (.mov (.t 5)),
 oD 39 (.mov (.t 0)),
 oD 40 (.mov (.t 6)),
 oD 41 (.idxSl 4 (.t 39) (.t 40)),
 oD 42 (.fieldAddr 2 (.t 41)),
 oD 43 (.load1 (.t 42)),
 oD 44 (.mov (.t 0)),
 oD 45 (.mov (.t 6)),
 oD 46 (.idxSl 4 (.t 44) (.t 45)),
 oD 47 (.fieldAddr 3 (.t 46)),
 oD 48 (.load1 (.t 47)),
 oD 49 (.build [(.int .u8 0), (.str []), (.int .i64 0), (.int .i64 0)] [(0, 1, (.k (.int .u8 46))), (1, 1, (.t 43)), (2, 1, (.t 48)), (3, 1, (.k (.int .i64 1)))]),
 oD 50 (.buildSlice [(.int .u8 0), (.str []), (.int .i64 0), (.int .i64 0)] 4 1 [(0, 4, (.t 49))]),
 oD 51 (.append 4 (.t 38) (.t 50)),
 oD 5 (.mov (.t 51))])
 (.seq (.seq (.ops none [oD 52 (.mov (.t 4)),
 oD 53 (.call 117 [(.t 52), (.k (.str [110]))]),
 oD 8 (.mov (.t 53))])
 (.keep [0, 4, 5, 6, 8]))
 (.seq (.seq (.ops none [oD 54 (.mov (.t 8)),
 oD 55 (.bin .gtr (.t 54) (.k (.int .i64 0)))])
 (.keep [0, 4, 5, 6, 8, 55]))
 (.cond (.t 55) (.ops (some [0, 4, 5, 6]) [oD 56 (.mov (.t 4)),
 oD 57 (.mov (.t 8)),
 oD 58 (.mov (.t 4)),
 oD 59 (.mov (.t 8)),
 oD 60 (.idxSl 6 (.t 58) (.t 59)),
 oD 61 (.fieldAddr 5 (.t 60)),
 oD 62 (.load1 (.t 61)),
 oD 63 (.mov (.t 0)),
 oD 64 (.mov (.t 6)),
 oD 65 (.idxSl 4 (.t 63) (.t 64)),
 oD 66 (.fieldAddr 2 (.t 65)),
 oD 67 (.load1 (.t 66)),
 oD 68 (.bin .add (.t 62) (.t 67)),
 oD 69 (.idxSl 6 (.t 56) (.t 57)),
 oD 70 (.fieldAddr 5 (.t 69)),
 oN (.store 1 (.t 70) (.t 68))])
 .skip)))))
 .skip))
 (.exit 1))
 .skip))
 (.seq (.seq (.seq (.ops none [oD 71 (.mov (.t 0)),
 oD 72 (.mov (.t 6)),
 oD 73 (.idxSl 4 (.t 71) (.t 72)),
 oD 74 (.fieldAddr 0 (.t 73)),
 oD 75 (.load1 (.t 74)),
 oD 76 (.eq false (.leaf .int) (.t 75) (.k (.int .i64 2)))])
 (.keep [0, 4, 5, 6, 7, 76]))
 (.cond (.t 76) (.seq (.ops (some [0, 4, 5, 6]) [oD 77 (.mov (.t 4)),
 oD 78 (.mov (.t 7)),
 oD 79 (.mov (.t 4)),
 oD 80 (.mov (.t 7)),
 oD 81 (.idxSl 6 (.t 79) (.t 80)),
 oD 82 (.fieldAddr 1 (.t 81)),
 oD 83 (.load1 (.t 82)),
 oD 84 (.mov (.t 0)),
 oD 85 (.mov (.t 6)),
 oD 86 (.idxSl 4 (.t 84) (.t 85)),
 oD 87 (.fieldAddr 1 (.t 86)),
 oD 88 (.load1 (.t 87)),
 oD 89 (.buildSlice [(.int .u8 0)] 1 1 [(0, 1, (.t 88))]),
 oD 90 (.bytesStr (.t 89)),
 oD 91 (.bin .add (.t 83) (.t 90)),
 oD 92 (.idxSl 6 (.t 77) (.t 78)),
 oD 93 (.fieldAddr 1 (.t 92)),
 oN (.store 1 (.t 93) (.t 91))])
 (.seq (.seq (.seq (.ops none [oD 94 (.mov (.t 0)),
 oD 95 (.mov (.t 6)),
 oD 96 (.idxSl 4 (.t 94) (.t 95)),
 oD 97 (.fieldAddr 1 (.t 96)),
 oD 98 (.load1 (.t 97)),
 oD 99 (.eq false (.leaf .int) (.t 98) (.k (.int .u8 110)))])
 (.keep [0, 4, 5, 6, 99]))
 (.cond (.t 99) (.seq (.ops none [oD 100 (.mov (.t 4)),
 oD 101 (.mov (.t 4)),
 oD 102 (.call 117 [(.t 101), (.k (.str [49, 50, 51, 112, 105]))]),
 oD 103 (.minmax true (.t 102) (.k (.int .i64 0))),
 oD 104 (.idxSl 6 (.t 100) (.t 103)),
 oD 105 (.fieldAddr 3 (.t 104)),
 oD 106 (.load1 (.t 105)),
 oD 107 (.bin .add (.t 106) (.k (.int .i64 1))),
 oD 108 (.idxSl 6 (.t 100) (.t 103)),
 oD 109 (.fieldAddr 3 (.t 108)),
 oN (.store 1 (.t 109) (.t 107))])
 (.keep [0, 4, 5, 6]))
 .skip))
 (.seq (.seq (.ops none [oD 110 (.mov (.t 4)),
 oD 111 (.mov (.t 0)),
 oD 112 (.mov (.t 6)),
 oD 113 (.idxSl 4 (.t 111) (.t 112)),
 oD 114 (.fieldAddr 1 (.t 113)),
 oD 115 (.load1 (.t 114)),
 oD 116 (.mov (.t 5)),
 oD 117 (.len .slice (.t 116)),
 oD 118 (.build [(.int .u8 0), (.str []), (.int .i64 0), (.int .i64 0), (.int .i64 0), (.str [])] [(0, 1, (.t 115)), (2, 1, (.t 117))]),
 oD 119 (.buildSlice [(.int .u8 0), (.str []), (.int .i64 0), (.int .i64 0), (.int .i64 0), (.str [])] 6 1 [(0, 6, (.t 118))]),
 oD 120 (.append 6 (.t 110) (.t 119)),
 oD 4 (.mov (.t 120))])
 (.keep [0, 4, 5, 6]))
 (.seq (.ops (some [0, 4, 5, 6]) [oD 121 (.mov (.t 5)),
 oD 122 (.mov (.t 0)),
 oD 123 (.mov (.t 6)),
 oD 124 (.idxSl 4 (.t 122) (.t 123)),
 oD 125 (.fieldAddr 1 (.t 124)),
 oD 126 (.load1 (.t 125)),
 oD 127 (.mov (.t 0)),
 oD 128 (.mov (.t 6)),
 oD 129 (.idxSl 4 (.t 127) (.t 128)),
 oD 130 (.fieldAddr 3 (.t 129)),
 oD 131 (.load1 (.t 130)),
 oD 132 (.build [(.int .u8 0), (.str []), (.int .i64 0), (.int .i64 0)] [(0, 1, (.t 126)), (2, 1, (.t 131)), (3, 1, (.k (.int .i64 1)))]),
 oD 133 (.buildSlice [(.int .u8 0), (.str []), (.int .i64 0), (.int .i64 0)] 4 1 [(0, 4, (.t 132))]),
 oD 134 (.append 4 (.t 121) (.t 133)),
 oD 5 (.mov (.t 134))])
 (.exit 1)))))
 .skip))
 (.seq (.ops (some [0, 4, 5, 6, 7]) [oD 135 (.mov (.t 5)),
 oD 136 (.mov (.t 4)),
 oD 137 (.mov (.t 7)),
 oD 138 (.idxSl 6 (.t 136) (.t 137)),
 oD 139 (.fieldAddr 2 (.t 138)),
 oD 140 (.load1 (.t 139)),
 oD 141 (.mov (.t 5)),
 oD 142 (.len .slice (.t 141)),
 oD 143 (.mov (.t 4)),
 oD 144 (.mov (.t 7)),
 oD 145 (.idxSl 6 (.t 143) (.t 144)),
 oD 146 (.fieldAddr 2 (.t 145)),
 oD 147 (.load1 (.t 146)),
 oD 148 (.bin .sub (.t 142) (.t 147)),
 oD 149 (.idxSl 4 (.t 135) (.t 140)),
 oD 150 (.fieldAddr 3 (.t 149)),
 oN (.store 1 (.t 150) (.t 148))])
 (.seq (.seq (.seq (.ops none [oD 151 (.mov (.t 4)),
 oD 152 (.mov (.t 7)),
 oD 153 (.idxSl 6 (.t 151) (.t 152)),
 oD 154 (.fieldAddr 0 (.t 153)),
 oD 155 (.load1 (.t 154)),
 oD 156 (.eq false (.leaf .int) (.t 155) (.k (.int .u8 114))),
 oD 157 (.mov (.t 156)),
 oG 158 157 true (.mov (.t 4)),
 oG 159 157 true (.mov (.t 7)),
 oG 160 157 true (.bin .sub (.t 159) (.k (.int .i64 1))),
 oG 161 157 true (.idxSl 6 (.t 158) (.t 160)),
 oG 162 157 true (.fieldAddr 4 (.t 161)),
 oG 163 157 true (.load1 (.t 162)),
 oG 164 157 true (.eq false (.leaf .int) (.t 163) (.k (.int .i64 0))),
 oD 165 (.pick (.t 157) (.t 164) (.k (.bool false)))])
 (.keep [0, 4, 5, 6, 7, 165]))
 (.cond (.t 165) (.seq (.ops none [oD 166 (.mov (.t 4)),
 oD 167 (.mov (.t 7)),
 oD 168 (.bin .sub (.t 167) (.k (.int .i64 1))),
 oD 169 (.mov (.t 4)),
 oD 170 (.mov (.t 7)),
 oD 171 (.idxSl 6 (.t 169) (.t 170)),
 oD 172 (.fieldAddr 1 (.t 171)),
 oD 173 (.load1 (.t 172)),
 oD 174 (.len .str (.t 173)),
 oD 175 (.idxSl 6 (.t 166) (.t 168)),
 oD 176 (.fieldAddr 4 (.t 175)),
 oN (.store 1 (.t 176) (.t 174))])
 (.keep [0, 4, 5, 6, 7]))
 .skip))
 (.seq (.ops none [oD 177 (.mov (.t 4)),
 oD 178 (.mov (.t 7)),
 oD 179 (.sliceSl 6 (.t 177) none (some (.t 178))),
 oD 4 (.mov (.t 179))])
 (.keep [0, 4, 5, 6]))))))))
 (.seq (.ops none [oD 15 (.mov (.t 6)),
 oD 16 (.bin .add (.t 15) (.k (.int .i64 1))),
 oD 6 (.mov (.t 16))])
 (.keep [0, 4, 5, 6]))))))))
 (.seq (.seq (.ops none [oD 180 (.mov (.t 5)),
 oD 181 (.mov (.t 4)),
 oD 2 (.mov (.t 180)),
 oD 3 (.mov (.t 181))])
 (.keep [2, 3]))
 .ret)))))
  results := [.tmp 2, .tmp 3]
theorem ok72 : FnOK Tryz.prog pureL 72 a72 := ⟨Tryz.f72, [(0, [0]), (1, [0, 4]), (2, [0, 4, 5]), (3, [0, 4, 5, 6]), (4, [0, 4, 5, 6, 14]), (6, [0, 4, 5, 6, 7]), (7, [0, 4, 5, 6, 7, 25]), (8, [0, 4, 5, 6, 7, 27]), (9, [0, 4, 5, 6]), (10, [0, 4, 5, 6]), (11, [0, 4, 5, 6, 8]), (12, [0, 4, 5, 6, 8, 55]), (13, [0, 4, 5, 6]), (14, [0, 4, 5, 6, 7, 76]), (15, [0, 4, 5, 6]), (16, [0, 4, 5, 6, 99]), (17, [0, 4, 5, 6]), (18, [0, 4, 5, 6]), (19, [0, 4, 5, 6]), (20, [0, 4, 5, 6, 7]), (21, [0, 4, 5, 6, 7, 165]), (22, [0, 4, 5, 6, 7]), (23, [0, 4, 5, 6]), (5, [0, 4, 5, 6]), (24, [2, 3])], [(0, [0, 4, 5, 6])], Tryz.func72, by kernel_rfl⟩
/-- stylus/stylusref04.Step -/
def a73 : AFunc where
  body :=
  (.seq (.seq (.ops none [oD 5 (.box (.t 2)),
 oD 6 (.mov (.k (.int .i64 0))),
 oD 7 (.mov (.k (.int .i64 0)))])
 (.keep [0, 1, 5]))
 (.seq (.seq (.ops none [oD 11 (.mov (.t 1)),
 oD 12 (.mov (.t 1)),
 oD 13 (.len .slice (.t 12)),
 oD 14 (.bin .sub (.t 13) (.k (.int .i64 1))),
 oD 15 (.idxSl 6 (.t 11) (.t 14)),
 oD 16 (.loadN 6 (.t 15)),
 oD 8 (.alloc [(.int .u8 0), (.str []), (.int .i64 0), (.int .i64 0), (.int .i64 0), (.str [])]),
 oN (.store 6 (.t 8) (.t 16))])
 (.keep [0, 1, 5, 8]))
 (.seq (.seq (.seq (.ops none [oD 17 (.fieldAddr 0 (.t 5)),
 oD 18 (.load1 (.t 17)),
 oD 19 (.eq false (.leaf .int) (.t 18) (.k (.int .i64 1)))])
 (.keep [0, 1, 5, 8, 19]))
 (.cond (.t 19) (.seq (.seq (.seq (.ops none [oD 20 (.mov (.t 1)),
 oD 21 (.call 97 [(.t 20)]),
 oD 22 (.un .not (.t 21))])
 (.keep [0, 1, 5, 22]))
 (.cond (.t 22) (.seq (.seq (.seq (.ops none [oD 9 (.mov (.k (.int .i64 0)))])
 (.keep [5, 9]))
 (.block 0 (.loop (.seq (.keep [5, 9])
 (.seq (.seq (.seq (.ops none [oD 23 (.mov (.t 9)),
 oD 24 (.fieldAddr 2 (.t 5)),
 oD 25 (.load1 (.t 24)),
 oD 26 (.len .str (.t 25)),
 oD 27 (.bin .lss (.t 23) (.t 26))])
 (.keep [5, 9, 27]))
 (.cond (.t 27) .skip
 (.exit 0)))
 (.seq (.block 1 (.seq (.seq (.ops none [oD 30 (.fieldAddr 2 (.t 5)),
 oD 31 (.load1 (.t 30)),
 oD 32 (.mov (.t 9)),
 oD 33 (.indexStr (.t 31) (.t 32)),
 oD 34 (.call 95 [(.t 33)]),
 oD 35 (.un .not (.t 34))])
 (.keep [5, 9, 35]))
 (.cond (.t 35) (.seq (.seq (.ops none [oD 36 (.fieldAddr 3 (.t 5)),
 oD 37 (.load1 (.t 36)),
 oD 38 (.mov (.t 9)),
 oD 39 (.bin .add (.t 37) (.t 38)),
 oD 6 (.mov (.t 39)),
 oD 7 (.mov (.k (.int .i64 2)))])
 (.keep [6, 7]))
 .ret)
 .skip)))
 (.seq (.ops none [oD 28 (.mov (.t 9)),
 oD 29 (.bin .add (.t 28) (.k (.int .i64 1))),
 oD 9 (.mov (.t 29))])
 (.keep [5, 9]))))))))
 (.seq (.seq (.ops none [oD 6 (.mov (.k (.int .i64 0))),
 oD 7 (.mov (.k (.int .i64 0)))])
 (.keep [6, 7]))
 .ret))
 .skip))
 (.seq (.seq (.ops none [oD 40 (.mov (.t 1)),
 oD 41 (.call 117 [(.t 40), (.k (.str [110]))]),
 oD 10 (.mov (.t 41))])
 (.keep [0, 1, 5, 10]))
 (.seq (.seq (.ops (some [5, 61]) [oD 42 (.mov (.t 0)),
 oD 43 (.len .slice (.t 42)),
 oD 44 (.bin .geq (.t 43) (.k (.int .i64 2000))),
 oD 45 (.mov (.t 44)),
 oG 46 45 false (.mov (.t 10)),
 oG 47 45 false (.bin .gtr (.t 46) (.k (.int .i64 0))),
 oG 48 45 false (.mov (.t 47)),
 oG 49 48 true (.mov (.t 1)),
 oG 50 48 true (.mov (.t 10)),
 oG 51 48 true (.idxSl 6 (.t 49) (.t 50)),
 oG 52 48 true (.fieldAddr 5 (.t 51)),
 oG 53 48 true (.load1 (.t 52)),
 oG 54 48 true (.len .str (.t 53)),
 oG 55 48 true (.fieldAddr 2 (.t 5)),
 oG 56 48 true (.load1 (.t 55)),
 oG 57 48 true (.len .str (.t 56)),
 oG 58 48 true (.bin .add (.t 54) (.t 57)),
 oG 59 48 true (.bin .gtr (.t 58) (.k (.int .i64 60))),
 oG 60 45 false (.pick (.t 48) (.t 59) (.k (.bool false))),
 oD 61 (.pick (.t 45) (.k (.bool true)) (.t 60))])
 (.cond (.t 61) (.seq (.seq (.ops none [oD 62 (.fieldAddr 3 (.t 5)),
 oD 63 (.load1 (.t 62)),
 oD 6 (.mov (.t 63)),
 oD 7 (.mov (.k (.int .i64 4)))])
 (.keep [6, 7]))
 .ret)
 .skip))
 (.seq (.seq (.ops none [oD 6 (.mov (.k (.int .i64 0))),
 oD 7 (.mov (.k (.int .i64 0)))])
 (.keep [6, 7]))
 .ret))))
 .skip))
 (.seq (.seq (.seq (.ops none [oD 64 (.fieldAddr 0 (.t 5)),
 oD 65 (.load1 (.t 64)),
 oD 66 (.eq false (.leaf .int) (.t 65) (.k (.int .i64 2)))])
 (.keep [0, 1, 5, 8, 66]))
 (.cond (.t 66) (.seq (.seq (.seq (.ops none [oD 67 (.mov (.t 1)),
 oD 68 (.fieldAddr 1 (.t 5)),
 oD 69 (.load1 (.t 68)),
 oD 70 (.call 118 [(.t 67), (.t 69)]),
 oD 71 (.un .not (.t 70))])
 (.keep [0, 1, 5, 71]))
 (.cond (.t 71) (.seq (.seq (.ops none [oD 72 (.fieldAddr 3 (.t 5)),
 oD 73 (.load1 (.t 72)),
 oD 6 (.mov (.t 73)),
 oD 7 (.mov (.k (.int .i64 2)))])
 (.keep [6, 7]))
 .ret)
 .skip))
 (.seq (.seq (.seq (.ops none [oD 74 (.mov (.t 1)),
 oD 75 (.len .slice (.t 74)),
 oD 76 (.bin .gtr (.t 75) (.k (.int .i64 32))),
 oD 77 (.mov (.t 76)),
 oG 78 77 false (.fieldAddr 1 (.t 5)),
 oG 79 77 false (.load1 (.t 78)),
 oG 80 77 false (.eq false (.leaf .int) (.t 79) (.k (.int .u8 108))),
 oG 81 77 false (.mov (.t 80)),
 oG 82 81 true (.mov (.t 1)),
 oG 83 81 true (.call 119 [(.t 82), (.k (.int .u8 108))]),
 oG 84 81 true (.bin .geq (.t 83) (.k (.int .i64 8))),
 oG 85 77 false (.pick (.t 81) (.t 84) (.k (.bool false))),
 oD 86 (.pick (.t 77) (.k (.bool true)) (.t 85))])
 (.keep [0, 5, 86]))
 (.cond (.t 86) (.seq (.seq (.ops none [oD 87 (.fieldAddr 3 (.t 5)),
 oD 88 (.load1 (.t 87)),
 oD 6 (.mov (.t 88)),
 oD 7 (.mov (.k (.int .i64 5)))])
 (.keep [6, 7]))
 .ret)
 .skip))
 (.seq (.seq (.seq (.ops none [oD 89 (.mov (.t 0)),
 oD 90 (.len .slice (.t 89)),
 oD 91 (.bin .geq (.t 90) (.k (.int .i64 2000)))])
 (.keep [5, 91]))
 (.cond (.t 91) (.seq (.seq (.ops none [oD 92 (.fieldAddr 3 (.t 5)),
 oD 93 (.load1 (.t 92)),
 oD 6 (.mov (.t 93)),
 oD 7 (.mov (.k (.int .i64 4)))])
 (.keep [6, 7]))
 .ret)
 .skip))
 (.seq (.seq (.ops none [oD 6 (.mov (.k (.int .i64 0))),
 oD 7 (.mov (.k (.int .i64 0)))])
 (.keep [6, 7]))
 .ret))))
 .skip))
 (.seq (.seq (.seq (.ops none [oD 94 (.mov (.t 1)),
 oD 95 (.len .slice (.t 94)),
 oD 96 (.eq false (.leaf .int) (.t 95) (.k (.int .i64 1))),
 oD 97 (.mov (.t 96)),
 oG 98 97 false (.fieldAddr 0 (.t 8)),
 oG 99 97 false (.load1 (.t 98)),
 oG 100 97 false (.call 120 [(.t 99), (.k (.str [108, 116, 114]))]),
 oG 101 97 false (.mov (.t 100)),
 oG 102 101 true (.fieldAddr 1 (.t 8)),
 oG 103 101 true (.load1 (.t 102)),
 oG 104 101 true (.eq false (.leaf .str) (.t 103) (.k (.str []))),
 oG 105 97 false (.pick (.t 101) (.t 104) (.k (.bool false))),
 oD 106 (.pick (.t 97) (.k (.bool true)) (.t 105))])
 (.keep [1, 5, 8, 106]))
 (.cond (.t 106) (.seq (.seq (.ops none [oD 107 (.fieldAddr 3 (.t 5)),
 oD 108 (.load1 (.t 107)),
 oD 6 (.mov (.t 108)),
 oD 7 (.mov (.k (.int .i64 2)))])
 (.keep [6, 7]))
 .ret)
 .skip))
 (.seq (.seq (.ops (some [5, 134]) [oD 109 (.fieldAddr 0 (.t 8)),
 oD 110 (.load1 (.t 109)),
 oD 111 (.eq false (.leaf .int) (.t 110) (.k (.int .u8 114))),
 oD 112 (.mov (.t 111)),
 oG 113 112 true (.mov (.t 1)),
 oG 114 112 true (.mov (.t 1)),
 oG 115 112 true (.len .slice (.t 114)),
 oG 116 112 true (.bin .sub (.t 115) (.k (.int .i64 2))),
 oG 117 112 true (.idxSl 6 (.t 113) (.t 116)),
 oG 118 112 true (.fieldAddr 4 (.t 117)),
 oG 119 112 true (.load1 (.t 118)),
 oG 120 112 true (.bin .gtr (.t 119) (.k (.int .i64 0))),
 oD 121 (.pick (.t 112) (.t 120) (.k (.bool false))),
 oD 122 (.mov (.t 121)),
 oG 123 122 true (.mov (.t 1)),
 oG 124 122 true (.mov (.t 1)),
 oG 125 122 true (.len .slice (.t 124)),
 oG 126 122 true (.bin .sub (.t 125) (.k (.int .i64 2))),
 oG 127 122 true (.idxSl 6 (.t 123) (.t 126)),
 oG 128 122 true (.fieldAddr 4 (.t 127)),
 oG 129 122 true (.load1 (.t 128)),
 oG 130 122 true (.fieldAddr 1 (.t 8)),
 oG 131 122 true (.load1 (.t 130)),
 oG 132 122 true (.len .str (.t 131)),
 oG 133 122 true (.eq true (.leaf .int) (.t 129) (.t 132)),
 oD 134 (.pick (.t 122) (.t 133) (.k (.bool false)))])
 (.cond (.t 134) (.seq (.seq (.ops none [oD 135 (.fieldAddr 3 (.t 5)),
 oD 136 (.load1 (.t 135)),
 oD 6 (.mov (.t 136)),
 oD 7 (.mov (.k (.int .i64 2)))])
 (.keep [6, 7]))
 .ret)
 .skip))
 (.seq (.seq (.ops none [oD 6 (.mov (.k (.int .i64 0))),
 oD 7 (.mov (.k (.int .i64 0)))])
 (.keep [6, 7]))
 .ret)))))))
  results := [.tmp 6, .tmp 7]
theorem ok73 : FnOK Tryz.prog pureL 73 a73 := ⟨Tryz.f73, [(0, [0, 1, 5]), (1, [0, 1, 5, 8]), (2, [0, 1, 5, 8, 19]), (3, [0, 1, 5, 22]), (4, [5, 9]), (5, [5, 9, 27]), (7, [5, 9, 35]), (8, [6, 7]), (6, [5, 9]), (9, [6, 7]), (10, [0, 1, 5, 10]), (11, [5, 61]), (12, [6, 7]), (13, [6, 7]), (14, [0, 1, 5, 8, 66]), (15, [0, 1, 5, 71]), (16, [6, 7]), (17, [0, 5, 86]), (18, [6, 7]), (19, [5, 91]), (20, [6, 7]), (21, [6, 7]), (22, [1, 5, 8, 106]), (23, [6, 7]), (24, [5, 134]), (25, [6, 7]), (26, [6, 7])], [(0, [5, 9])], Tryz.func73, by kernel_rfl⟩
/-- stylus/stylusref05.texts -/
def a74 : AFunc where
  body :=
  (.seq (.seq (.ops none [oD 2 (.mov (.k .nilslice))])
 (.keep [0]))
 (.seq (.seq (.ops none [oD 9 (.buildSlice [] 4 0 []),
 oD 10 (.mov (.t 0)),
 oD 11 (.append 4 (.t 9) (.t 10)),
 oD 3 (.mov (.t 11))])
 (.keep [0, 3]))
 (.seq (.seq (.seq (.ops none [oD 4 (.mov (.k (.int .i64 0)))])
 (.keep [0, 3, 4]))
 (.block 0 (.loop (.seq (.keep [0, 3, 4])
 (.seq (.seq (.seq (.ops none [oD 12 (.mov (.t 4)),
 oD 13 (.mov (.t 0)),
 oD 14 (.len .slice (.t 13)),
 oD 15 (.bin .lss (.t 12) (.t 14))])
 (.keep [0, 3, 4, 15]))
 (.cond (.t 15) .skip
 (.exit 0)))
 (.seq (.block 1 (.seq (.seq (.ops none [oD 18 (.mov (.t 0)),
 oD 19 (.mov (.t 4)),
 oD 20 (.idxSl 4 (.t 18) (.t 19)),
 oD 21 (.fieldAddr 0 (.t 20)),
 oD 22 (.load1 (.t 21)),
 oD 23 (.eq false (.leaf .int) (.t 22) (.k (.int .u8 46)))])
 (.keep [0, 3, 4, 23]))
 (.cond (.t 23) (.seq (.ops none [oD 24 (.mov (.t 3)),
 oD 25 (.mov (.t 4)),
 oD 26 (.idxSl 4 (.t 24) (.t 25)),
 oD 27 (.fieldAddr 1 (.t 26)),
 oN (.store 1 (.t 27) (.k (.str [])))])
 (.keep [0, 3, 4]))
 .skip)))
 (.seq (.ops none [oD 16 (.mov (.t 4)),
 oD 17 (.bin .add (.t 16) (.k (.int .i64 1))),
 oD 4 (.mov (.t 17))])
 (.keep [0, 3, 4]))))))))
 (.seq (.seq (.seq (.ops none [oD 5 (.mov (.k (.int .i64 0)))])
 (.keep [0, 3, 5]))
 (.block 2 (.loop (.seq (.keep [0, 3, 5])
 (.seq (.seq (.seq (.ops none [oD 28 (.mov (.t 5)),
 oD 29 (.mov (.t 0)),
 oD 30 (.len .slice (.t 29)),
 oD 31 (.bin .lss (.t 28) (.t 30))])
 (.keep [0, 3, 5, 31]))
 (.cond (.t 31) .skip
 (.exit 2)))
 (.seq (.block 3 (.seq (.seq (.seq (.ops none [oD 34 (.mov (.t 0)),
 oD 35 (.mov (.t 5)),
 oD 36 (.idxSl 4 (.t 34) (.t 35)),
 oD 37 (.fieldAddr 0 (.t 36)),
 oD 38 (.load1 (.t 37)),
 oD 39 (.call 121 [(.t 38)]),
 oD 40 (.un .not (.t 39))])
 (.keep [0, 3, 5, 40]))
 (.cond (.t 40) (.exit 3)
 .skip))
 (.seq (.seq (.ops none [oD 41 (.mov (.t 0)),
 oD 42 (.mov (.t 5)),
 oD 43 (.call 123 [(.t 41), (.t 42)]),
 oD 44 (.call 122 [(.t 43)]),
 oD 6 (.mov (.t 44))])
 (.keep [0, 3, 5, 6]))
 (.seq (.seq (.ops none [oD 7 (.mov (.k (.int .i64 0)))])
 (.keep [0, 3, 5, 6, 7]))
 (.block 4 (.loop (.seq (.keep [0, 3, 5, 6, 7])
 (.seq (.seq (.seq (.ops none [oD 45 (.mov (.t 7)),
 oD 46 (.mov (.t 6)),
 oD 47 (.len .slice (.t 46)),
 oD 48 (.bin .lss (.t 45) (.t 47))])
 (.keep [0, 3, 5, 6, 7, 48]))
 (.cond (.t 48) .skip
 (.exit 4)))
 (.seq (.block 5 (.seq (.seq (.ops none [oD 51 (.mov (.t 6)),
 oD 52 (.mov (.t 7)),
 oD 53 (.idxSl 3 (.t 51) (.t 52)),
 oD 54 (.fieldAddr 1 (.t 53)),
 oD 55 (.load1 (.t 54)),
 oD 8 (.mov (.t 55))])
 (.keep [0, 3, 5, 6, 7, 8]))
 (.seq (.seq (.seq (.ops none [oD 56 (.mov (.t 3)),
 oD 57 (.mov (.t 8)),
 oD 58 (.idxSl 4 (.t 56) (.t 57)),
 oD 59 (.fieldAddr 1 (.t 58)),
 oD 60 (.load1 (.t 59)),
 oD 61 (.eq false (.leaf .str) (.t 60) (.k (.str [])))])
 (.keep [0, 3, 5, 6, 7, 8, 61]))
 (.cond (.t 61) (.ops (some [0, 3, 5, 6, 7, 8]) [oD 62 (.mov (.t 3)),
 oD 63 (.mov (.t 8)),
 oD 64 (.mov (.t 0)),
 oD 65 (.mov (.t 8)),
 oD 66 (.idxSl 4 (.t 64) (.t 65)),
 oD 67 (.fieldAddr 2 (.t 66)),
 oD 68 (.load1 (.t 67)),
 oD 69 (.mov (.t 6)),
 oD 70 (.mov (.t 7)),
 oD 71 (.idxSl 3 (.t 69) (.t 70)),
 oD 72 (.fieldAddr 2 (.t 71)),
 oD 73 (.load1 (.t 72)),
 oD 74 (.bin .add (.t 68) (.t 73)),
 oD 75 (.idxSl 4 (.t 62) (.t 63)),
 oD 76 (.fieldAddr 2 (.t 75)),
 oN (.store 1 (.t 76) (.t 74))])
 .skip))
 (.ops (some [0, 3, 5, 6, 7]) [oD 77 (.mov (.t 3)),
 oD 78 (.mov (.t 8)),
 oD 79 (.mov (.t 3)),
 oD 80 (.mov (.t 8)),
 oD 81 (.idxSl 4 (.t 79) (.t 80)),
 oD 82 (.fieldAddr 1 (.t 81)),
 oD 83 (.load1 (.t 82)),
 oD 84 (.mov (.t 6)),
 oD 85 (.mov (.t 7)),
 oD 86 (.idxSl 3 (.t 84) (.t 85)),
 oD 87 (.fieldAddr 0 (.t 86)),
 oD 88 (.load1 (.t 87)),
 oD 89 (.buildSlice [(.int .u8 0)] 1 1 [(0, 1, (.t 88))]),
 oD 90 (.bytesStr (.t 89)),
 oD 91 (.bin .add (.t 83) (.t 90)),
 oD 92 (.idxSl 4 (.t 77) (.t 78)),
 oD 93 (.fieldAddr 1 (.t 92)),
 oN (.store 1 (.t 93) (.t 91))]))))
 (.seq (.ops none [oD 49 (.mov (.t 7)),
 oD 50 (.bin .add (.t 49) (.k (.int .i64 1))),
 oD 7 (.mov (.t 50))])
 (.keep [0, 3, 5, 6, 7])))))))))))
 (.seq (.ops none [oD 32 (.mov (.t 5)),
 oD 33 (.bin .add (.t 32) (.k (.int .i64 1))),
 oD 5 (.mov (.t 33))])
 (.keep [0, 3, 5]))))))))
 (.seq (.seq (.ops none [oD 94 (.mov (.t 3)),
 oD 2 (.mov (.t 94))])
 (.keep [2]))
 .ret)))))
  results := [.tmp 2]
theorem ok74 : FnOK Tryz.prog pureL 74 a74 := ⟨Tryz.f74, [(0, [0]), (1, [0, 3]), (2, [0, 3, 4]), (3, [0, 3, 4, 15]), (5, [0, 3, 4, 23]), (6, [0, 3, 4]), (4, [0, 3, 4]), (7, [0, 3, 5]), (8, [0, 3, 5, 31]), (10, [0, 3, 5, 40]), (11, [0, 3, 5, 6]), (12, [0, 3, 5, 6, 7]), (13, [0, 3, 5, 6, 7, 48]), (15, [0, 3, 5, 6, 7, 8]), (16, [0, 3, 5, 6, 7, 8, 61]), (17, [0, 3, 5, 6, 7, 8]), (18, [0, 3, 5, 6, 7]), (14, [0, 3, 5, 6, 7]), (9, [0, 3, 5]), (19, [2])], [(0, [0, 3, 4]), (2, [0, 3, 5]), (4, [0, 3, 5, 6, 7])], Tryz.func74, by kernel_rfl⟩
/-- stylus/stylusref05.without -/
def a75 : AFunc where
  body :=
  (.seq (.seq (.ops none [oD 4 (.mov (.k .nilslice))])
 (.keep [0, 1]))
 (.seq (.seq (.ops none [oD 7 (.buildSlice [] 4 0 []),
 oD 8 (.mov (.t 0)),
 oD 9 (.mov (.t 1)),
 oD 10 (.sliceSl 4 (.t 8) none (some (.t 9))),
 oD 11 (.append 4 (.t 7) (.t 10)),
 oD 5 (.mov (.t 11))])
 (.keep [0, 1, 5]))
 (.seq (.seq (.seq (.ops none [oD 6 (.mov (.k (.int .i64 0)))])
 (.keep [0, 1, 5, 6]))
 (.block 0 (.loop (.seq (.keep [0, 1, 5, 6])
 (.seq (.seq (.seq (.ops none [oD 12 (.mov (.t 6)),
 oD 13 (.mov (.t 1)),
 oD 14 (.bin .lss (.t 12) (.t 13))])
 (.keep [0, 1, 5, 6, 14]))
 (.cond (.t 14) .skip
 (.exit 0)))
 (.seq (.block 1 (.seq (.seq (.ops none [oD 17 (.mov (.t 1)),
 oD 18 (.mov (.t 6)),
 oD 19 (.mov (.t 0)),
 oD 20 (.mov (.t 6)),
 oD 21 (.idxSl 4 (.t 19) (.t 20)),
 oD 22 (.fieldAddr 3 (.t 21)),
 oD 23 (.load1 (.t 22)),
 oD 24 (.bin .add (.t 18) (.t 23)),
 oD 25 (.bin .lss (.t 17) (.t 24))])
 (.keep [0, 1, 5, 6, 25]))
 (.cond (.t 25) (.seq (.ops none [oD 26 (.mov (.t 5)),
 oD 27 (.mov (.t 6)),
 oD 28 (.idxSl 4 (.t 26) (.t 27)),
 oD 29 (.fieldAddr 3 (.t 28)),
 oD 30 (.load1 (.t 29)),
 oD 31 (.bin .sub (.t 30) (.k (.int .i64 1))),
 oD 32 (.idxSl 4 (.t 26) (.t 27)),
 oD 33 (.fieldAddr 3 (.t 32)),
 oN (.store 1 (.t 33) (.t 31))])
 (.keep [0, 1, 5, 6]))
 .skip)))
 (.seq (.ops none [oD 15 (.mov (.t 6)),
 oD 16 (.bin .add (.t 15) (.k (.int .i64 1))),
 oD 6 (.mov (.t 16))])
 (.keep [0, 1, 5, 6]))))))))
 (.seq (.seq (.ops none [oD 34 (.mov (.t 5)),
 oD 35 (.mov (.t 0)),
 oD 36 (.mov (.t 1)),
 oD 37 (.bin .add (.t 36) (.k (.int .i64 1))),
 oD 38 (.sliceSl 4 (.t 35) (some (.t 37)) none),
 oD 39 (.append 4 (.t 34) (.t 38)),
 oD 4 (.mov (.t 39))])
 (.keep [4]))
 .ret))))
  results := [.tmp 4]
theorem ok75 : FnOK Tryz.prog pureL 75 a75 := ⟨Tryz.f75, [(0, [0, 1]), (1, [0, 1, 5]), (2, [0, 1, 5, 6]), (3, [0, 1, 5, 6, 14]), (5, [0, 1, 5, 6, 25]), (6, [0, 1, 5, 6]), (4, [0, 1, 5, 6]), (7, [4])], [(0, [0, 1, 5, 6])], Tryz.func75, by kernel_rfl⟩
/-- stylus/stylusref05.parent -/
def a76 : AFunc where
  body :=
  (.seq (.seq (.ops none [oD 4 (.mov (.k (.int .i64 0)))])
 (.keep [0, 1]))
 (.seq (.seq (.seq (.ops none [oD 6 (.mov (.t 1)),
 oD 7 (.bin .sub (.t 6) (.k (.int .i64 1))),
 oD 5 (.mov (.t 7))])
 (.keep [0, 1, 5]))
 (.block 0 (.loop (.seq (.keep [0, 1, 5])
 (.seq (.seq (.seq (.ops none [oD 8 (.mov (.t 5)),
 oD 9 (.bin .geq (.t 8) (.k (.int .i64 0)))])
 (.keep [0, 1, 5, 9]))
 (.cond (.t 9) .skip
 (.exit 0)))
 (.seq (.block 1 (.seq (.seq (.ops none [oD 12 (.mov (.t 1)),
 oD 13 (.mov (.t 5)),
 oD 14 (.mov (.t 0)),
 oD 15 (.mov (.t 5)),
 oD 16 (.idxSl 4 (.t 14) (.t 15)),
 oD 17 (.fieldAddr 3 (.t 16)),
 oD 18 (.load1 (.t 17)),
 oD 19 (.bin .add (.t 13) (.t 18)),
 oD 20 (.bin .lss (.t 12) (.t 19))])
 (.keep [0, 1, 5, 20]))
 (.cond (.t 20) (.seq (.seq (.ops none [oD 21 (.mov (.t 5)),
 oD 4 (.mov (.t 21))])
 (.keep [4]))
 .ret)
 .skip)))
 (.seq (.ops none [oD 10 (.mov (.t 5)),
 oD 11 (.bin .sub (.t 10) (.k (.int .i64 1))),
 oD 5 (.mov (.t 11))])
 (.keep [0, 1, 5]))))))))
 (.seq (.seq (.ops none [oD 4 (.mov (.k (.int .i64 (-1))))])
 (.keep [4]))
 .ret)))
  results := [.tmp 4]
theorem ok76 : FnOK Tryz.prog pureL 76 a76 := ⟨Tryz.f76, [(0, [0, 1]), (1, [0, 1, 5]), (2, [0, 1, 5, 9]), (4, [0, 1, 5, 20]), (5, [4]), (3, [0, 1, 5]), (6, [4])], [(0, [0, 1, 5])], Tryz.func76, by kernel_rfl⟩
/-- stylus/stylusref07.Toks -/
def a77 : AFunc where
  body :=
  (.seq (.seq (.ops none [oD 8 (.mov (.k .nilslice))])
 (.keep [0, 1, 2, 3]))
 (.seq (.block 0 (.loop (.seq (.keep [0, 1, 2, 3])
 (.seq (.seq (.seq (.ops none [oD 11 (.mov (.t 2)),
 oD 12 (.mov (.t 3)),
 oD 13 (.bin .lss (.t 11) (.t 12))])
 (.keep [0, 1, 2, 3, 13]))
 (.cond (.t 13) .skip
 (.exit 0)))
 (.block 1 (.seq (.seq (.ops none [oD 14 (.mov (.t 1)),
 oD 15 (.mov (.t 2)),
 oD 16 (.idxSl 4 (.t 14) (.t 15)),
 oD 17 (.loadN 4 (.t 16)),
 oD 9 (.alloc [(.int .u8 0), (.str []), (.int .i64 0), (.int .i64 0)]),
 oN (.store 4 (.t 9) (.t 17))])
 (.keep [0, 1, 2, 3, 9]))
 (.seq (.seq (.seq (.ops none [oD 18 (.fieldAddr 0 (.t 9)),
 oD 19 (.load1 (.t 18)),
 oD 20 (.eq false (.leaf .int) (.t 19) (.k (.int .u8 46)))])
 (.keep [0, 1, 2, 3, 9, 20]))
 (.cond (.t 20) (.seq (.seq (.ops none [oD 10 (.mov (.k (.int .i64 0)))])
 (.keep [0, 1, 2, 3, 9, 10]))
 (.block 2 (.loop (.seq (.keep [0, 1, 2, 3, 9, 10])
 (.seq (.seq (.seq (.ops none [oD 21 (.mov (.t 10)),
 oD 22 (.fieldAddr 1 (.t 9)),
 oD 23 (.load1 (.t 22)),
 oD 24 (.len .str (.t 23)),
 oD 25 (.bin .lss (.t 21) (.t 24))])
 (.keep [0, 1, 2, 3, 9, 10, 25]))
 (.cond (.t 25) .skip
 (.exit 2)))
 (.seq (.block 3 (.ops (some [0, 1, 2, 3, 9, 10]) [oD 28 (.mov (.t 0)),
 oD 29 (.fieldAddr 1 (.t 9)),
 oD 30 (.load1 (.t 29)),
 oD 31 (.mov (.t 10)),
 oD 32 (.indexStr (.t 30) (.t 31)),
 oD 33 (.fieldAddr 2 (.t 9)),
 oD 34 (.load1 (.t 33)),
 oD 35 (.mov (.t 10)),
 oD 36 (.bin .add (.t 34) (.t 35)),
 oD 37 (.build [(.int .i64 0), (.int .u8 0), (.int .i64 0)] [(0, 1, (.k (.int .i64 1))), (1, 1, (.t 32)), (2, 1, (.t 36))]),
 oD 38 (.buildSlice [(.int .i64 0), (.int .u8 0), (.int .i64 0)] 3 1 [(0, 3, (.t 37))]),
 oD 39 (.append 3 (.t 28) (.t 38)),
 oD 0 (.mov (.t 39))]))
 (.seq (.ops none [oD 26 (.mov (.t 10)),
 oD 27 (.bin .add (.t 26) (.k (.int .i64 1))),
 oD 10 (.mov (.t 27))])
 (.keep [0, 1, 2, 3, 9, 10]))))))))
 (.seq (.seq (.ops none [oD 40 (.mov (.t 0)),
 oD 41 (.fieldAddr 0 (.t 9)),
 oD 42 (.load1 (.t 41)),
 oD 43 (.fieldAddr 2 (.t 9)),
 oD 44 (.load1 (.t 43)),
 oD 45 (.build [(.int .i64 0), (.int .u8 0), (.int .i64 0)] [(0, 1, (.k (.int .i64 2))), (1, 1, (.t 42)), (2, 1, (.t 44))]),
 oD 46 (.buildSlice [(.int .i64 0), (.int .u8 0), (.int .i64 0)] 3 1 [(0, 3, (.t 45))]),
 oD 47 (.append 3 (.t 40) (.t 46)),
 oD 0 (.mov (.t 47))])
 (.keep [0, 1, 2, 3, 9]))
 (.seq (.seq (.ops none [oD 48 (.mov (.t 0)),
 oD 49 (.mov (.t 1)),
 oD 50 (.mov (.t 2)),
 oD 51 (.bin .add (.t 50) (.k (.int .i64 1))),
 oD 52 (.mov (.t 2)),
 oD 53 (.fieldAddr 3 (.t 9)),
 oD 54 (.load1 (.t 53)),
 oD 55 (.bin .add (.t 52) (.t 54)),
 oD 56 (.call 77 [(.t 48), (.t 49), (.t 51), (.t 55)]),
 oD 0 (.mov (.t 56))])
 (.keep [0, 1, 2, 3, 9]))
 (.ops (some [0, 1, 2, 3, 9]) [oD 57 (.mov (.t 0)),
 oD 58 (.fieldAddr 0 (.t 9)),
 oD 59 (.load1 (.t 58)),
 oD 60 (.mov (.t 0)),
 oD 61 (.mov (.t 0)),
 oD 62 (.len .slice (.t 61)),
 oD 63 (.bin .sub (.t 62) (.k (.int .i64 1))),
 oD 64 (.idxSl 3 (.t 60) (.t 63)),
 oD 65 (.fieldAddr 2 (.t 64)),
 oD 66 (.load1 (.t 65)),
 oD 67 (.build [(.int .i64 0), (.int .u8 0), (.int .i64 0)] [(0, 1, (.k (.int .i64 3))), (1, 1, (.t 59)), (2, 1, (.t 66))]),
 oD 68 (.buildSlice [(.int .i64 0), (.int .u8 0), (.int .i64 0)] 3 1 [(0, 3, (.t 67))]),
 oD 69 (.append 3 (.t 57) (.t 68)),
 oD 0 (.mov (.t 69))])))))
 (.seq (.ops none [oD 70 (.mov (.t 2)),
 oD 71 (.fieldAddr 3 (.t 9)),
 oD 72 (.load1 (.t 71)),
 oD 73 (.bin .add (.t 70) (.t 72)),
 oD 2 (.mov (.t 73))])
 (.keep [0, 1, 2, 3])))))))))
 (.seq (.seq (.ops none [oD 74 (.mov (.t 0)),
 oD 8 (.mov (.t 74))])
 (.keep [8]))
 .ret)))
  results := [.tmp 8]
theorem ok77 : FnOK Tryz.prog pureL 77 a77 := ⟨Tryz.f77, [(0, [0, 1, 2, 3]), (1, [0, 1, 2, 3, 13]), (2, [0, 1, 2, 3, 9]), (3, [0, 1, 2, 3, 9, 20]), (8, [0, 1, 2, 3, 9]), (9, [0, 1, 2, 3, 9]), (10, [0, 1, 2, 3, 9]), (4, [0, 1, 2, 3, 9, 10]), (5, [0, 1, 2, 3, 9, 10, 25]), (7, [0, 1, 2, 3, 9, 10]), (6, [0, 1, 2, 3, 9, 10]), (11, [0, 1, 2, 3]), (12, [8])], [(0, [0, 1, 2, 3]), (2, [0, 1, 2, 3, 9, 10])], Tryz.func77, by kernel_rfl⟩
/-- slices.IndexFunc[[]stylus/api.Tok,stylus/api.Tok] -/
def a78 : AFunc where
  body :=
  (.seq (.seq (.ops none [oD 4 (.mov (.k (.int .i64 0)))])
 (.keep [0, 1]))
 (.seq (.seq (.seq (.ops none [oD 6 (.mov (.t 0)),
 oD 7 (.len .slice (.t 6)),
 oD 8 (.mov (.k (.int .i64 0)))])
 (.keep [0, 1, 7, 8]))
 (.block 0 (.loop (.seq (.keep [0, 1, 7, 8])
 (.seq (.seq (.ops none [oD 9 (.bin .lss (.t 8) (.t 7))])
 (.keep [0, 1, 7, 8, 9]))
 (.seq (.cond (.t 9) .skip
 (.exit 0))
 (.seq (.block 1 (.seq (.seq (.ops none [oD 10 (.mov (.t 8)),
 oD 5 (.mov (.t 10))])
 (.keep [0, 1, 5, 7, 8]))
 (.seq (.seq (.ops none [oD 11 (.mov (.t 1)),
 oD 12 (.mov (.t 0)),
 oD 13 (.mov (.t 5)),
 oD 14 (.idxSl 3 (.t 12) (.t 13)),
 oD 15 (.loadN 3 (.t 14)),
 oD 16 (.callv (.t 11) [(.t 15)])])
 (.keep [0, 1, 5, 7, 8, 16]))
 (.cond (.t 16) (.seq (.seq (.ops none [oD 17 (.mov (.t 5)),
 oD 4 (.mov (.t 17))])
 (.keep [4]))
 .ret)
 .skip))))
 (.seq (.ops none [oD 18 (.bin .add (.t 8) (.k (.int .i64 1))),
 oD 8 (.mov (.t 18))])
 (.keep [0, 1, 7, 8])))))))))
 (.seq (.seq (.ops none [oD 4 (.mov (.k (.int .i64 (-1))))])
 (.keep [4]))
 .ret)))
  results := [.tmp 4]
theorem ok78 : FnOK Tryz.prog pureL 78 a78 := ⟨Tryz.f78, [(0, [0, 1]), (1, [0, 1, 7, 8]), (2, [0, 1, 7, 8, 9]), (3, [0, 1, 5, 7, 8]), (4, [0, 1, 5, 7, 8, 16]), (5, [4]), (6, [0, 1, 7, 8]), (7, [4])], [(0, [0, 1, 7, 8])], Tryz.func78, by kernel_rfl⟩
/-- slices.ContainsFunc[[]stylus/api.Node,stylus/api.Node] -/
def a79 : AFunc where
  body :=
  (.seq (.seq (.ops none [oD 4 (.mov (.k (.bool false)))])
 (.keep [0, 1]))
 (.seq (.seq (.ops none [oD 5 (.mov (.t 0)),
 oD 6 (.mov (.t 1)),
 oD 7 (.call 124 [(.t 5), (.t 6)]),
 oD 8 (.bin .geq (.t 7) (.k (.int .i64 0))),
 oD 4 (.mov (.t 8))])
 (.keep [4]))
 .ret))
  results := [.tmp 4]
theorem ok79 : FnOK Tryz.prog pureL 79 a79 := ⟨Tryz.f79, [(0, [0, 1]), (1, [4])], [], Tryz.func79, by kernel_rfl⟩
/-- stylus/tree.Check$1 -/
def a80 : AFunc where
  body :=
  (.seq (.seq (.ops none [oD 1 (.box (.t 0)),
 oD 2 (.mov (.k (.bool false)))])
 (.keep [1]))
 (.seq (.seq (.ops none [oD 3 (.loadN 4 (.t 1)),
 oD 4 (.call 81 [(.t 3)]),
 oD 5 (.un .not (.t 4)),
 oD 2 (.mov (.t 5))])
 (.keep [2]))
 .ret))
  results := [.tmp 2]
theorem ok80 : FnOK Tryz.prog pureL 80 a80 := ⟨Tryz.f80, [(0, [1]), (1, [2])], [], Tryz.func80, by kernel_rfl⟩
/-- stylus/tree.plain -/
def a81 : AFunc where
  body :=
  (.seq (.seq (.ops none [oD 1 (.box (.t 0)),
 oD 2 (.mov (.k (.bool false)))])
 (.keep [1]))
 (.seq (.seq (.seq (.ops none [oD 4 (.fieldAddr 0 (.t 1)),
 oD 5 (.load1 (.t 4)),
 oD 6 (.eq true (.leaf .int) (.t 5) (.k (.int .u8 46)))])
 (.keep [1, 6]))
 (.cond (.t 6) (.seq (.seq (.ops none [oD 7 (.fieldAddr 1 (.t 1)),
 oD 8 (.load1 (.t 7)),
 oD 9 (.eq false (.leaf .str) (.t 8) (.k (.str []))),
 oD 10 (.mov (.t 9)),
 oG 11 10 true (.fieldAddr 0 (.t 1)),
 oG 12 10 true (.load1 (.t 11)),
 oG 13 10 true (.call 125 [(.t 12)]),
 oG 14 10 true (.eq true (.leaf .str) (.t 13) (.k (.str []))),
 oD 15 (.pick (.t 10) (.t 14) (.k (.bool false))),
 oD 2 (.mov (.t 15))])
 (.keep [2]))
 .ret)
 .skip))
 (.seq (.seq (.ops none [oD 3 (.mov (.k (.func (.fn 126) [] [])))])
 (.keep [1, 3]))
 (.seq (.seq (.ops none [oD 16 (.fieldAddr 1 (.t 1)),
 oD 17 (.load1 (.t 16)),
 oD 18 (.eq true (.leaf .str) (.t 17) (.k (.str []))),
 oD 19 (.mov (.t 18)),
 oG 20 19 true (.fieldAddr 3 (.t 1)),
 oG 21 19 true (.load1 (.t 20)),
 oG 22 19 true (.eq false (.leaf .int) (.t 21) (.k (.int .i64 1))),
 oD 23 (.pick (.t 19) (.t 22) (.k (.bool false))),
 oD 24 (.mov (.t 23)),
 oG 25 24 true (.fieldAddr 1 (.t 1)),
 oG 26 24 true (.load1 (.t 25)),
 oG 27 24 true (.mov (.t 3)),
 oG 28 24 true (.call 129 [(.t 26), (.t 27)]),
 oG 29 24 true (.un .not (.t 28)),
 oD 30 (.pick (.t 24) (.t 29) (.k (.bool false))),
 oD 2 (.mov (.t 30))])
 (.keep [2]))
 .ret))))
  results := [.tmp 2]
theorem ok81 : FnOK Tryz.prog pureL 81 a81 := ⟨Tryz.f81, [(0, [1]), (1, [1, 6]), (2, [2]), (3, [1, 3]), (4, [2])], [], Tryz.func81, by kernel_rfl⟩
/-- stylus/tree.sized -/
def a82 : AFunc where
  body :=
  (.seq (.seq (.ops none [oD 6 (.mov (.k (.bool false)))])
 (.keep [0, 1, 2]))
 (.seq (.block 0 (.loop (.seq (.keep [0, 1, 2])
 (.seq (.seq (.seq (.ops none [oD 8 (.mov (.t 1)),
 oD 9 (.mov (.t 2)),
 oD 10 (.bin .lss (.t 8) (.t 9))])
 (.keep [0, 1, 2, 10]))
 (.cond (.t 10) .skip
 (.exit 0)))
 (.block 1 (.seq (.seq (.ops none [oD 11 (.mov (.t 0)),
 oD 12 (.mov (.t 1)),
 oD 13 (.idxSl 4 (.t 11) (.t 12)),
 oD 14 (.loadN 4 (.t 13)),
 oD 7 (.alloc [(.int .u8 0), (.str []), (.int .i64 0), (.int .i64 0)]),
 oN (.store 4 (.t 7) (.t 14))])
 (.keep [0, 1, 2, 7]))
 (.seq (.seq (.seq (.ops none [oD 15 (.fieldAddr 3 (.t 7)),
 oD 16 (.load1 (.t 15)),
 oD 17 (.bin .lss (.t 16) (.k (.int .i64 1))),
 oD 18 (.mov (.t 17)),
 oG 19 18 false (.fieldAddr 3 (.t 7)),
 oG 20 18 false (.load1 (.t 19)),
 oG 21 18 false (.mov (.t 2)),
 oG 22 18 false (.mov (.t 1)),
 oG 23 18 false (.bin .sub (.t 21) (.t 22)),
 oG 24 18 false (.bin .gtr (.t 20) (.t 23)),
 oD 25 (.pick (.t 18) (.k (.bool true)) (.t 24)),
 oD 26 (.mov (.t 25)),
 oG 27 26 false (.mov (.t 0)),
 oG 28 26 false (.mov (.t 1)),
 oG 29 26 false (.bin .add (.t 28) (.k (.int .i64 1))),
 oG 30 26 false (.mov (.t 1)),
 oG 31 26 false (.fieldAddr 3 (.t 7)),
 oG 32 26 false (.load1 (.t 31)),
 oG 33 26 false (.bin .add (.t 30) (.t 32)),
 oG 34 26 false (.call 82 [(.t 27), (.t 29), (.t 33)]),
 oG 35 26 false (.un .not (.t 34)),
 oD 36 (.pick (.t 26) (.k (.bool true)) (.t 35))])
 (.keep [0, 1, 2, 7, 36]))
 (.cond (.t 36) (.seq (.seq (.ops none [oD 6 (.mov (.k (.bool false)))])
 (.keep [6]))
 .ret)
 .skip))
 (.seq (.ops none [oD 37 (.mov (.t 1)),
 oD 38 (.fieldAddr 3 (.t 7)),
 oD 39 (.load1 (.t 38)),
 oD 40 (.bin .add (.t 37) (.t 39)),
 oD 1 (.mov (.t 40))])
 (.keep [0, 1, 2])))))))))
 (.seq (.seq (.ops none [oD 6 (.mov (.k (.bool true)))])
 (.keep [6]))
 .ret)))
  results := [.tmp 6]
theorem ok82 : FnOK Tryz.prog pureL 82 a82 := ⟨Tryz.f82, [(0, [0, 1, 2]), (1, [0, 1, 2, 10]), (2, [0, 1, 2, 7]), (3, [0, 1, 2, 7, 36]), (4, [6]), (5, [0, 1, 2]), (6, [6])], [(0, [0, 1, 2])], Tryz.func82, by kernel_rfl⟩
/-- stylus/tree.begin -/
def a83 : AFunc where
  body :=
  (.seq (.seq (.ops none [oD 0 (.mov (.k .nilptr))])
 (.keep []))
 (.seq (.seq (.ops none [oD 1 (.call 130 []),
 oD 2 (.build [.nilslice, .nilslice, .nilmap] [(2, 1, (.t 1))]),
 oD 3 (.box (.t 2)),
 oD 0 (.mov (.t 3))])
 (.keep [0]))
 .ret))
  results := [.tmp 0]
theorem ok83 : FnOK Tryz.prog pureL 83 a83 := ⟨Tryz.f83, [(0, []), (1, [0])], [], Tryz.func83, by kernel_rfl⟩
/-- (*stylus/tree.builder).texts -/
def a84 : AFunc where
  body :=
  (.seq (.seq (.ops none [oD 3 (.box (.t 1)),
 oD 4 (.mov (.k (.int .i64 0))),
 oD 5 (.mov (.k (.int .i64 0)))])
 (.keep [0, 3]))
 (.seq (.seq (.seq (.ops none [oD 10 (.mov (.t 0)),
 oD 11 (.call 88 [(.t 10), (.k (.int .u8 46))]),
 oD 12 (.un .not (.t 11))])
 (.keep [0, 3, 12]))
 (.cond (.t 12) (.seq (.seq (.seq (.ops none [oD 13 (.fieldAddr 2 (.t 3)),
 oD 14 (.load1 (.t 13)),
 oD 15 (.strBytes (.t 14)),
 oD 16 (.len .slice (.t 15)),
 oD 17 (.mov (.k (.int .i64 0)))])
 (.keep [3, 15, 16, 17]))
 (.block 0 (.loop (.seq (.keep [3, 15, 16, 17])
 (.seq (.seq (.ops none [oD 18 (.bin .lss (.t 17) (.t 16))])
 (.keep [3, 15, 16, 17, 18]))
 (.seq (.cond (.t 18) .skip
 (.exit 0))
 (.seq (.block 1 (.seq (.seq (.ops none [oD 19 (.mov (.t 17)),
 oD 20 (.idxSl 1 (.t 15) (.t 17)),
 oD 21 (.load1 (.t 20)),
 oD 6 (.mov (.t 19)),
 oD 7 (.mov (.t 21))])
 (.keep [3, 6, 7, 15, 16, 17]))
 (.seq (.seq (.ops none [oD 22 (.mov (.t 7)),
 oD 23 (.call 128 [(.t 22)]),
 oD 24 (.un .not (.t 23))])
 (.keep [3, 6, 15, 16, 17, 24]))
 (.cond (.t 24) (.seq (.seq (.ops none [oD 25 (.fieldAddr 3 (.t 3)),
 oD 26 (.load1 (.t 25)),
 oD 27 (.mov (.t 6)),
 oD 28 (.bin .add (.t 26) (.t 27)),
 oD 4 (.mov (.t 28)),
 oD 5 (.mov (.k (.int .i64 2)))])
 (.keep [4, 5]))
 .ret)
 .skip))))
 (.seq (.ops none [oD 29 (.bin .add (.t 17) (.k (.int .i64 1))),
 oD 17 (.mov (.t 29))])
 (.keep [3, 15, 16, 17])))))))))
 (.seq (.seq (.ops none [oD 30 (.fieldAddr 3 (.t 3)),
 oD 31 (.load1 (.t 30)),
 oD 4 (.mov (.t 31)),
 oD 5 (.mov (.k (.int .i64 0)))])
 (.keep [4, 5]))
 .ret))
 .skip))
 (.seq (.seq (.ops none [oD 32 (.mov (.t 0)),
 oD 33 (.fieldAddr 2 (.t 3)),
 oD 34 (.load1 (.t 33)),
 oD 35 (.fieldAddr 3 (.t 3)),
 oD 36 (.load1 (.t 35)),
 oD 37 (.build [(.int .u8 0), (.str []), (.int .i64 0), (.int .i64 0)] [(0, 1, (.k (.int .u8 46))), (1, 1, (.t 34)), (2, 1, (.t 36)), (3, 1, (.k (.int .i64 1)))]),
 oD 38 (.call 131 [(.t 32), (.t 37)]),
 oD 8 (.mov (.t 38))])
 (.keep [0, 3, 8]))
 (.seq (.seq (.seq (.ops none [oD 39 (.mov (.t 0)),
 oD 40 (.nilCheck (.t 39)),
 oD 41 (.fieldAddr 0 (.t 40)),
 oD 42 (.load1 (.t 41)),
 oD 43 (.call 132 [(.t 42), (.k (.str [110]))]),
 oD 9 (.mov (.t 43))])
 (.keep [3, 8, 9]))
 (.seq (.seq (.ops none [oD 44 (.mov (.t 9)),
 oD 45 (.eq true .ptr (.t 44) (.k .nilptr))])
 (.keep [3, 8, 9, 45]))
 (.cond (.t 45) (.seq (.ops (some [3, 8, 9]) [oD 46 (.mov (.t 9)),
 oD 47 (.nilCheck (.t 46)),
 oD 48 (.fieldAddr 6 (.t 47)),
 oD 49 (.load1 (.t 48)),
 oD 50 (.fieldAddr 2 (.t 3)),
 oD 51 (.load1 (.t 50)),
 oD 52 (.len .str (.t 51)),
 oD 53 (.bin .add (.t 49) (.t 52)),
 oD 54 (.nilCheck (.t 46)),
 oD 55 (.fieldAddr 6 (.t 54)),
 oN (.store 1 (.t 55) (.t 53))])
 (.seq (.seq (.ops none [oD 56 (.mov (.t 9)),
 oD 57 (.nilCheck (.t 56)),
 oD 58 (.fieldAddr 6 (.t 57)),
 oD 59 (.load1 (.t 58)),
 oD 60 (.bin .gtr (.t 59) (.k (.int .i64 60)))])
 (.keep [3, 8, 60]))
 (.cond (.t 60) (.seq (.ops none [oD 8 (.mov (.k (.int .i64 4)))])
 (.keep [3, 8]))
 .skip)))
 .skip)))
 (.seq (.seq (.ops none [oD 61 (.fieldAddr 3 (.t 3)),
 oD 62 (.load1 (.t 61)),
 oD 63 (.mov (.t 8)),
 oD 4 (.mov (.t 62)),
 oD 5 (.mov (.t 63))])
 (.keep [4, 5]))
 .ret)))))
  results := [.tmp 4, .tmp 5]
theorem ok84 : FnOK Tryz.prog pureL 84 a84 := ⟨Tryz.f84, [(0, [0, 3]), (1, [0, 3, 12]), (2, [3, 15, 16, 17]), (3, [3, 15, 16, 17, 18]), (4, [3, 6, 7, 15, 16, 17]), (5, [3, 6, 15, 16, 17, 24]), (6, [4, 5]), (7, [3, 15, 16, 17]), (8, [4, 5]), (9, [0, 3, 8]), (10, [3, 8, 9]), (11, [3, 8, 9, 45]), (12, [3, 8, 9]), (13, [3, 8, 60]), (14, [3, 8]), (15, [4, 5])], [(0, [3, 15, 16, 17])], Tryz.func84, by kernel_rfl⟩
/-- (*stylus/tree.builder).opens -/
def a85 : AFunc where
  body :=
  (.seq (.seq (.ops none [oD 3 (.box (.t 1)),
 oD 4 (.mov (.k (.int .i64 0))),
 oD 5 (.mov (.k (.int .i64 0)))])
 (.keep [0, 3]))
 (.seq (.seq (.seq (.ops none [oD 7 (.mov (.t 0)),
 oD 8 (.fieldAddr 1 (.t 3)),
 oD 9 (.load1 (.t 8)),
 oD 10 (.call 88 [(.t 7), (.t 9)]),
 oD 11 (.un .not (.t 10))])
 (.keep [0, 3, 11]))
 (.cond (.t 11) (.seq (.seq (.ops none [oD 12 (.fieldAddr 3 (.t 3)),
 oD 13 (.load1 (.t 12)),
 oD 4 (.mov (.t 13)),
 oD 5 (.mov (.k (.int .i64 2)))])
 (.keep [4, 5]))
 .ret)
 .skip))
 (.seq (.seq (.seq (.ops none [oD 14 (.fieldAddr 1 (.t 3)),
 oD 15 (.load1 (.t 14))])
 (.keep [0, 3, 15]))
 (.block 0 (.seq (.seq (.ops none [oD 17 (.eq false (.leaf .int) (.t 15) (.k (.int .u8 110))),
 oD 16 (.mov (.t 17))])
 (.keep [0, 3, 15, 16]))
 (.cond (.t 16) (.seq (.ops none [oD 18 (.mov (.t 0)),
 oD 19 (.nilCheck (.t 18)),
 oD 20 (.fieldAddr 0 (.t 19)),
 oD 21 (.load1 (.t 20)),
 oD 22 (.call 132 [(.t 21), (.k (.str [49, 50, 51, 112, 105]))]),
 oD 23 (.nilCheck (.t 22)),
 oD 24 (.fieldAddr 3 (.t 23)),
 oD 25 (.load1 (.t 24)),
 oD 26 (.bin .add (.t 25) (.k (.int .i64 1))),
 oD 27 (.nilCheck (.t 22)),
 oD 28 (.fieldAddr 3 (.t 27)),
 oN (.store 1 (.t 28) (.t 26))])
 (.keep [0, 3]))
 (.seq (.seq (.ops none [oD 30 (.eq false (.leaf .int) (.t 15) (.k (.int .u8 108))),
 oD 29 (.mov (.t 30))])
 (.keep [0, 3, 29]))
 (.cond (.t 29) (.seq (.ops none [oD 31 (.mov (.t 0)),
 oD 32 (.nilCheck (.t 31)),
 oD 33 (.fieldAddr 0 (.t 32)),
 oD 34 (.load1 (.t 33)),
 oD 35 (.call 133 [(.t 34)]),
 oD 36 (.nilCheck (.t 35)),
 oD 37 (.fieldAddr 4 (.t 36)),
 oN (.store 1 (.t 37) (.k (.bool true)))])
 (.keep [0, 3]))
 .skip))))))
 (.seq (.seq (.ops none [oD 38 (.mov (.t 0)),
 oD 39 (.fieldAddr 1 (.t 3)),
 oD 40 (.load1 (.t 39)),
 oD 41 (.fieldAddr 3 (.t 3)),
 oD 42 (.load1 (.t 41)),
 oD 43 (.build [(.int .u8 0), (.str []), (.int .i64 0), (.int .i64 0)] [(0, 1, (.t 40)), (2, 1, (.t 42)), (3, 1, (.k (.int .i64 1)))]),
 oD 44 (.call 131 [(.t 38), (.t 43)]),
 oD 6 (.mov (.t 44))])
 (.keep [0, 3, 6]))
 (.seq (.ops (some [0, 3, 6]) [oD 45 (.mov (.t 0)),
 oD 46 (.mov (.t 0)),
 oD 47 (.nilCheck (.t 46)),
 oD 48 (.fieldAddr 0 (.t 47)),
 oD 49 (.load1 (.t 48)),
 oD 50 (.fieldAddr 1 (.t 3)),
 oD 51 (.load1 (.t 50)),
 oD 52 (.mov (.t 0)),
 oD 53 (.nilCheck (.t 52)),
 oD 54 (.fieldAddr 1 (.t 53)),
 oD 55 (.load1 (.t 54)),
 oD 56 (.len .slice (.t 55)),
 oD 57 (.bin .sub (.t 56) (.k (.int .i64 1))),
 oD 58 (.build [(.int .u8 0), (.int .i64 0), (.int .i64 0), (.int .i64 0), (.bool false), (.int .i64 0), (.int .i64 0)] [(0, 1, (.t 51)), (1, 1, (.t 57))]),
 oD 59 (.buildSlice [(.int .u8 0), (.int .i64 0), (.int .i64 0), (.int .i64 0), (.bool false), (.int .i64 0), (.int .i64 0)] 7 1 [(0, 7, (.t 58))]),
 oD 60 (.append 7 (.t 49) (.t 59)),
 oD 61 (.nilCheck (.t 45)),
 oD 62 (.fieldAddr 0 (.t 61)),
 oN (.store 1 (.t 62) (.t 60))])
 (.seq (.seq (.seq (.ops none [oD 63 (.mov (.t 0)),
 oD 64 (.nilCheck (.t 63)),
 oD 65 (.fieldAddr 0 (.t 64)),
 oD 66 (.load1 (.t 65)),
 oD 67 (.len .slice (.t 66)),
 oD 68 (.bin .gtr (.t 67) (.k (.int .i64 32))),
 oD 69 (.mov (.t 68)),
 oG 70 69 false (.mov (.t 0)),
 oG 71 69 false (.nilCheck (.t 70)),
 oG 72 69 false (.fieldAddr 0 (.t 71)),
 oG 73 69 false (.load1 (.t 72)),
 oG 74 69 false (.call 134 [(.t 73), (.k (.int .u8 108))]),
 oG 75 69 false (.bin .gtr (.t 74) (.k (.int .i64 8))),
 oD 76 (.pick (.t 69) (.k (.bool true)) (.t 75))])
 (.keep [3, 6, 76]))
 (.cond (.t 76) (.seq (.ops none [oD 6 (.mov (.k (.int .i64 5)))])
 (.keep [3, 6]))
 .skip))
 (.seq (.seq (.ops none [oD 77 (.fieldAddr 3 (.t 3)),
 oD 78 (.load1 (.t 77)),
 oD 79 (.mov (.t 6)),
 oD 4 (.mov (.t 78)),
 oD 5 (.mov (.t 79))])
 (.keep [4, 5]))
 .ret)))))))
  results := [.tmp 4, .tmp 5]
theorem ok85 : FnOK Tryz.prog pureL 85 a85 := ⟨Tryz.f85, [(0, [0, 3]), (1, [0, 3, 11]), (2, [4, 5]), (3, [0, 3, 15]), (4, [0, 3, 15, 16]), (6, [0, 3, 29]), (7, [0, 3]), (5, [0, 3]), (8, [0, 3, 6]), (9, [0, 3, 6]), (10, [3, 6, 76]), (11, [3, 6]), (12, [4, 5])], [], Tryz.func85, by kernel_rfl⟩
/-- (*stylus/tree.builder).shuts -/
def a86 : AFunc where
  body :=
  (.seq (.seq (.ops none [oD 3 (.box (.t 1)),
 oD 4 (.mov (.k (.int .i64 0))),
 oD 5 (.mov (.k (.int .i64 0)))])
 (.keep [0, 3]))
 (.seq (.seq (.seq (.ops none [oD 7 (.mov (.t 0)),
 oD 8 (.nilCheck (.t 7)),
 oD 9 (.fieldAddr 0 (.t 8)),
 oD 10 (.load1 (.t 9)),
 oD 11 (.len .slice (.t 10)),
 oD 12 (.eq false (.leaf .int) (.t 11) (.k (.int .i64 0)))])
 (.keep [0, 3, 12]))
 (.cond (.t 12) (.seq (.seq (.ops none [oD 13 (.fieldAddr 3 (.t 3)),
 oD 14 (.load1 (.t 13)),
 oD 4 (.mov (.t 14)),
 oD 5 (.mov (.k (.int .i64 2)))])
 (.keep [4, 5]))
 .ret)
 .skip))
 (.seq (.seq (.ops none [oD 15 (.mov (.t 0)),
 oD 16 (.nilCheck (.t 15)),
 oD 17 (.fieldAddr 0 (.t 16)),
 oD 18 (.load1 (.t 17)),
 oD 19 (.call 133 [(.t 18)]),
 oD 20 (.nilCheck (.t 19)),
 oD 21 (.loadN 7 (.t 20)),
 oD 6 (.alloc [(.int .u8 0), (.int .i64 0), (.int .i64 0), (.int .i64 0), (.bool false), (.int .i64 0), (.int .i64 0)]),
 oN (.store 7 (.t 6) (.t 21))])
 (.keep [0, 3, 6]))
 (.seq (.ops (some [0, 3, 6]) [oD 22 (.mov (.t 0)),
 oD 23 (.mov (.t 0)),
 oD 24 (.nilCheck (.t 23)),
 oD 25 (.fieldAddr 0 (.t 24)),
 oD 26 (.load1 (.t 25)),
 oD 27 (.mov (.t 0)),
 oD 28 (.nilCheck (.t 27)),
 oD 29 (.fieldAddr 0 (.t 28)),
 oD 30 (.load1 (.t 29)),
 oD 31 (.len .slice (.t 30)),
 oD 32 (.bin .sub (.t 31) (.k (.int .i64 1))),
 oD 33 (.sliceSl 7 (.t 26) none (some (.t 32))),
 oD 34 (.nilCheck (.t 22)),
 oD 35 (.fieldAddr 0 (.t 34)),
 oN (.store 1 (.t 35) (.t 33))])
 (.seq (.ops (some [0, 3, 6]) [oD 36 (.mov (.t 0)),
 oD 37 (.nilCheck (.t 36)),
 oD 38 (.fieldAddr 1 (.t 37)),
 oD 39 (.load1 (.t 38)),
 oD 40 (.fieldAddr 1 (.t 6)),
 oD 41 (.load1 (.t 40)),
 oD 42 (.mov (.t 0)),
 oD 43 (.nilCheck (.t 42)),
 oD 44 (.fieldAddr 1 (.t 43)),
 oD 45 (.load1 (.t 44)),
 oD 46 (.len .slice (.t 45)),
 oD 47 (.fieldAddr 1 (.t 6)),
 oD 48 (.load1 (.t 47)),
 oD 49 (.bin .sub (.t 46) (.t 48)),
 oD 50 (.idxSl 4 (.t 39) (.t 41)),
 oD 51 (.fieldAddr 3 (.t 50)),
 oN (.store 1 (.t 51) (.t 49))])
 (.seq (.seq (.seq (.ops none [oD 52 (.mov (.t 0)),
 oD 53 (.loadN 7 (.t 6)),
 oD 54 (.call 135 [(.t 52), (.t 53)]),
 oD 55 (.un .not (.t 54))])
 (.keep [3, 55]))
 (.cond (.t 55) (.seq (.seq (.ops none [oD 56 (.fieldAddr 3 (.t 3)),
 oD 57 (.load1 (.t 56)),
 oD 4 (.mov (.t 57)),
 oD 5 (.mov (.k (.int .i64 2)))])
 (.keep [4, 5]))
 .ret)
 .skip))
 (.seq (.seq (.ops none [oD 58 (.fieldAddr 3 (.t 3)),
 oD 59 (.load1 (.t 58)),
 oD 4 (.mov (.t 59)),
 oD 5 (.mov (.k (.int .i64 0)))])
 (.keep [4, 5]))
 .ret)))))))
  results := [.tmp 4, .tmp 5]
theorem ok86 : FnOK Tryz.prog pureL 86 a86 := ⟨Tryz.f86, [(0, [0, 3]), (1, [0, 3, 12]), (2, [4, 5]), (3, [0, 3, 6]), (4, [0, 3, 6]), (5, [0, 3, 6]), (6, [3, 55]), (7, [4, 5]), (8, [4, 5])], [], Tryz.func86, by kernel_rfl⟩
/-- stylus/tree.events -/
def a87 : AFunc where
  body :=
  (.seq (.seq (.ops none [oD 2 (.mov (.k .nilslice))])
 (.keep [0]))
 (.seq (.seq (.ops none [oD 3 (.mov (.k .nilslice))])
 (.keep [0, 3]))
 (.seq (.seq (.ops none [oD 4 (.mov (.k .nilslice))])
 (.keep [0, 3, 4]))
 (.seq (.seq (.seq (.ops none [oD 7 (.mov (.t 0)),
 oD 8 (.len .slice (.t 7)),
 oD 9 (.mov (.k (.int .i64 0)))])
 (.keep [3, 4, 7, 8, 9]))
 (.block 0 (.loop (.seq (.keep [3, 4, 7, 8, 9])
 (.seq (.seq (.ops none [oD 10 (.bin .lss (.t 9) (.t 8))])
 (.keep [3, 4, 7, 8, 9, 10]))
 (.seq (.cond (.t 10) .skip
 (.exit 0))
 (.seq (.block 1 (.seq (.seq (.ops none [oD 11 (.mov (.t 9)),
 oD 12 (.idxSl 4 (.t 7) (.t 9)),
 oD 13 (.loadN 4 (.t 12)),
 oD 6 (.alloc [(.int .u8 0), (.str []), (.int .i64 0), (.int .i64 0)]),
 oD 5 (.mov (.t 11)),
 oN (.store 4 (.t 6) (.t 13))])
 (.keep [3, 4, 5, 6, 7, 8, 9]))
 (.seq (.block 2 (.loop (.seq (.keep [3, 4, 5, 6, 7, 8, 9])
 (.seq (.seq (.seq (.ops none [oD 14 (.mov (.t 4)),
 oD 15 (.len .slice (.t 14)),
 oD 16 (.bin .gtr (.t 15) (.k (.int .i64 0))),
 oD 17 (.mov (.t 16)),
 oG 18 17 true (.mov (.t 4)),
 oG 19 17 true (.mov (.t 4)),
 oG 20 17 true (.len .slice (.t 19)),
 oG 21 17 true (.bin .sub (.t 20) (.k (.int .i64 1))),
 oG 22 17 true (.idxSl 1 (.t 18) (.t 21)),
 oG 23 17 true (.load1 (.t 22)),
 oG 24 17 true (.mov (.t 5)),
 oG 25 17 true (.eq false (.leaf .int) (.t 23) (.t 24)),
 oD 26 (.pick (.t 17) (.t 25) (.k (.bool false)))])
 (.keep [3, 4, 5, 6, 7, 8, 9, 26]))
 (.cond (.t 26) .skip
 (.exit 2)))
 (.block 3 (.ops (some [3, 4, 5, 6, 7, 8, 9]) [oD 27 (.mov (.t 3)),
 oD 28 (.build [(.int .i64 0), (.int .u8 0), (.str []), (.int .i64 0)] [(0, 1, (.k (.int .i64 3)))]),
 oD 31 (.mov (.t 4)),
 oD 32 (.mov (.t 4)),
 oD 33 (.len .slice (.t 32)),
 oD 34 (.bin .sub (.t 33) (.k (.int .i64 1))),
 oD 35 (.sliceSl 1 (.t 31) none (some (.t 34))),
 oD 29 (.buildSlice [(.int .i64 0), (.int .u8 0), (.str []), (.int .i64 0)] 4 1 [(0, 4, (.t 28))]),
 oD 30 (.appendX 4 (.t 27) (.t 29)),
 oD 3 (.mov (.t 30)),
 oD 4 (.mov (.t 35))]))))))
 (.seq (.seq (.seq (.ops none [oD 36 (.fieldAddr 0 (.t 6)),
 oD 37 (.load1 (.t 36)),
 oD 38 (.eq false (.leaf .int) (.t 37) (.k (.int .u8 46)))])
 (.keep [3, 4, 5, 6, 7, 8, 9, 38]))
 (.cond (.t 38) (.seq (.seq (.ops none [oD 39 (.mov (.t 3)),
 oD 40 (.fieldAddr 1 (.t 6)),
 oD 41 (.load1 (.t 40)),
 oD 42 (.build [(.int .i64 0), (.int .u8 0), (.str []), (.int .i64 0)] [(0, 1, (.k (.int .i64 1))), (2, 1, (.t 41))]),
 oD 43 (.buildSlice [(.int .i64 0), (.int .u8 0), (.str []), (.int .i64 0)] 4 1 [(0, 4, (.t 42))]),
 oD 44 (.append 4 (.t 39) (.t 43)),
 oD 3 (.mov (.t 44))])
 (.keep [3, 4, 7, 8, 9]))
 (.exit 1))
 .skip))
 (.ops (some [3, 4, 7, 8, 9]) [oD 45 (.mov (.t 3)),
 oD 46 (.fieldAddr 0 (.t 6)),
 oD 47 (.load1 (.t 46)),
 oD 48 (.build [(.int .i64 0), (.int .u8 0), (.str []), (.int .i64 0)] [(0, 1, (.k (.int .i64 2))), (1, 1, (.t 47))]),
 oD 51 (.mov (.t 4)),
 oD 52 (.mov (.t 5)),
 oD 53 (.fieldAddr 3 (.t 6)),
 oD 54 (.load1 (.t 53)),
 oD 55 (.bin .add (.t 52) (.t 54)),
 oD 49 (.buildSlice [(.int .i64 0), (.int .u8 0), (.str []), (.int .i64 0)] 4 1 [(0, 4, (.t 48))]),
 oD 50 (.appendX 4 (.t 45) (.t 49)),
 oD 56 (.buildSlice [(.int .i64 0)] 1 1 [(0, 1, (.t 55))]),
 oD 57 (.append 1 (.t 51) (.t 56)),
 oD 3 (.mov (.t 50)),
 oD 4 (.mov (.t 57))])))))
 (.seq (.ops none [oD 58 (.bin .add (.t 9) (.k (.int .i64 1))),
 oD 9 (.mov (.t 58))])
 (.keep [3, 4, 7, 8, 9])))))))))
 (.seq (.seq (.seq (.ops none [oD 59 (.mov (.t 4)),
 oD 60 (.len .slice (.t 59)),
 oD 61 (.mov (.k (.int .i64 0)))])
 (.keep [3, 60, 61]))
 (.block 4 (.loop (.seq (.keep [3, 60, 61])
 (.seq (.seq (.ops none [oD 62 (.bin .lss (.t 61) (.t 60))])
 (.keep [3, 60, 61, 62]))
 (.seq (.cond (.t 62) .skip
 (.exit 4))
 (.seq (.block 5 (.seq (.ops none [oD 63 (.mov (.t 3)),
 oD 64 (.build [(.int .i64 0), (.int .u8 0), (.str []), (.int .i64 0)] [(0, 1, (.k (.int .i64 3)))]),
 oD 65 (.buildSlice [(.int .i64 0), (.int .u8 0), (.str []), (.int .i64 0)] 4 1 [(0, 4, (.t 64))]),
 oD 66 (.append 4 (.t 63) (.t 65)),
 oD 3 (.mov (.t 66))])
 (.keep [3, 60, 61])))
 (.seq (.ops none [oD 67 (.bin .add (.t 61) (.k (.int .i64 1))),
 oD 61 (.mov (.t 67))])
 (.keep [3, 60, 61])))))))))
 (.seq (.seq (.ops none [oD 68 (.mov (.t 3)),
 oD 2 (.mov (.t 68))])
 (.keep [2]))
 .ret))))))
  results := [.tmp 2]
theorem ok87 : FnOK Tryz.prog pureL 87 a87 := ⟨Tryz.f87, [(0, [0]), (1, [0, 3]), (2, [0, 3, 4]), (3, [3, 4, 7, 8, 9]), (4, [3, 4, 7, 8, 9, 10]), (5, [3, 4, 5, 6, 7, 8, 9]), (6, [3, 4, 5, 6, 7, 8, 9, 26]), (7, [3, 4, 5, 6, 7, 8, 9]), (8, [3, 4, 5, 6, 7, 8, 9, 38]), (9, [3, 4, 7, 8, 9]), (10, [3, 4, 7, 8, 9]), (11, [3, 4, 7, 8, 9]), (12, [3, 60, 61]), (13, [3, 60, 61, 62]), (14, [3, 60, 61]), (15, [3, 60, 61]), (16, [2])], [(0, [3, 4, 7, 8, 9]), (2, [3, 4, 5, 6, 7, 8, 9]), (4, [3, 60, 61])], Tryz.func87, by kernel_rfl⟩
/-- (*stylus/tree.builder).may -/
def a88 : AFunc where
  body :=
  (.seq (.seq (.ops none [oD 4 (.mov (.k (.bool false)))])
 (.keep [0, 1]))
 (.seq (.seq (.ops none [oD 7 (.mov (.t 0)),
 oD 8 (.nilCheck (.t 7)),
 oD 9 (.fieldAddr 0 (.t 8)),
 oD 10 (.load1 (.t 9)),
 oD 11 (.call 133 [(.t 10)]),
 oD 5 (.mov (.t 11))])
 (.keep [0, 1, 5]))
 (.seq (.seq (.ops (some [0, 1, 5, 40]) [oD 12 (.mov (.t 0)),
 oD 13 (.nilCheck (.t 12)),
 oD 14 (.fieldAddr 2 (.t 13)),
 oD 15 (.load1 (.t 14)),
 oD 16 (.mov (.t 5)),
 oD 17 (.nilCheck (.t 16)),
 oD 18 (.fieldAddr 0 (.t 17)),
 oD 19 (.load1 (.t 18)),
 oD 20 (.mov (.t 1)),
 oD 21 (.build [(.int .u8 0), (.int .u8 0)] [(0, 1, (.t 19)), (1, 1, (.t 20))]),
 oD 22 (.lookup (.agg [.int, .int]) (.int .i64 0) false (.t 15) (.t 21)),
 oD 23 (.eq false (.leaf .int) (.t 22) (.k (.int .i64 0))),
 oD 24 (.mov (.t 23)),
 oG 25 24 false (.mov (.t 5)),
 oG 26 24 false (.nilCheck (.t 25)),
 oG 27 24 false (.fieldAddr 0 (.t 26)),
 oG 28 24 false (.load1 (.t 27)),
 oG 29 24 false (.eq false (.leaf .int) (.t 28) (.k (.int .u8 105))),
 oG 30 24 false (.mov (.t 29)),
 oG 31 30 true (.mov (.t 5)),
 oG 32 30 true (.nilCheck (.t 31)),
 oG 33 30 true (.fieldAddr 4 (.t 32)),
 oG 34 30 true (.load1 (.t 33)),
 oG 35 24 false (.pick (.t 30) (.t 34) (.k (.bool false))),
 oG 36 24 false (.mov (.t 35)),
 oG 37 36 true (.mov (.t 1)),
 oG 38 36 true (.eq true (.leaf .int) (.t 37) (.k (.int .u8 108))),
 oG 39 24 false (.pick (.t 36) (.t 38) (.k (.bool false))),
 oD 40 (.pick (.t 24) (.k (.bool true)) (.t 39))])
 (.cond (.t 40) (.seq (.seq (.ops none [oD 4 (.mov (.k (.bool false)))])
 (.keep [4]))
 .ret)
 .skip))
 (.seq (.seq (.seq (.ops none [oD 41 (.mov (.t 1))])
 (.keep [0, 1, 5, 41]))
 (.block 0 (.seq (.seq (.seq (.ops none [oD 43 (.eq false (.leaf .int) (.t 41) (.k (.int .u8 101))),
 oD 42 (.mov (.t 43))])
 (.keep [0, 1, 5, 41, 42]))
 (.cond (.t 42) .skip
 (.seq (.ops none [oD 44 (.eq false (.leaf .int) (.t 41) (.k (.int .u8 115))),
 oD 42 (.mov (.t 44))])
 (.keep [0, 1, 5, 41, 42]))))
 (.cond (.t 42) (.seq (.seq (.ops none [oD 45 (.mov (.t 0)),
 oD 46 (.nilCheck (.t 45)),
 oD 47 (.fieldAddr 0 (.t 46)),
 oD 48 (.load1 (.t 47)),
 oD 49 (.mov (.t 1)),
 oD 50 (.call 134 [(.t 48), (.t 49)]),
 oD 51 (.eq false (.leaf .int) (.t 50) (.k (.int .i64 0))),
 oD 4 (.mov (.t 51))])
 (.keep [4]))
 .ret)
 (.seq (.seq (.ops none [oD 53 (.eq false (.leaf .int) (.t 41) (.k (.int .u8 99))),
 oD 52 (.mov (.t 53))])
 (.keep [0, 5, 41, 52]))
 (.cond (.t 52) (.seq (.seq (.ops none [oD 54 (.mov (.t 5)),
 oD 55 (.nilCheck (.t 54)),
 oD 56 (.fieldAddr 2 (.t 55)),
 oD 57 (.load1 (.t 56)),
 oD 58 (.bin .lss (.t 57) (.k (.int .i64 8))),
 oD 4 (.mov (.t 58))])
 (.keep [4]))
 .ret)
 (.seq (.seq (.ops none [oD 60 (.eq false (.leaf .int) (.t 41) (.k (.int .u8 110))),
 oD 59 (.mov (.t 60))])
 (.keep [0, 59]))
 (.cond (.t 59) (.seq (.seq (.ops none [oD 61 (.mov (.t 0)),
 oD 62 (.nilCheck (.t 61)),
 oD 63 (.fieldAddr 0 (.t 62)),
 oD 64 (.load1 (.t 63)),
 oD 65 (.call 132 [(.t 64), (.k (.str [49, 50, 51, 112, 105]))]),
 oD 6 (.mov (.t 65))])
 (.keep [0, 6]))
 (.seq (.seq (.ops none [oD 66 (.mov (.t 0)),
 oD 67 (.nilCheck (.t 66)),
 oD 68 (.fieldAddr 0 (.t 67)),
 oD 69 (.load1 (.t 68)),
 oD 70 (.call 134 [(.t 69), (.k (.int .u8 110))]),
 oD 71 (.eq false (.leaf .int) (.t 70) (.k (.int .i64 0))),
 oD 72 (.mov (.t 71)),
 oG 73 72 true (.mov (.t 0)),
 oG 74 72 true (.nilCheck (.t 73)),
 oG 75 72 true (.fieldAddr 0 (.t 74)),
 oG 76 72 true (.load1 (.t 75)),
 oG 77 72 true (.call 134 [(.t 76), (.k (.int .u8 99))]),
 oG 78 72 true (.eq false (.leaf .int) (.t 77) (.k (.int .i64 0))),
 oD 79 (.pick (.t 72) (.t 78) (.k (.bool false))),
 oD 80 (.mov (.t 79)),
 oG 81 80 true (.mov (.t 6)),
 oG 82 80 true (.eq true .ptr (.t 81) (.k .nilptr)),
 oD 83 (.pick (.t 80) (.t 82) (.k (.bool false))),
 oD 84 (.mov (.t 83)),
 oG 85 84 true (.mov (.t 6)),
 oG 86 84 true (.nilCheck (.t 85)),
 oG 87 84 true (.fieldAddr 3 (.t 86)),
 oG 88 84 true (.load1 (.t 87)),
 oG 89 84 true (.eq false (.leaf .int) (.t 88) (.k (.int .i64 0))),
 oD 90 (.pick (.t 84) (.t 89) (.k (.bool false))),
 oD 4 (.mov (.t 90))])
 (.keep [4]))
 .ret))
 .skip))))))))
 (.seq (.seq (.ops none [oD 4 (.mov (.k (.bool true)))])
 (.keep [4]))
 .ret)))))
  results := [.tmp 4]
theorem ok88 : FnOK Tryz.prog pureL 88 a88 := ⟨Tryz.f88, [(0, [0, 1]), (1, [0, 1, 5]), (2, [0, 1, 5, 40]), (3, [4]), (4, [0, 1, 5, 41]), (5, [0, 1, 5, 41, 42]), (6, [0, 1, 5, 41, 42]), (8, [0, 5, 41, 52]), (10, [0, 59]), (11, [0, 6]), (12, [4]), (9, [4]), (7, [4]), (13, [4])], [], Tryz.func88, by kernel_rfl⟩
/-- stylus/tree.worse -/
def a89 : AFunc where
  body :=
  (.seq (.seq (.ops none [oD 4 (.mov (.k (.int .i64 0)))])
 (.keep [0, 1]))
 (.seq (.seq (.seq (.ops none [oD 7 (.build [(.int .i64 0), (.int .i64 0), (.int .i64 0)] [(0, 1, (.k (.int .i64 2))), (1, 1, (.k (.int .i64 5))), (2, 1, (.k (.int .i64 4)))]),
 oD 8 (.mov (.k (.int .i64 0)))])
 (.keep [0, 1, 7, 8]))
 (.block 0 (.loop (.seq (.keep [0, 1, 7, 8])
 (.seq (.seq (.ops none [oD 9 (.bin .lss (.t 8) (.k (.int .i64 3)))])
 (.keep [0, 1, 7, 8, 9]))
 (.seq (.cond (.t 9) .skip
 (.exit 0))
 (.seq (.block 1 (.seq (.seq (.ops none [oD 10 (.index 3 1 false (.t 7) (.t 8)),
 oD 6 (.mov (.t 10))])
 (.keep [0, 1, 6, 7, 8]))
 (.seq (.seq (.ops none [oD 11 (.mov (.t 0)),
 oD 12 (.mov (.t 6)),
 oD 13 (.eq false (.leaf .int) (.t 11) (.t 12)),
 oD 14 (.mov (.t 13)),
 oG 15 14 false (.mov (.t 1)),
 oG 16 14 false (.mov (.t 6)),
 oG 17 14 false (.eq false (.leaf .int) (.t 15) (.t 16)),
 oD 18 (.pick (.t 14) (.k (.bool true)) (.t 17))])
 (.keep [0, 1, 6, 7, 8, 18]))
 (.cond (.t 18) (.seq (.seq (.ops none [oD 19 (.mov (.t 6)),
 oD 4 (.mov (.t 19))])
 (.keep [4]))
 .ret)
 .skip))))
 (.seq (.ops none [oD 20 (.bin .add (.t 8) (.k (.int .i64 1))),
 oD 8 (.mov (.t 20))])
 (.keep [0, 1, 7, 8])))))))))
 (.seq (.seq (.ops none [oD 4 (.mov (.k (.int .i64 0)))])
 (.keep [4]))
 .ret)))
  results := [.tmp 4]
theorem ok89 : FnOK Tryz.prog pureL 89 a89 := ⟨Tryz.f89, [(0, [0, 1]), (1, [0, 1, 7, 8]), (2, [0, 1, 7, 8, 9]), (3, [0, 1, 6, 7, 8]), (4, [0, 1, 6, 7, 8, 18]), (5, [4]), (6, [0, 1, 7, 8]), (7, [4])], [(0, [0, 1, 7, 8])], Tryz.func89, by kernel_rfl⟩
/-- stylus/norm.Of -/
def a90 : AFunc where
  body :=
  (.seq (.seq (.ops none [oD 2 (.mov (.k .nilslice)),
 oD 3 (.mov (.k (.int .i64 0)))])
 (.keep [0]))
 (.seq (.seq (.seq (.ops none [oD 5 (.mov (.t 0)),
 oD 6 (.call 46 [(.t 5)]),
 oD 4 (.mov (.t 6))])
 (.keep [0, 4]))
 (.seq (.seq (.ops none [oD 7 (.mov (.t 4)),
 oD 8 (.eq true (.leaf .int) (.t 7) (.k (.int .i64 0)))])
 (.keep [0, 4, 8]))
 (.cond (.t 8) (.seq (.seq (.ops none [oD 9 (.mov (.t 4)),
 oD 2 (.mov (.k .nilslice)),
 oD 3 (.mov (.t 9))])
 (.keep [2, 3]))
 .ret)
 .skip)))
 (.seq (.seq (.ops none [oD 10 (.mov (.t 0)),
 oD 11 (.call 137 [(.t 10)]),
 oD 12 (.mov (.t 0)),
 oD 13 (.len .slice (.t 12)),
 oD 14 (.call 136 [(.t 11), (.k (.int .i64 0)), (.t 13)]),
 oD 2 (.mov (.t 14)),
 oD 3 (.mov (.k (.int .i64 0)))])
 (.keep [2, 3]))
 .ret)))
  results := [.tmp 2, .tmp 3]
theorem ok90 : FnOK Tryz.prog pureL 90 a90 := ⟨Tryz.f90, [(0, [0]), (1, [0, 4]), (2, [0, 4, 8]), (3, [2, 3]), (4, [2, 3])], [], Tryz.func90, by kernel_rfl⟩
/-- stylus/tree.Same -/
def a91 : AFunc where
  body :=
  (.seq (.seq (.ops none [oD 4 (.mov (.k (.bool false)))])
 (.keep [0, 1]))
 (.seq (.seq (.ops none [oD 5 (.mov (.t 0)),
 oD 6 (.mov (.t 1)),
 oD 7 (.call 138 [(.t 5), (.t 6), (.k (.func (.fn 139) [] []))]),
 oD 4 (.mov (.t 7))])
 (.keep [4]))
 .ret))
  results := [.tmp 4]
theorem ok91 : FnOK Tryz.prog pureL 91 a91 := ⟨Tryz.f91, [(0, [0, 1]), (1, [4])], [], Tryz.func91, by kernel_rfl⟩
/-- slices.Grow[[]stylus/api.Line,stylus/api.Line] -/
def a92 : AFunc where
  body :=
  (.seq (.seq (.ops none [oD 4 (.mov (.k .nilslice))])
 (.keep [0, 1]))
 (.seq (.seq (.seq (.ops none [oD 5 (.mov (.t 1)),
 oD 6 (.bin .lss (.t 5) (.k (.int .i64 0)))])
 (.keep [0, 1, 6]))
 (.cond (.t 6) (.ops none [oN (.nilCheck (.k .nilptr))])
 .skip))
 (.seq (.seq (.seq (.ops none [oD 8 (.mov (.t 1)),
 oD 9 (.mov (.t 0)),
 oD 10 (.len .cap (.t 9)),
 oD 11 (.mov (.t 0)),
 oD 12 (.len .slice (.t 11)),
 oD 13 (.bin .sub (.t 10) (.t 12)),
 oD 14 (.bin .sub (.t 8) (.t 13)),
 oD 1 (.mov (.t 14))])
 (.keep [0, 1]))
 (.seq (.seq (.ops none [oD 15 (.mov (.t 1)),
 oD 16 (.bin .gtr (.t 15) (.k (.int .i64 0)))])
 (.keep [0, 1, 16]))
 (.cond (.t 16) (.seq (.ops none [oD 17 (.mov (.t 0)),
 oD 18 (.mov (.t 0)),
 oD 19 (.len .cap (.t 18)),
 oD 20 (.sliceSl 3 (.t 17) none (some (.t 19))),
 oD 21 (.mov (.t 1)),
 oD 22 (.growZ [.nilslice, (.int .i64 0), (.int .i64 0)] 3 (.t 20) (.t 21)),
 oD 23 (.mov (.t 0)),
 oD 24 (.len .slice (.t 23)),
 oD 25 (.sliceSl 3 (.t 22) none (some (.t 24))),
 oD 0 (.mov (.t 25))])
 (.keep [0]))
 .skip)))
 (.seq (.seq (.ops none [oD 26 (.mov (.t 0)),
 oD 4 (.mov (.t 26))])
 (.keep [4]))
 .ret))))
  results := [.tmp 4]
theorem ok92 : FnOK Tryz.prog pureL 92 a92 := ⟨Tryz.f92, [(0, [0, 1]), (1, [0, 1, 6]), (3, [0, 1]), (4, [0, 1, 16]), (5, [0]), (6, [4])], [], Tryz.func92, by kernel_rfl⟩
/-- stylus/stylusref03.Name -/
def a94 : AFunc where
  body :=
  (.seq (.seq (.ops none [oD 2 (.mov (.k (.str [])))])
 (.keep [0]))
 (.seq (.seq (.seq (.ops none [oD 4 (.mov (.t 0)),
 oD 5 (.eq false (.leaf .int) (.t 4) (.k (.int .u8 49))),
 oD 6 (.mov (.t 5)),
 oG 7 6 false (.mov (.t 0)),
 oG 8 6 false (.eq false (.leaf .int) (.t 7) (.k (.int .u8 50))),
 oD 9 (.pick (.t 6) (.k (.bool true)) (.t 8)),
 oD 10 (.mov (.t 9)),
 oG 11 10 false (.mov (.t 0)),
 oG 12 10 false (.eq false (.leaf .int) (.t 11) (.k (.int .u8 51))),
 oD 13 (.pick (.t 10) (.k (.bool true)) (.t 12))])
 (.keep [0, 13]))
 (.cond (.t 13) (.seq (.seq (.ops none [oD 14 (.mov (.t 0)),
 oD 15 (.buildSlice [(.int .u8 0)] 1 1 [(0, 1, (.t 14))]),
 oD 16 (.bytesStr (.t 15)),
 oD 17 (.bin .add (.k (.str [104])) (.t 16)),
 oD 2 (.mov (.t 17))])
 (.keep [2]))
 .ret)
 .skip))
 (.seq (.seq (.seq (.ops none [oD 3 (.mov (.k (.int .i64 0)))])
 (.keep [0, 3]))
 (.block 0 (.loop (.seq (.keep [0, 3])
 (.seq (.seq (.seq (.ops none [oD 18 (.mov (.t 3)),
 oD 19 (.call 140 []),
 oD 20 (.len .str (.t 19)),
 oD 21 (.bin .lss (.t 18) (.t 20))])
 (.keep [0, 3, 21]))
 (.cond (.t 21) .skip
 (.exit 0)))
 (.seq (.block 1 (.seq (.seq (.ops none [oD 24 (.call 140 []),
 oD 25 (.mov (.t 3)),
 oD 26 (.indexStr (.t 24) (.t 25)),
 oD 27 (.mov (.t 0)),
 oD 28 (.eq false (.leaf .int) (.t 26) (.t 27))])
 (.keep [0, 3, 28]))
 (.cond (.t 28) (.seq (.seq (.ops none [oD 29 (.mov (.t 0)),
 oD 30 (.buildSlice [(.int .u8 0)] 1 1 [(0, 1, (.t 29))]),
 oD 31 (.bytesStr (.t 30)),
 oD 2 (.mov (.t 31))])
 (.keep [2]))
 .ret)
 .skip)))
 (.seq (.ops none [oD 22 (.mov (.t 3)),
 oD 23 (.bin .add (.t 22) (.k (.int .i64 1))),
 oD 3 (.mov (.t 23))])
 (.keep [0, 3]))))))))
 (.seq (.seq (.ops none [oD 2 (.mov (.k (.str [])))])
 (.keep [2]))
 .ret))))
  results := [.tmp 2]
theorem ok94 : FnOK Tryz.prog pureL 94 a94 := ⟨Tryz.f94, [(0, [0]), (1, [0, 13]), (2, [2]), (3, [0, 3]), (4, [0, 3, 21]), (6, [0, 3, 28]), (7, [2]), (5, [0, 3]), (8, [2])], [(0, [0, 3])], Tryz.func94, by kernel_rfl⟩
/-- stylus/stylusref01.White -/
def a95 : AFunc where
  body :=
  (.seq (.seq (.ops none [oD 2 (.mov (.k (.bool false)))])
 (.keep [0]))
 (.seq (.seq (.ops none [oD 3 (.mov (.t 0)),
 oD 4 (.eq false (.leaf .int) (.t 3) (.k (.int .u8 32))),
 oD 5 (.mov (.t 4)),
 oG 6 5 false (.mov (.t 0)),
 oG 7 5 false (.eq false (.leaf .int) (.t 6) (.k (.int .u8 10))),
 oD 8 (.pick (.t 5) (.k (.bool true)) (.t 7)),
 oD 2 (.mov (.t 8))])
 (.keep [2]))
 .ret))
  results := [.tmp 2]
theorem ok95 : FnOK Tryz.prog pureL 95 a95 := ⟨Tryz.f95, [(0, [0]), (1, [2])], [], Tryz.func95, by kernel_rfl⟩
/-- stylus/stylusref04.events -/
def a96 : AFunc where
  body :=
  (.seq (.seq (.ops none [oD 6 (.mov (.k .nilslice)),
 oD 7 (.mov (.k (.bool false)))])
 (.keep [0, 1, 2]))
 (.seq (.seq (.ops none [oD 8 (.mov (.k .nilslice))])
 (.keep [0, 1, 2, 8]))
 (.seq (.block 0 (.loop (.seq (.keep [0, 1, 2, 8])
 (.seq (.seq (.seq (.ops none [oD 12 (.mov (.t 1)),
 oD 13 (.mov (.t 2)),
 oD 14 (.bin .lss (.t 12) (.t 13))])
 (.keep [0, 1, 2, 8, 14]))
 (.cond (.t 14) .skip
 (.exit 0)))
 (.block 1 (.seq (.seq (.ops none [oD 15 (.mov (.t 0)),
 oD 16 (.mov (.t 1)),
 oD 17 (.idxSl 4 (.t 15) (.t 16)),
 oD 18 (.loadN 4 (.t 17)),
 oD 9 (.alloc [(.int .u8 0), (.str []), (.int .i64 0), (.int .i64 0)]),
 oN (.store 4 (.t 9) (.t 18))])
 (.keep [0, 1, 2, 8, 9]))
 (.seq (.seq (.seq (.ops none [oD 19 (.fieldAddr 3 (.t 9)),
 oD 20 (.load1 (.t 19)),
 oD 21 (.bin .lss (.t 20) (.k (.int .i64 1))),
 oD 22 (.mov (.t 21)),
 oG 23 22 false (.mov (.t 1)),
 oG 24 22 false (.fieldAddr 3 (.t 9)),
 oG 25 22 false (.load1 (.t 24)),
 oG 26 22 false (.bin .add (.t 23) (.t 25)),
 oG 27 22 false (.mov (.t 2)),
 oG 28 22 false (.bin .gtr (.t 26) (.t 27)),
 oD 29 (.pick (.t 22) (.k (.bool true)) (.t 28)),
 oD 30 (.mov (.t 29)),
 oG 31 30 false (.mov (.t 1)),
 oG 32 30 false (.fieldAddr 3 (.t 9)),
 oG 33 30 false (.load1 (.t 32)),
 oG 34 30 false (.bin .add (.t 31) (.t 33)),
 oG 35 30 false (.mov (.t 1)),
 oG 36 30 false (.bin .lss (.t 34) (.t 35)),
 oD 37 (.pick (.t 30) (.k (.bool true)) (.t 36))])
 (.keep [0, 1, 2, 8, 9, 37]))
 (.cond (.t 37) (.seq (.seq (.ops none [oD 6 (.mov (.k .nilslice)),
 oD 7 (.mov (.k (.bool false)))])
 (.keep [6, 7]))
 .ret)
 .skip))
 (.seq (.seq (.seq (.ops none [oD 38 (.fieldAddr 0 (.t 9)),
 oD 39 (.load1 (.t 38)),
 oD 40 (.eq false (.leaf .int) (.t 39) (.k (.int .u8 46)))])
 (.keep [0, 1, 2, 8, 9, 40]))
 (.cond (.t 40) (.seq (.seq (.seq (.ops none [oD 41 (.fieldAddr 3 (.t 9)),
 oD 42 (.load1 (.t 41)),
 oD 43 (.eq true (.leaf .int) (.t 42) (.k (.int .i64 1)))])
 (.keep [0, 1, 2, 8, 9, 43]))
 (.cond (.t 43) (.seq (.seq (.ops none [oD 6 (.mov (.k .nilslice)),
 oD 7 (.mov (.k (.bool false)))])
 (.keep [6, 7]))
 .ret)
 .skip))
 (.seq (.ops none [oD 44 (.mov (.t 8)),
 oD 45 (.fieldAddr 1 (.t 9)),
 oD 46 (.load1 (.t 45)),
 oD 47 (.build [(.int .i64 0), (.int .u8 0), (.str []), (.int .i64 0)] [(0, 1, (.k (.int .i64 1))), (2, 1, (.t 46))]),
 oD 48 (.buildSlice [(.int .i64 0), (.int .u8 0), (.str []), (.int .i64 0)] 4 1 [(0, 4, (.t 47))]),
 oD 49 (.append 4 (.t 44) (.t 48)),
 oD 8 (.mov (.t 49))])
 (.keep [0, 1, 2, 8, 9])))
 (.seq (.seq (.ops none [oD 51 (.mov (.t 0)),
 oD 52 (.mov (.t 1)),
 oD 53 (.bin .add (.t 52) (.k (.int .i64 1))),
 oD 54 (.mov (.t 1)),
 oD 55 (.fieldAddr 3 (.t 9)),
 oD 56 (.load1 (.t 55)),
 oD 57 (.bin .add (.t 54) (.t 56)),
 oD 58 (.call 96 [(.t 51), (.t 53), (.t 57)]),
 oD 50 (.mov (.t 58)),
 oD 59 (.extract 0 (.t 50)),
 oD 60 (.extract 1 (.t 50)),
 oD 10 (.mov (.t 59)),
 oD 11 (.mov (.t 60))])
 (.keep [0, 1, 2, 8, 9, 10, 11]))
 (.seq (.seq (.seq (.ops none [oD 61 (.mov (.t 11)),
 oD 62 (.un .not (.t 61))])
 (.keep [0, 1, 2, 8, 9, 10, 62]))
 (.cond (.t 62) (.seq (.seq (.ops none [oD 6 (.mov (.k .nilslice)),
 oD 7 (.mov (.k (.bool false)))])
 (.keep [6, 7]))
 .ret)
 .skip))
 (.seq (.seq (.ops none [oD 63 (.mov (.t 8)),
 oD 64 (.fieldAddr 0 (.t 9)),
 oD 65 (.load1 (.t 64)),
 oD 66 (.build [(.int .i64 0), (.int .u8 0), (.str []), (.int .i64 0)] [(0, 1, (.k (.int .i64 2))), (1, 1, (.t 65))]),
 oD 67 (.buildSlice [(.int .i64 0), (.int .u8 0), (.str []), (.int .i64 0)] 4 1 [(0, 4, (.t 66))]),
 oD 68 (.append 4 (.t 63) (.t 67)),
 oD 8 (.mov (.t 68))])
 (.keep [0, 1, 2, 8, 9, 10]))
 (.seq (.seq (.ops none [oD 69 (.mov (.t 8)),
 oD 70 (.mov (.t 10)),
 oD 71 (.append 4 (.t 69) (.t 70)),
 oD 8 (.mov (.t 71))])
 (.keep [0, 1, 2, 8, 9]))
 (.seq (.ops none [oD 72 (.mov (.t 8)),
 oD 73 (.build [(.int .i64 0), (.int .u8 0), (.str []), (.int .i64 0)] [(0, 1, (.k (.int .i64 3)))]),
 oD 74 (.buildSlice [(.int .i64 0), (.int .u8 0), (.str []), (.int .i64 0)] 4 1 [(0, 4, (.t 73))]),
 oD 75 (.append 4 (.t 72) (.t 74)),
 oD 8 (.mov (.t 75))])
 (.keep [0, 1, 2, 8, 9]))))))))
 (.seq (.ops none [oD 76 (.mov (.t 1)),
 oD 77 (.fieldAddr 3 (.t 9)),
 oD 78 (.load1 (.t 77)),
 oD 79 (.bin .add (.t 76) (.t 78)),
 oD 1 (.mov (.t 79))])
 (.keep [0, 1, 2, 8]))))))))))
 (.seq (.seq (.ops none [oD 80 (.mov (.t 8)),
 oD 6 (.mov (.t 80)),
 oD 7 (.mov (.k (.bool true)))])
 (.keep [6, 7]))
 .ret))))
  results := [.tmp 6, .tmp 7]
theorem ok96 : FnOK Tryz.prog pureL 96 a96 := ⟨Tryz.f96, [(0, [0, 1, 2]), (1, [0, 1, 2, 8]), (2, [0, 1, 2, 8, 14]), (3, [0, 1, 2, 8, 9]), (4, [0, 1, 2, 8, 9, 37]), (5, [6, 7]), (6, [0, 1, 2, 8, 9, 40]), (10, [0, 1, 2, 8, 9, 10, 11]), (11, [0, 1, 2, 8, 9, 10, 62]), (12, [6, 7]), (13, [0, 1, 2, 8, 9, 10]), (14, [0, 1, 2, 8, 9]), (15, [0, 1, 2, 8, 9]), (7, [0, 1, 2, 8, 9, 43]), (8, [6, 7]), (9, [0, 1, 2, 8, 9]), (16, [0, 1, 2, 8]), (17, [6, 7])], [(0, [0, 1, 2, 8])], Tryz.func96, by kernel_rfl⟩
/-- stylus/stylusref04.Texts -/
def a97 : AFunc where
  body :=
  (.seq (.seq (.ops none [oD 2 (.mov (.k (.bool false)))])
 (.keep [0]))
 (.seq (.seq (.ops none [oD 4 (.mov (.t 0)),
 oD 5 (.mov (.t 0)),
 oD 6 (.len .slice (.t 5)),
 oD 7 (.bin .sub (.t 6) (.k (.int .i64 1))),
 oD 8 (.idxSl 6 (.t 4) (.t 7)),
 oD 9 (.loadN 6 (.t 8)),
 oD 3 (.alloc [(.int .u8 0), (.str []), (.int .i64 0), (.int .i64 0), (.int .i64 0), (.str [])]),
 oN (.store 6 (.t 3) (.t 9))])
 (.keep [3]))
 (.seq (.seq (.ops none [oD 10 (.fieldAddr 0 (.t 3)),
 oD 11 (.load1 (.t 10)),
 oD 12 (.call 120 [(.t 11), (.k (.str [49, 50, 51, 112, 99, 110, 101, 115]))]),
 oD 13 (.mov (.t 12)),
 oG 14 13 false (.fieldAddr 0 (.t 3)),
 oG 15 13 false (.load1 (.t 14)),
 oG 16 13 false (.eq false (.leaf .int) (.t 15) (.k (.int .u8 105))),
 oG 17 13 false (.mov (.t 16)),
 oG 18 17 true (.fieldAddr 1 (.t 3)),
 oG 19 17 true (.load1 (.t 18)),
 oG 20 17 true (.call 120 [(.k (.int .u8 108)), (.t 19)]),
 oG 21 17 true (.un .not (.t 20)),
 oG 22 13 false (.pick (.t 17) (.t 21) (.k (.bool false))),
 oD 23 (.pick (.t 13) (.k (.bool true)) (.t 22)),
 oD 2 (.mov (.t 23))])
 (.keep [2]))
 .ret)))
  results := [.tmp 2]
theorem ok97 : FnOK Tryz.prog pureL 97 a97 := ⟨Tryz.f97, [(0, [0]), (1, [3]), (2, [2])], [], Tryz.func97, by kernel_rfl⟩
/-- stylus/stylusref04.Same -/
def a98 : AFunc where
  body :=
  (.seq (.seq (.ops none [oD 4 (.mov (.k (.bool false)))])
 (.keep [0, 1]))
 (.seq (.seq (.seq (.ops none [oD 6 (.mov (.t 0)),
 oD 7 (.len .slice (.t 6)),
 oD 8 (.mov (.t 1)),
 oD 9 (.len .slice (.t 8)),
 oD 10 (.eq true (.leaf .int) (.t 7) (.t 9))])
 (.keep [0, 1, 10]))
 (.cond (.t 10) (.seq (.seq (.ops none [oD 4 (.mov (.k (.bool false)))])
 (.keep [4]))
 .ret)
 .skip))
 (.seq (.seq (.seq (.ops none [oD 5 (.mov (.k (.int .i64 0)))])
 (.keep [0, 1, 5]))
 (.block 0 (.loop (.seq (.keep [0, 1, 5])
 (.seq (.seq (.seq (.ops none [oD 11 (.mov (.t 5)),
 oD 12 (.mov (.t 0)),
 oD 13 (.len .slice (.t 12)),
 oD 14 (.bin .lss (.t 11) (.t 13))])
 (.keep [0, 1, 5, 14]))
 (.cond (.t 14) .skip
 (.exit 0)))
 (.seq (.block 1 (.seq (.ops (some [0, 1, 5, 53]) [oD 17 (.mov (.t 0)),
 oD 18 (.mov (.t 5)),
 oD 19 (.idxSl 4 (.t 17) (.t 18)),
 oD 20 (.fieldAddr 0 (.t 19)),
 oD 21 (.load1 (.t 20)),
 oD 22 (.mov (.t 1)),
 oD 23 (.mov (.t 5)),
 oD 24 (.idxSl 4 (.t 22) (.t 23)),
 oD 25 (.fieldAddr 0 (.t 24)),
 oD 26 (.load1 (.t 25)),
 oD 27 (.eq true (.leaf .int) (.t 21) (.t 26)),
 oD 28 (.mov (.t 27)),
 oG 29 28 false (.mov (.t 0)),
 oG 30 28 false (.mov (.t 5)),
 oG 31 28 false (.idxSl 4 (.t 29) (.t 30)),
 oG 32 28 false (.fieldAddr 1 (.t 31)),
 oG 33 28 false (.load1 (.t 32)),
 oG 34 28 false (.mov (.t 1)),
 oG 35 28 false (.mov (.t 5)),
 oG 36 28 false (.idxSl 4 (.t 34) (.t 35)),
 oG 37 28 false (.fieldAddr 1 (.t 36)),
 oG 38 28 false (.load1 (.t 37)),
 oG 39 28 false (.eq true (.leaf .str) (.t 33) (.t 38)),
 oD 40 (.pick (.t 28) (.k (.bool true)) (.t 39)),
 oD 41 (.mov (.t 40)),
 oG 42 41 false (.mov (.t 0)),
 oG 43 41 false (.mov (.t 5)),
 oG 44 41 false (.idxSl 4 (.t 42) (.t 43)),
 oG 45 41 false (.fieldAddr 3 (.t 44)),
 oG 46 41 false (.load1 (.t 45)),
 oG 47 41 false (.mov (.t 1)),
 oG 48 41 false (.mov (.t 5)),
 oG 49 41 false (.idxSl 4 (.t 47) (.t 48)),
 oG 50 41 false (.fieldAddr 3 (.t 49)),
 oG 51 41 false (.load1 (.t 50)),
 oG 52 41 false (.eq true (.leaf .int) (.t 46) (.t 51)),
 oD 53 (.pick (.t 41) (.k (.bool true)) (.t 52))])
 (.cond (.t 53) (.seq (.seq (.ops none [oD 4 (.mov (.k (.bool false)))])
 (.keep [4]))
 .ret)
 .skip)))
 (.seq (.ops none [oD 15 (.mov (.t 5)),
 oD 16 (.bin .add (.t 15) (.k (.int .i64 1))),
 oD 5 (.mov (.t 16))])
 (.keep [0, 1, 5]))))))))
 (.seq (.seq (.ops none [oD 4 (.mov (.k (.bool true)))])
 (.keep [4]))
 .ret))))
  results := [.tmp 4]
theorem ok98 : FnOK Tryz.prog pureL 98 a98 := ⟨Tryz.f98, [(0, [0, 1]), (1, [0, 1, 10]), (2, [4]), (3, [0, 1, 5]), (4, [0, 1, 5, 14]), (6, [0, 1, 5, 53]), (7, [4]), (5, [0, 1, 5]), (8, [4])], [(0, [0, 1, 5])], Tryz.func98, by kernel_rfl⟩
/-- stylus/metric.Check$1 -/
def a99 : AFunc where
  body :=
  (.seq (.seq (.ops none [oD 1 (.box (.t 0)),
 oD 2 (.mov (.k (.bool false)))])
 (.keep [1]))
 (.seq (.seq (.ops none [oD 3 (.loadN 2 (.t 1)),
 oD 4 (.call 100 [(.t 3)]),
 oD 5 (.un .not (.t 4)),
 oD 2 (.mov (.t 5))])
 (.keep [2]))
 .ret))
  results := [.tmp 2]
theorem ok99 : FnOK Tryz.prog pureL 99 a99 := ⟨Tryz.f99, [(0, [1]), (1, [2])], [], Tryz.func99, by kernel_rfl⟩
/-- stylus/metric.right -/
def a100 : AFunc where
  body :=
  (.seq (.seq (.ops none [oD 1 (.box (.t 0)),
 oD 2 (.mov (.k (.bool false)))])
 (.keep [1]))
 (.seq (.seq (.ops none [oD 6 (.fieldAddr 0 (.t 1)),
 oD 7 (.load1 (.t 6)),
 oD 8 (.call 142 [(.t 7), (.k (.str [46]))]),
 oD 9 (.call 141 [(.t 8), (.k (.str [46]))]),
 oD 3 (.mov (.t 9))])
 (.keep [1, 3]))
 (.seq (.seq (.ops none [oD 4 (.mov (.k (.func (.fn 143) [] [])))])
 (.keep [1, 3, 4]))
 (.seq (.seq (.ops none [oD 5 (.mov (.k (.func (.fn 144) [] [])))])
 (.keep [1, 3, 4, 5]))
 (.seq (.seq (.ops none [oD 10 (.mov (.t 3)),
 oD 11 (.eq true (.leaf .str) (.t 10) (.k (.str []))),
 oD 12 (.mov (.t 11)),
 oG 13 12 true (.fieldAddr 0 (.t 1)),
 oG 14 12 true (.load1 (.t 13)),
 oG 15 12 true (.len .str (.t 14)),
 oG 16 12 true (.bin .leq (.t 15) (.k (.int .i64 16))),
 oD 17 (.pick (.t 12) (.t 16) (.k (.bool false))),
 oD 18 (.mov (.t 17)),
 oG 19 18 true (.mov (.t 3)),
 oG 20 18 true (.mov (.t 4)),
 oG 21 18 true (.call 129 [(.t 19), (.t 20)]),
 oG 22 18 true (.un .not (.t 21)),
 oD 23 (.pick (.t 18) (.t 22) (.k (.bool false))),
 oD 24 (.mov (.t 23)),
 oG 25 24 true (.fieldAddr 1 (.t 1)),
 oG 26 24 true (.load1 (.t 25)),
 oG 27 24 true (.len .str (.t 26)),
 oG 28 24 true (.fieldAddr 0 (.t 1)),
 oG 29 24 true (.load1 (.t 28)),
 oG 30 24 true (.len .str (.t 29)),
 oG 31 24 true (.bin .add (.t 30) (.k (.int .i64 1))),
 oG 32 24 true (.eq false (.leaf .int) (.t 27) (.t 31)),
 oD 33 (.pick (.t 24) (.t 32) (.k (.bool false))),
 oD 34 (.mov (.t 33)),
 oG 35 34 true (.fieldAddr 1 (.t 1)),
 oG 36 34 true (.load1 (.t 35)),
 oG 37 34 true (.mov (.t 5)),
 oG 38 34 true (.call 129 [(.t 36), (.t 37)]),
 oG 39 34 true (.un .not (.t 38)),
 oD 40 (.pick (.t 34) (.t 39) (.k (.bool false))),
 oD 2 (.mov (.t 40))])
 (.keep [2]))
 .ret)))))
  results := [.tmp 2]
theorem ok100 : FnOK Tryz.prog pureL 100 a100 := ⟨Tryz.f100, [(0, [1]), (1, [1, 3]), (2, [1, 3, 4]), (3, [1, 3, 4, 5]), (4, [2])], [], Tryz.func100, by kernel_rfl⟩
/-- stylus/metric.whole -/
def a101 : AFunc where
  body :=
  (.seq (.seq (.ops none [oD 1 (.box (.t 0)),
 oD 2 (.mov (.k (.bool false)))])
 (.keep [1]))
 (.seq (.seq (.seq (.ops none [oD 5 (.fieldAddr 0 (.t 1)),
 oD 6 (.loadN 128 (.t 5)),
 oD 7 (.mov (.k (.int .i64 0)))])
 (.keep [6, 7]))
 (.block 0 (.loop (.seq (.keep [6, 7])
 (.seq (.seq (.ops none [oD 8 (.bin .lss (.t 7) (.k (.int .i64 128)))])
 (.keep [6, 7, 8]))
 (.seq (.cond (.t 8) .skip
 (.exit 0))
 (.seq (.block 1 (.seq (.seq (.ops none [oD 9 (.mov (.t 7)),
 oD 10 (.index 128 1 false (.t 6) (.t 7)),
 oD 3 (.mov (.t 9)),
 oD 4 (.mov (.t 10))])
 (.keep [3, 4, 6, 7]))
 (.seq (.seq (.ops none [oD 11 (.mov (.t 3)),
 oD 12 (.convInt .u8 (.t 11)),
 oD 13 (.call 127 [(.t 12)]),
 oD 14 (.mov (.t 4)),
 oD 15 (.bin .gtr (.t 14) (.k (.int .i64 0))),
 oD 16 (.eq true (.leaf .bool) (.t 13) (.t 15)),
 oD 17 (.mov (.t 16)),
 oG 18 17 false (.mov (.t 4)),
 oG 19 17 false (.bin .lss (.t 18) (.k (.int .i64 0))),
 oD 20 (.pick (.t 17) (.k (.bool true)) (.t 19)),
 oD 21 (.mov (.t 20)),
 oG 22 21 false (.mov (.t 4)),
 oG 23 21 false (.bin .gtr (.t 22) (.k (.int .i64 2000))),
 oD 24 (.pick (.t 21) (.k (.bool true)) (.t 23))])
 (.keep [6, 7, 24]))
 (.cond (.t 24) (.seq (.seq (.ops none [oD 2 (.mov (.k (.bool false)))])
 (.keep [2]))
 .ret)
 .skip))))
 (.seq (.ops none [oD 25 (.bin .add (.t 7) (.k (.int .i64 1))),
 oD 7 (.mov (.t 25))])
 (.keep [6, 7])))))))))
 (.seq (.seq (.ops none [oD 2 (.mov (.k (.bool true)))])
 (.keep [2]))
 .ret)))
  results := [.tmp 2]
theorem ok101 : FnOK Tryz.prog pureL 101 a101 := ⟨Tryz.f101, [(0, [1]), (1, [6, 7]), (2, [6, 7, 8]), (3, [3, 4, 6, 7]), (4, [6, 7, 24]), (5, [2]), (6, [6, 7]), (7, [2])], [(0, [6, 7])], Tryz.func101, by kernel_rfl⟩
/-- slices.ContainsFunc[[]stylus/api.Pat,stylus/api.Pat] -/
def a102 : AFunc where
  body :=
  (.seq (.seq (.ops none [oD 4 (.mov (.k (.bool false)))])
 (.keep [0, 1]))
 (.seq (.seq (.ops none [oD 5 (.mov (.t 0)),
 oD 6 (.mov (.t 1)),
 oD 7 (.call 145 [(.t 5), (.t 6)]),
 oD 8 (.bin .geq (.t 7) (.k (.int .i64 0))),
 oD 4 (.mov (.t 8))])
 (.keep [4]))
 .ret))
  results := [.tmp 4]
theorem ok102 : FnOK Tryz.prog pureL 102 a102 := ⟨Tryz.f102, [(0, [0, 1]), (1, [4])], [], Tryz.func102, by kernel_rfl⟩
/-- stylus/lay.Check$1 -/
def a103 : AFunc where
  body :=
  (.seq (.seq (.ops none [oD 6 (.mov (.k (.bool false)))])
 (.keep [0, 1, 2]))
 (.seq (.seq (.ops none [oD 7 (.mov (.t 0)),
 oD 8 (.mov (.t 1)),
 oD 9 (.bin .geq (.t 7) (.t 8)),
 oD 10 (.mov (.t 9)),
 oG 11 10 true (.mov (.t 0)),
 oG 12 10 true (.mov (.t 2)),
 oG 13 10 true (.bin .leq (.t 11) (.t 12)),
 oD 14 (.pick (.t 10) (.t 13) (.k (.bool false))),
 oD 6 (.mov (.t 14))])
 (.keep [6]))
 .ret))
  results := [.tmp 6]
theorem ok103 : FnOK Tryz.prog pureL 103 a103 := ⟨Tryz.f103, [(0, [0, 1, 2]), (1, [6])], [], Tryz.func103, by kernel_rfl⟩
/-- stylus/lay.Check$2 -/
def a104 : AFunc where
  body :=
  (.seq (.seq (.ops none [oD 2 (.mov (.k (.bool false)))])
 (.keep [0]))
 (.seq (.seq (.ops none [oD 3 (.mov (.t 0)),
 oD 4 (.eq false (.leaf .str) (.t 3) (.k (.str []))),
 oD 5 (.mov (.t 4)),
 oG 6 5 false (.mov (.t 0)),
 oG 7 5 false (.call 105 [(.t 6), (.k (.str [97, 98, 99, 100, 101, 102, 103, 104, 105, 106, 107, 108, 109, 110, 111, 112, 113, 114, 115, 116, 117, 118, 119, 120, 121, 122]))]),
 oG 8 5 false (.eq true (.leaf .str) (.t 7) (.k (.str []))),
 oD 9 (.pick (.t 5) (.k (.bool true)) (.t 8)),
 oD 2 (.mov (.t 9))])
 (.keep [2]))
 .ret))
  results := [.tmp 2]
theorem ok104 : FnOK Tryz.prog pureL 104 a104 := ⟨Tryz.f104, [(0, [0]), (1, [2])], [], Tryz.func104, by kernel_rfl⟩
/-- strings.Trim -/
def a105 : AFunc where
  body :=
  (.seq (.seq (.ops none [oD 4 (.mov (.k (.str [])))])
 (.keep [0, 1]))
 (.seq (.seq (.seq (.ops none [oD 7 (.mov (.t 0)),
 oD 8 (.eq false (.leaf .str) (.t 7) (.k (.str []))),
 oD 9 (.mov (.t 8)),
 oG 10 9 false (.mov (.t 1)),
 oG 11 9 false (.eq false (.leaf .str) (.t 10) (.k (.str []))),
 oD 12 (.pick (.t 9) (.k (.bool true)) (.t 11))])
 (.keep [0, 1, 12]))
 (.cond (.t 12) (.seq (.seq (.ops none [oD 13 (.mov (.t 0)),
 oD 4 (.mov (.t 13))])
 (.keep [4]))
 .ret)
 .skip))
 (.seq (.seq (.seq (.ops none [oD 14 (.mov (.t 1)),
 oD 15 (.len .str (.t 14)),
 oD 16 (.eq false (.leaf .int) (.t 15) (.k (.int .i64 1))),
 oD 17 (.mov (.t 16)),
 oG 18 17 true (.mov (.t 1)),
 oG 19 17 true (.indexStr (.t 18) (.k (.int .i64 0))),
 oG 20 17 true (.bin .lss (.t 19) (.k (.int .u8 128))),
 oD 21 (.pick (.t 17) (.t 20) (.k (.bool false)))])
 (.keep [0, 1, 21]))
 (.cond (.t 21) (.seq (.ops (some [4]) [oD 22 (.mov (.t 0)),
 oD 23 (.mov (.t 1)),
 oD 24 (.indexStr (.t 23) (.k (.int .i64 0))),
 oD 26 (.mov (.t 1)),
 oD 27 (.indexStr (.t 26) (.k (.int .i64 0))),
 oD 25 (.call 147 [(.t 22), (.t 24)]),
 oD 28 (.call 146 [(.t 25), (.t 27)]),
 oD 4 (.mov (.t 28))])
 .ret)
 .skip))
 (.seq (.seq (.seq (.ops none [oD 30 (.mov (.t 1)),
 oD 31 (.call 148 [(.t 30)]),
 oD 29 (.mov (.t 31)),
 oD 32 (.extract 0 (.t 29)),
 oD 33 (.extract 1 (.t 29)),
 oD 5 (.alloc (List.replicate 256 (.bool false))),
 oN (.store 256 (.t 5) (.t 32)),
 oD 6 (.mov (.t 33))])
 (.keep [0, 1, 5, 6]))
 (.seq (.seq (.ops none [oD 34 (.mov (.t 6))])
 (.keep [0, 1, 5, 34]))
 (.cond (.t 34) (.seq (.seq (.ops none [oD 35 (.mov (.t 0)),
 oD 36 (.call 150 [(.t 35), (.t 5)]),
 oD 37 (.call 149 [(.t 36), (.t 5)]),
 oD 4 (.mov (.t 37))])
 (.keep [4]))
 .ret)
 .skip)))
 (.seq (.seq (.ops none [oD 38 (.mov (.t 0)),
 oD 39 (.mov (.t 1)),
 oD 40 (.call 152 [(.t 38), (.t 39)]),
 oD 41 (.mov (.t 1)),
 oD 42 (.call 151 [(.t 40), (.t 41)]),
 oD 4 (.mov (.t 42))])
 (.keep [4]))
 .ret)))))
  results := [.tmp 4]
theorem ok105 : FnOK Tryz.prog pureL 105 a105 := ⟨Tryz.f105, [(0, [0, 1]), (1, [0, 1, 12]), (2, [4]), (3, [0, 1, 21]), (4, [4]), (5, [0, 1, 5, 6]), (6, [0, 1, 5, 34]), (7, [4]), (8, [4])], [], Tryz.func105, by kernel_rfl⟩
/-- strings.Split -/
def a106 : AFunc where
  body :=
  (.seq (.seq (.ops none [oD 4 (.mov (.k .nilslice))])
 (.keep [0, 1]))
 (.seq (.seq (.ops none [oD 5 (.mov (.t 0)),
 oD 6 (.mov (.t 1)),
 oD 7 (.call 153 [(.t 5), (.t 6), (.k (.int .i64 0)), (.k (.int .i64 (-1)))]),
 oD 4 (.mov (.t 7))])
 (.keep [4]))
 .ret))
  results := [.tmp 4]
theorem ok106 : FnOK Tryz.prog pureL 106 a106 := ⟨Tryz.f106, [(0, [0, 1]), (1, [4])], [], Tryz.func106, by kernel_rfl⟩
/-- slices.ContainsFunc[[]string,string] -/
def a107 : AFunc where
  body :=
  (.seq (.seq (.ops none [oD 4 (.mov (.k (.bool false)))])
 (.keep [0, 1]))
 (.seq (.seq (.ops none [oD 5 (.mov (.t 0)),
 oD 6 (.mov (.t 1)),
 oD 7 (.call 154 [(.t 5), (.t 6)]),
 oD 8 (.bin .geq (.t 7) (.k (.int .i64 0))),
 oD 4 (.mov (.t 8))])
 (.keep [4]))
 .ret))
  results := [.tmp 4]
theorem ok107 : FnOK Tryz.prog pureL 107 a107 := ⟨Tryz.f107, [(0, [0, 1]), (1, [4])], [], Tryz.func107, by kernel_rfl⟩
/-- (*stylus/lay.layout).block$1 -/
def a108 : AFunc where
  body :=
  (.seq (.seq (.ops none [oD 11 (.load1 (.t 2)),
 oD 12 (.mov (.t 0)),
 oD 13 (.call 109 [(.t 11), (.t 12), (.k (.int .u8 105))]),
 oD 14 (.len .slice (.t 13)),
 oD 15 (.mov (.k (.int .i64 0)))])
 (.keep [1, 2, 3, 13, 14, 15]))
 (.block 0 (.loop (.seq (.keep [1, 2, 3, 13, 14, 15])
 (.seq (.seq (.ops none [oD 16 (.bin .lss (.t 15) (.t 14))])
 (.keep [1, 2, 3, 13, 14, 15, 16]))
 (.seq (.cond (.t 16) .skip
 (.exit 0))
 (.seq (.block 1 (.seq (.seq (.ops none [oD 17 (.idxSl 1 (.t 13) (.t 15)),
 oD 18 (.load1 (.t 17)),
 oD 7 (.mov (.t 18))])
 (.keep [1, 2, 3, 7, 13, 14, 15]))
 (.seq (.seq (.ops none [oD 19 (.mov (.t 1)),
 oD 20 (.bin .mul (.t 19) (.k (.int .i64 2000))),
 oD 8 (.mov (.t 20))])
 (.keep [1, 2, 3, 7, 8, 13, 14, 15]))
 (.seq (.ops (some [1, 2, 3, 7, 13, 14, 15]) [oD 21 (.load1 (.t 2)),
 oD 22 (.mov (.t 7)),
 oD 23 (.load1 (.t 2)),
 oD 24 (.nilCheck (.t 23)),
 oD 25 (.fieldAddr 0 (.t 24)),
 oD 26 (.fieldAddr 0 (.t 25)),
 oD 27 (.load1 (.t 26)),
 oD 28 (.mov (.t 8)),
 oD 29 (.bin .sub (.t 27) (.t 28)),
 oD 30 (.mov (.t 8)),
 oD 31 (.call 110 [(.t 21), (.t 22), (.t 29), (.t 30)])])
 (.seq (.seq (.ops none [oD 32 (.load1 (.t 2)),
 oD 33 (.mov (.t 7)),
 oD 34 (.call 109 [(.t 32), (.t 33), (.k (.int .u8 108))]),
 oD 35 (.len .slice (.t 34)),
 oD 36 (.mov (.k (.int .i64 0)))])
 (.keep [1, 2, 3, 13, 14, 15, 34, 35, 36]))
 (.block 2 (.loop (.seq (.keep [1, 2, 3, 13, 14, 15, 34, 35, 36])
 (.seq (.seq (.ops none [oD 37 (.bin .lss (.t 36) (.t 35))])
 (.keep [1, 2, 3, 13, 14, 15, 34, 35, 36, 37]))
 (.seq (.cond (.t 37) .skip
 (.exit 2))
 (.seq (.block 3 (.seq (.seq (.ops none [oD 38 (.idxSl 1 (.t 34) (.t 36)),
 oD 39 (.load1 (.t 38)),
 oD 10 (.mov (.t 39))])
 (.keep [1, 2, 3, 10, 13, 14, 15, 34, 35, 36]))
 (.seq (.ops none [oD 40 (.load1 (.t 3)),
 oD 41 (.mov (.t 10)),
 oD 42 (.mov (.t 1)),
 oD 43 (.bin .add (.t 42) (.k (.int .i64 1))),
 oD 44 (.callv (.t 40) [(.t 41), (.t 43)])])
 (.keep [1, 2, 3, 13, 14, 15, 34, 35, 36]))))
 (.seq (.ops none [oD 45 (.bin .add (.t 36) (.k (.int .i64 1))),
 oD 36 (.mov (.t 45))])
 (.keep [1, 2, 3, 13, 14, 15, 34, 35, 36])))))))))))))
 (.seq (.ops none [oD 46 (.bin .add (.t 15) (.k (.int .i64 1))),
 oD 15 (.mov (.t 46))])
 (.keep [1, 2, 3, 13, 14, 15])))))))))
  results := []
theorem ok108 : FnOK Tryz.prog pureL 108 a108 := ⟨Tryz.f108, [(0, [1, 2, 3, 13, 14, 15]), (1, [1, 2, 3, 13, 14, 15, 16]), (2, [1, 2, 3, 7, 13, 14, 15]), (3, [1, 2, 3, 7, 8, 13, 14, 15]), (4, [1, 2, 3, 7, 13, 14, 15]), (5, [1, 2, 3, 13, 14, 15, 34, 35, 36]), (6, [1, 2, 3, 13, 14, 15, 34, 35, 36, 37]), (7, [1, 2, 3, 10, 13, 14, 15, 34, 35, 36]), (8, [1, 2, 3, 13, 14, 15, 34, 35, 36]), (9, [1, 2, 3, 13, 14, 15, 34, 35, 36]), (10, [1, 2, 3, 13, 14, 15])], [(0, [1, 2, 3, 13, 14, 15]), (2, [1, 2, 3, 13, 14, 15, 34, 35, 36])], Tryz.func108, by kernel_rfl⟩
/-- (*stylus/lay.layout).within -/
def a109 : AFunc where
  body :=
  (.seq (.seq (.ops none [oD 6 (.mov (.k .nilslice))])
 (.keep [0, 1, 2]))
 (.seq (.seq (.ops none [oD 7 (.mov (.k .nilslice))])
 (.keep [0, 1, 2, 7]))
 (.seq (.seq (.ops none [oD 10 (.mov (.t 0)),
 oD 11 (.mov (.t 1)),
 oD 12 (.call 62 [(.t 10), (.t 11)]),
 oD 8 (.mov (.t 12))])
 (.keep [0, 1, 2, 7, 8]))
 (.seq (.seq (.seq (.ops none [oD 13 (.mov (.t 1)),
 oD 14 (.bin .add (.t 13) (.k (.int .i64 1))),
 oD 9 (.mov (.t 14))])
 (.keep [0, 2, 7, 8, 9]))
 (.block 0 (.loop (.seq (.keep [0, 2, 7, 8, 9])
 (.seq (.seq (.seq (.ops none [oD 15 (.mov (.t 9)),
 oD 16 (.mov (.t 8)),
 oD 17 (.bin .lss (.t 15) (.t 16))])
 (.keep [0, 2, 7, 8, 9, 17]))
 (.cond (.t 17) .skip
 (.exit 0)))
 (.seq (.block 1 (.seq (.seq (.ops none [oD 20 (.mov (.t 0)),
 oD 21 (.nilCheck (.t 20)),
 oD 22 (.fieldAddr 5 (.t 21)),
 oD 23 (.load1 (.t 22)),
 oD 24 (.mov (.t 9)),
 oD 25 (.idxSl 3 (.t 23) (.t 24)),
 oD 26 (.fieldAddr 0 (.t 25)),
 oD 27 (.load1 (.t 26)),
 oD 28 (.eq false (.leaf .int) (.t 27) (.k (.int .i64 2)))])
 (.keep [0, 2, 7, 8, 9, 28]))
 (.cond (.t 28) (.seq (.seq (.seq (.ops none [oD 29 (.mov (.t 0)),
 oD 30 (.nilCheck (.t 29)),
 oD 31 (.fieldAddr 5 (.t 30)),
 oD 32 (.load1 (.t 31)),
 oD 33 (.mov (.t 9)),
 oD 34 (.idxSl 3 (.t 32) (.t 33)),
 oD 35 (.fieldAddr 1 (.t 34)),
 oD 36 (.load1 (.t 35)),
 oD 37 (.mov (.t 2)),
 oD 38 (.eq false (.leaf .int) (.t 36) (.t 37))])
 (.keep [0, 2, 7, 8, 9, 38]))
 (.cond (.t 38) (.seq (.ops none [oD 39 (.mov (.t 7)),
 oD 40 (.mov (.t 9)),
 oD 41 (.buildSlice [(.int .i64 0)] 1 1 [(0, 1, (.t 40))]),
 oD 42 (.append 1 (.t 39) (.t 41)),
 oD 7 (.mov (.t 42))])
 (.keep [0, 2, 7, 8, 9]))
 .skip))
 (.seq (.ops none [oD 43 (.mov (.t 0)),
 oD 44 (.mov (.t 9)),
 oD 45 (.call 62 [(.t 43), (.t 44)]),
 oD 9 (.mov (.t 45))])
 (.keep [0, 2, 7, 8, 9])))
 .skip)))
 (.seq (.ops none [oD 18 (.mov (.t 9)),
 oD 19 (.bin .add (.t 18) (.k (.int .i64 1))),
 oD 9 (.mov (.t 19))])
 (.keep [0, 2, 7, 8, 9]))))))))
 (.seq (.seq (.ops none [oD 46 (.mov (.t 7)),
 oD 6 (.mov (.t 46))])
 (.keep [6]))
 .ret)))))
  results := [.tmp 6]
theorem ok109 : FnOK Tryz.prog pureL 109 a109 := ⟨Tryz.f109, [(0, [0, 1, 2]), (1, [0, 1, 2, 7]), (2, [0, 1, 2, 7, 8]), (3, [0, 2, 7, 8, 9]), (4, [0, 2, 7, 8, 9, 17]), (6, [0, 2, 7, 8, 9, 28]), (7, [0, 2, 7, 8, 9, 38]), (8, [0, 2, 7, 8, 9]), (9, [0, 2, 7, 8, 9]), (5, [0, 2, 7, 8, 9]), (10, [6])], [(0, [0, 2, 7, 8, 9])], Tryz.func109, by kernel_rfl⟩
/-- (*stylus/lay.layout).put -/
def a110 : AFunc where
  body :=
  (.seq (.seq (.ops none [oD 13 (.mov (.t 0)),
 oD 14 (.nilCheck (.t 13)),
 oD 15 (.fieldAddr 5 (.t 14)),
 oD 16 (.load1 (.t 15)),
 oD 17 (.mov (.t 1)),
 oD 18 (.idxSl 3 (.t 16) (.t 17)),
 oD 19 (.fieldAddr 1 (.t 18)),
 oD 20 (.load1 (.t 19)),
 oD 21 (.call 155 [(.k (.str [49, 50, 51])), (.t 20)]),
 oD 22 (.bin .geq (.t 21) (.k (.int .i64 0))),
 oD 8 (.mov (.t 22))])
 (.keep [0, 1, 2, 3, 8]))
 (.seq (.seq (.ops none [oD 23 (.mov (.t 0)),
 oD 24 (.mov (.t 1)),
 oD 25 (.mov (.t 2)),
 oD 26 (.call 156 [(.t 23), (.t 24), (.t 25)]),
 oD 9 (.mov (.t 26))])
 (.keep [0, 3, 8, 9]))
 (.seq (.seq (.ops none [oD 27 (.mov (.t 9)),
 oD 28 (.mov (.t 3)),
 oD 29 (.call 68 [(.t 27), (.t 28)]),
 oD 30 (.len .slice (.t 29)),
 oD 31 (.mov (.k (.int .i64 0)))])
 (.keep [0, 8, 9, 29, 30, 31]))
 (.block 0 (.loop (.seq (.keep [0, 8, 9, 29, 30, 31])
 (.seq (.seq (.ops none [oD 32 (.bin .lss (.t 31) (.t 30))])
 (.keep [0, 8, 9, 29, 30, 31, 32]))
 (.seq (.cond (.t 32) .skip
 (.exit 0))
 (.seq (.block 1 (.seq (.seq (.ops none [oD 33 (.mov (.t 31)),
 oD 34 (.idxSl 3 (.t 29) (.t 31)),
 oD 35 (.loadN 3 (.t 34)),
 oD 11 (.alloc [.nilslice, (.int .i64 0), (.int .i64 0)]),
 oD 10 (.mov (.t 33)),
 oN (.store 3 (.t 11) (.t 35))])
 (.keep [0, 8, 9, 10, 11, 29, 30, 31]))
 (.seq (.seq (.ops none [oD 12 (.mov (.k (.int .i64 0)))])
 (.keep [0, 8, 9, 10, 11, 12, 29, 30, 31]))
 (.seq (.block 2 (.seq (.seq (.ops none [oD 37 (.fieldAddr 2 (.t 11)),
 oD 38 (.load1 (.t 37)),
 oD 39 (.bin .and (.t 38) (.k (.int .i64 4))),
 oD 40 (.eq true (.leaf .int) (.t 39) (.k (.int .i64 0))),
 oD 36 (.mov (.t 40))])
 (.keep [0, 8, 9, 10, 11, 12, 29, 30, 31, 36]))
 (.cond (.t 36) (.seq (.ops none [oD 12 (.mov (.k (.int .i64 2)))])
 (.keep [0, 8, 9, 11, 12, 29, 30, 31]))
 (.seq (.seq (.ops none [oD 42 (.mov (.t 8)),
 oD 43 (.mov (.t 42)),
 oG 44 43 false (.mov (.t 9)),
 oG 45 43 false (.len .slice (.t 44)),
 oG 46 43 false (.bin .gtr (.t 45) (.k (.int .i64 1))),
 oG 47 43 false (.mov (.t 46)),
 oG 48 47 true (.mov (.t 10)),
 oG 49 47 true (.eq false (.leaf .int) (.t 48) (.k (.int .i64 0))),
 oG 50 47 true (.mov (.t 49)),
 oG 51 50 false (.mov (.t 10)),
 oG 52 50 false (.mov (.t 9)),
 oG 53 50 false (.len .slice (.t 52)),
 oG 54 50 false (.bin .sub (.t 53) (.k (.int .i64 2))),
 oG 55 50 false (.eq false (.leaf .int) (.t 51) (.t 54)),
 oG 56 47 true (.pick (.t 50) (.k (.bool true)) (.t 55)),
 oG 57 43 false (.pick (.t 47) (.t 56) (.k (.bool false))),
 oD 58 (.pick (.t 43) (.k (.bool true)) (.t 57)),
 oD 41 (.mov (.t 58))])
 (.keep [0, 8, 9, 11, 12, 29, 30, 31, 41]))
 (.cond (.t 41) (.seq (.ops none [oD 12 (.mov (.k (.int .i64 1)))])
 (.keep [0, 8, 9, 11, 12, 29, 30, 31]))
 .skip)))))
 (.ops (some [0, 8, 9, 29, 30, 31]) [oD 59 (.mov (.t 0)),
 oD 60 (.mov (.t 0)),
 oD 61 (.nilCheck (.t 60)),
 oD 62 (.fieldAddr 137 (.t 61)),
 oD 63 (.load1 (.t 62)),
 oD 64 (.loadN 3 (.t 11)),
 oD 65 (.mov (.t 12)),
 oD 66 (.mov (.t 0)),
 oD 67 (.loadN 3 (.t 11)),
 ⟨(some 68), none, .call 157 [(.t 66), (.t 67)], [⟨63, none, .load1 (.t 62)⟩, ⟨64, none, .loadN 3 (.t 11)⟩]⟩,
 oD 69 (.build [.nilslice, (.int .i64 0), (.int .i64 0), (.int .i64 0), (.bool false), .nilslice] [(0, 3, (.t 64)), (3, 1, (.t 65)), (5, 1, (.t 68))]),
 oD 70 (.buildSlice [.nilslice, (.int .i64 0), (.int .i64 0), (.int .i64 0), (.bool false), .nilslice] 6 1 [(0, 6, (.t 69))]),
 oD 71 (.append 6 (.t 63) (.t 70)),
 oD 72 (.nilCheck (.t 59)),
 oD 73 (.fieldAddr 137 (.t 72)),
 oN (.store 1 (.t 73) (.t 71))])))))
 (.seq (.ops none [oD 74 (.bin .add (.t 31) (.k (.int .i64 1))),
 oD 31 (.mov (.t 74))])
 (.keep [0, 8, 9, 29, 30, 31])))))))))))
  results := []
theorem ok110 : FnOK Tryz.prog pureL 110 a110 := ⟨Tryz.f110, [(0, [0, 1, 2, 3, 8]), (1, [0, 3, 8, 9]), (2, [0, 8, 9, 29, 30, 31]), (3, [0, 8, 9, 29, 30, 31, 32]), (4, [0, 8, 9, 10, 11, 29, 30, 31]), (5, [0, 8, 9, 10, 11, 12, 29, 30, 31]), (6, [0, 8, 9, 10, 11, 12, 29, 30, 31, 36]), (8, [0, 8, 9, 11, 12, 29, 30, 31, 41]), (9, [0, 8, 9, 11, 12, 29, 30, 31]), (7, [0, 8, 9, 11, 12, 29, 30, 31]), (10, [0, 8, 9, 29, 30, 31]), (11, [0, 8, 9, 29, 30, 31])], [(0, [0, 8, 9, 29, 30, 31])], Tryz.func110, by kernel_rfl⟩
end Go.Ab
