/- Printed by program: functions of the seat as the abstract machine runs them, and tables of their calls. -/
import Derived.Test.YtfdokiknemihpaaGreatDoorF1
set_option maxRecDepth 100000
namespace Go.Ab
open Go.Proofs
/-- stylus/best.Check$2 -/
def a235 : AFunc where
  body :=
  (.seq (.seq (.ops none [oD 2 (.box (.t 0)),
 oD 3 (.mov (.k (.bool false)))])
 (.keep [1, 2]))
 (.seq (.seq (.ops none [oD 4 (.fieldAddr 0 (.t 2)),
 oD 5 (.load1 (.t 4)),
 oD 6 (.bin .lss (.t 5) (.k (.int .i64 1))),
 oD 7 (.mov (.t 6)),
 oG 8 7 false (.fieldAddr 0 (.t 2)),
 oG 9 7 false (.load1 (.t 8)),
 oG 10 7 false (.bin .gtr (.t 9) (.k (.int .i64 4))),
 oD 11 (.pick (.t 7) (.k (.bool true)) (.t 10)),
 oD 12 (.mov (.t 11)),
 oG 13 12 false (.load1 (.t 1)),
 oG 14 12 false (.fieldAddr 1 (.t 2)),
 oG 15 12 false (.load1 (.t 14)),
 oG 16 12 false (.callv (.t 13) [(.t 15)]),
 oD 17 (.pick (.t 12) (.k (.bool true)) (.t 16)),
 oD 18 (.mov (.t 17)),
 oG 19 18 false (.load1 (.t 1)),
 oG 20 18 false (.fieldAddr 2 (.t 2)),
 oG 21 18 false (.load1 (.t 20)),
 oG 22 18 false (.callv (.t 19) [(.t 21)]),
 oD 23 (.pick (.t 18) (.k (.bool true)) (.t 22)),
 oD 24 (.mov (.t 23)),
 oG 25 24 false (.load1 (.t 1)),
 oG 26 24 false (.fieldAddr 3 (.t 2)),
 oG 27 24 false (.load1 (.t 26)),
 oG 28 24 false (.callv (.t 25) [(.t 27)]),
 oD 29 (.pick (.t 24) (.k (.bool true)) (.t 28)),
 oD 3 (.mov (.t 29))])
 (.keep [3]))
 .ret))
  results := [.tmp 3]
theorem ok235 : FnOK Tryz.prog pureL 235 a235 := ⟨Tryz.f235, [(0, [1, 2]), (1, [3])], [], Tryz.func235, by kernel_rfl⟩
/-- (stylus/best.flow).places$1 -/
def a236 : AFunc where
  body :=
  (.seq (.seq (.ops none [oD 4 (.fieldAddr 0 (.t 1)),
 oD 5 (.load1 (.t 4)),
 oD 6 (.len .slice (.t 5)),
 oD 7 (.bin .add (.t 6) (.k (.int .i64 1))),
 oD 8 (.mov (.k (.int .i64 0)))])
 (.keep [0, 1, 7, 8]))
 (.block 0 (.loop (.seq (.keep [0, 1, 7, 8])
 (.seq (.seq (.ops none [oD 9 (.bin .lss (.t 8) (.t 7))])
 (.keep [0, 1, 7, 8, 9]))
 (.seq (.cond (.t 9) .skip
 (.exit 0))
 (.seq (.block 1 (.seq (.seq (.ops none [oD 10 (.mov (.t 8)),
 oD 3 (.mov (.t 10))])
 (.keep [0, 1, 3, 7, 8]))
 (.seq (.seq (.ops none [oD 11 (.loadN 3 (.t 1)),
 oD 12 (.mov (.t 3)),
 oD 13 (.call 237 [(.t 11), (.t 12)]),
 oD 14 (.mov (.t 13)),
 oG 15 14 true (.mov (.t 0)),
 oG 16 14 true (.mov (.t 3)),
 oG 17 14 true (.callv (.t 15) [(.t 16)]),
 oG 18 14 true (.un .not (.t 17)),
 oD 19 (.pick (.t 14) (.t 18) (.k (.bool false)))])
 (.keep [0, 1, 7, 8, 19]))
 (.cond (.t 19) .ret
 .skip))))
 (.seq (.ops none [oD 20 (.bin .add (.t 8) (.k (.int .i64 1))),
 oD 8 (.mov (.t 20))])
 (.keep [0, 1, 7, 8])))))))))
  results := []
theorem ok236 : FnOK Tryz.prog pureL 236 a236 := ⟨Tryz.f236, [(0, [0, 1, 7, 8]), (1, [0, 1, 7, 8, 9]), (2, [0, 1, 3, 7, 8]), (3, [0, 1, 7, 8, 19]), (4, [0, 1, 7, 8])], [(0, [0, 1, 7, 8])], Tryz.func236, by kernel_rfl⟩
/-- (stylus/best.flow).place -/
def a237 : AFunc where
  body :=
  (.seq (.seq (.ops none [oD 2 (.box (.t 0)),
 oD 4 (.mov (.k (.bool false)))])
 (.keep [1, 2]))
 (.seq (.seq (.ops none [oD 5 (.mov (.t 1)),
 oD 6 (.fieldAddr 0 (.t 2)),
 oD 7 (.load1 (.t 6)),
 oD 8 (.len .slice (.t 7)),
 oD 9 (.eq false (.leaf .int) (.t 5) (.t 8)),
 oD 10 (.mov (.t 9)),
 oG 11 10 false (.mov (.t 1)),
 oG 12 10 false (.bin .geq (.t 11) (.k (.int .i64 0))),
 oG 13 10 false (.mov (.t 12)),
 oG 14 13 true (.mov (.t 1)),
 oG 15 13 true (.fieldAddr 0 (.t 2)),
 oG 16 13 true (.load1 (.t 15)),
 oG 17 13 true (.len .slice (.t 16)),
 oG 18 13 true (.bin .lss (.t 14) (.t 17)),
 oG 19 10 false (.pick (.t 13) (.t 18) (.k (.bool false))),
 oG 20 10 false (.mov (.t 19)),
 oG 21 20 true (.loadN 3 (.t 2)),
 oG 22 20 true (.mov (.t 1)),
 oG 23 20 true (.call 238 [(.t 21), (.t 22)]),
 oG 24 20 true (.mov (.t 23)),
 oG 25 24 false (.fieldAddr 0 (.t 2)),
 oG 26 24 false (.load1 (.t 25)),
 oG 27 24 false (.mov (.t 1)),
 oG 28 24 false (.idxSl 5 (.t 26) (.t 27)),
 oG 29 24 false (.fieldAddr 0 (.t 28)),
 oG 30 24 false (.load1 (.t 29)),
 oG 31 24 false (.eq false (.leaf .int) (.t 30) (.k (.int .i64 2))),
 oG 32 20 true (.pick (.t 24) (.k (.bool true)) (.t 31)),
 oG 33 10 false (.pick (.t 20) (.t 32) (.k (.bool false))),
 oD 34 (.pick (.t 10) (.k (.bool true)) (.t 33)),
 oD 4 (.mov (.t 34))])
 (.keep [4]))
 .ret))
  results := [.tmp 4]
theorem ok237 : FnOK Tryz.prog pureL 237 a237 := ⟨Tryz.f237, [(0, [1, 2]), (1, [4])], [], Tryz.func237, by kernel_rfl⟩
/-- (stylus/best.flow).hyphen -/
def a238 : AFunc where
  body :=
  (.seq (.seq (.ops none [oD 2 (.box (.t 0)),
 oD 4 (.mov (.k (.bool false)))])
 (.keep [1, 2]))
 (.seq (.seq (.ops none [oD 5 (.mov (.t 1)),
 oD 6 (.bin .geq (.t 5) (.k (.int .i64 0))),
 oD 7 (.mov (.t 6)),
 oG 8 7 true (.mov (.t 1)),
 oG 9 7 true (.fieldAddr 0 (.t 2)),
 oG 10 7 true (.load1 (.t 9)),
 oG 11 7 true (.len .slice (.t 10)),
 oG 12 7 true (.bin .lss (.t 8) (.t 11)),
 oD 13 (.pick (.t 7) (.t 12) (.k (.bool false))),
 oD 14 (.mov (.t 13)),
 oG 15 14 true (.fieldAddr 0 (.t 2)),
 oG 16 14 true (.load1 (.t 15)),
 oG 17 14 true (.mov (.t 1)),
 oG 18 14 true (.idxSl 5 (.t 16) (.t 17)),
 oG 19 14 true (.fieldAddr 0 (.t 18)),
 oG 20 14 true (.load1 (.t 19)),
 oG 21 14 true (.eq false (.leaf .int) (.t 20) (.k (.int .i64 3))),
 oD 22 (.pick (.t 14) (.t 21) (.k (.bool false))),
 oD 4 (.mov (.t 22))])
 (.keep [4]))
 .ret))
  results := [.tmp 4]
theorem ok238 : FnOK Tryz.prog pureL 238 a238 := ⟨Tryz.f238, [(0, [1, 2]), (1, [4])], [], Tryz.func238, by kernel_rfl⟩
/-- (stylus/best.flow).line -/
def a239 : AFunc where
  body :=
  (.seq (.seq (.ops none [oD 3 (.box (.t 0)),
 oD 6 (.alloc [(.int .i64 0), (.int .i64 0), (.int .i64 0), (.int .i64 0), (.bool false)])])
 (.keep [1, 2, 3, 6]))
 (.seq (.ops (some [2, 3, 6, 7]) [oD 10 (.fieldAddr 2 (.t 3)),
 oD 11 (.load1 (.t 10)),
 oD 12 (.mov (.t 2)),
 oD 13 (.idxSl 3 (.t 11) (.t 12)),
 oD 14 (.loadN 3 (.t 13)),
 oD 15 (.fieldAddr 2 (.t 3)),
 oD 16 (.load1 (.t 15)),
 oD 17 (.mov (.t 1)),
 oD 18 (.bin .add (.t 17) (.k (.int .i64 1))),
 oD 19 (.idxSl 3 (.t 16) (.t 18)),
 oD 20 (.loadN 3 (.t 19)),
 oD 21 (.call 251 [(.t 14), (.t 20)]),
 oD 22 (.build [(.int .i64 0), (.int .i64 0), (.int .i64 0), (.int .i64 0), (.bool false)] [(0, 3, (.t 21))]),
 oD 7 (.alloc [(.int .i64 0), (.int .i64 0), (.int .i64 0), (.int .i64 0), (.bool false)]),
 oN (.store 5 (.t 7) (.t 22))])
 (.seq (.seq (.seq (.ops none [oD 23 (.loadN 3 (.t 3)),
 oD 24 (.mov (.t 2)),
 oD 25 (.call 238 [(.t 23), (.t 24)])])
 (.keep [2, 3, 6, 7, 25]))
 (.cond (.t 25) (.ops (some [2, 3, 6, 7]) [oD 26 (.fieldAddr 0 (.t 7)),
 oD 27 (.fieldAddr 0 (.t 26)),
 oD 28 (.load1 (.t 27)),
 oD 29 (.fieldAddr 0 (.t 3)),
 oD 30 (.load1 (.t 29)),
 oD 31 (.mov (.t 2)),
 oD 32 (.idxSl 5 (.t 30) (.t 31)),
 oD 33 (.fieldAddr 1 (.t 32)),
 oD 34 (.load1 (.t 33)),
 oD 35 (.bin .add (.t 28) (.t 34)),
 oD 36 (.fieldAddr 0 (.t 7)),
 oD 37 (.fieldAddr 0 (.t 36)),
 oN (.store 1 (.t 37) (.t 35))])
 .skip))
 (.seq (.ops (some [2, 3, 6, 7, 8, 9]) [oD 38 (.fieldAddr 1 (.t 3)),
 oD 39 (.load1 (.t 38)),
 oD 40 (.fieldAddr 0 (.t 7)),
 oD 41 (.fieldAddr 0 (.t 40)),
 oD 42 (.load1 (.t 41)),
 oD 43 (.bin .sub (.t 39) (.t 42)),
 oD 44 (.fieldAddr 0 (.t 7)),
 oD 45 (.fieldAddr 1 (.t 44)),
 oD 46 (.load1 (.t 45)),
 oD 8 (.mov (.t 43)),
 oD 9 (.mov (.t 46))])
 (.seq (.seq (.seq (.ops none [oD 47 (.mov (.t 8)),
 oD 48 (.bin .lss (.t 47) (.k (.int .i64 0)))])
 (.keep [2, 3, 6, 7, 8, 9, 48]))
 (.cond (.t 48) (.ops (some [3, 6, 7, 8, 9]) [oD 49 (.mov (.t 8)),
 oD 50 (.un .neg (.t 49)),
 oD 51 (.fieldAddr 0 (.t 7)),
 oD 52 (.fieldAddr 2 (.t 51)),
 oD 53 (.load1 (.t 52)),
 oD 8 (.mov (.t 50)),
 oD 9 (.mov (.t 53))])
 (.seq (.seq (.ops none [oD 54 (.mov (.t 2)),
 oD 55 (.fieldAddr 0 (.t 3)),
 oD 56 (.load1 (.t 55)),
 oD 57 (.len .slice (.t 56)),
 oD 58 (.eq false (.leaf .int) (.t 54) (.t 57))])
 (.keep [3, 6, 7, 8, 9, 58]))
 (.cond (.t 58) (.seq (.ops none [oD 8 (.mov (.k (.int .i64 0)))])
 (.keep [3, 6, 7, 8, 9]))
 .skip))))
 (.seq (.block 0 (.seq (.seq (.ops none [oD 66 (.mov (.t 8)),
 oD 67 (.eq false (.leaf .int) (.t 66) (.k (.int .i64 0))),
 oD 65 (.mov (.t 67))])
 (.keep [3, 6, 7, 8, 9, 65]))
 (.cond (.t 65) .skip
 (.seq (.seq (.ops none [oD 69 (.mov (.t 9)),
 oD 70 (.eq false (.leaf .int) (.t 69) (.k (.int .i64 0))),
 oD 68 (.mov (.t 70))])
 (.keep [3, 6, 7, 8, 9, 68]))
 (.cond (.t 68) (.seq (.ops none [oD 71 (.fieldAddr 3 (.t 7)),
 oN (.store 1 (.t 71) (.k (.int .i64 1024)))])
 (.keep [3, 6, 7]))
 (.seq (.ops none [oD 59 (.mov (.t 8)),
 oD 60 (.bin .shl (.t 59) (.k (.int .u64 7))),
 oD 61 (.mov (.t 9)),
 oD 62 (.bin .quo (.t 60) (.t 61)),
 oD 63 (.minmax false (.t 62) (.k (.int .i64 1024))),
 oD 64 (.fieldAddr 3 (.t 7)),
 oN (.store 1 (.t 64) (.t 63))])
 (.keep [3, 6, 7])))))))
 (.seq (.seq (.ops none [oD 72 (.fieldAddr 0 (.t 7)),
 oD 73 (.fieldAddr 0 (.t 72)),
 oD 74 (.load1 (.t 73)),
 oD 75 (.fieldAddr 0 (.t 7)),
 oD 76 (.fieldAddr 2 (.t 75)),
 oD 77 (.load1 (.t 76)),
 oD 78 (.bin .sub (.t 74) (.t 77)),
 oD 79 (.fieldAddr 1 (.t 3)),
 oD 80 (.load1 (.t 79)),
 oD 81 (.bin .gtr (.t 78) (.t 80)),
 oD 82 (.fieldAddr 4 (.t 7)),
 oN (.store 1 (.t 82) (.t 81))])
 (.keep [6, 7]))
 (.seq (.seq (.ops none [oD 83 (.loadN 5 (.t 7)),
 oN (.store 5 (.t 6) (.t 83))])
 (.keep [6]))
 .ret))))))))
  results := [.cellN 6 5]
theorem ok239 : FnOK Tryz.prog pureL 239 a239 := ⟨Tryz.f239, [(0, [1, 2, 3, 6]), (1, [2, 3, 6, 7]), (2, [2, 3, 6, 7, 25]), (3, [2, 3, 6, 7]), (4, [2, 3, 6, 7, 8, 9]), (5, [2, 3, 6, 7, 8, 9, 48]), (7, [3, 6, 7, 8, 9, 58]), (8, [3, 6, 7, 8, 9]), (6, [3, 6, 7, 8, 9]), (10, [3, 6, 7, 8, 9, 65]), (11, [3, 6, 7, 8, 9, 68]), (9, [3, 6, 7]), (12, [3, 6, 7]), (13, [6, 7]), (14, [6])], [], Tryz.func239, by kernel_rfl⟩
/-- slices.IndexFunc[[]stylus/api.Item,stylus/api.Item] -/
def a240 : AFunc where
  body :=
  (.seq (.seq (.ops none [oD 4 (.mov (.k (.int .i64 0)))])
 (.keep [0, 1]))
 (.seq (.seq (.seq (.ops none [oD 6 (.mov (.t 0)),
 oD 7 (.len .slice (.t 6)),
 oD 8 (.mov (.k (.int .i64 0)))])
 (.keep [0, 1, 7, 8]))
 (.block 0 (.loop (.seq (.keep [0, 1, 7, 8])
 (.seq (.seq (.ops none [oD 9 (.bin .lss (.t 8) (.t 7))])
 (.keep [0, 1, 7, 8, 9]))
 (.seq (.cond (.t 9) .skip
 (.exit 0))
 (.seq (.block 1 (.seq (.seq (.ops none [oD 10 (.mov (.t 8)),
 oD 5 (.mov (.t 10))])
 (.keep [0, 1, 5, 7, 8]))
 (.seq (.seq (.ops none [oD 11 (.mov (.t 1)),
 oD 12 (.mov (.t 0)),
 oD 13 (.mov (.t 5)),
 oD 14 (.idxSl 5 (.t 12) (.t 13)),
 oD 15 (.loadN 5 (.t 14)),
 oD 16 (.callv (.t 11) [(.t 15)])])
 (.keep [0, 1, 5, 7, 8, 16]))
 (.cond (.t 16) (.seq (.seq (.ops none [oD 17 (.mov (.t 5)),
 oD 4 (.mov (.t 17))])
 (.keep [4]))
 .ret)
 .skip))))
 (.seq (.ops none [oD 18 (.bin .add (.t 8) (.k (.int .i64 1))),
 oD 8 (.mov (.t 18))])
 (.keep [0, 1, 7, 8])))))))))
 (.seq (.seq (.ops none [oD 4 (.mov (.k (.int .i64 (-1))))])
 (.keep [4]))
 .ret)))
  results := [.tmp 4]
theorem ok240 : FnOK Tryz.prog pureL 240 a240 := ⟨Tryz.f240, [(0, [0, 1]), (1, [0, 1, 7, 8]), (2, [0, 1, 7, 8, 9]), (3, [0, 1, 5, 7, 8]), (4, [0, 1, 5, 7, 8, 16]), (5, [4]), (6, [0, 1, 7, 8]), (7, [4])], [(0, [0, 1, 7, 8])], Tryz.func240, by kernel_rfl⟩
/-- stylus/lines.sum -/
def a241 : AFunc where
  body :=
  (.seq (.seq (.ops none [oD 4 (.mov (.k (.int .i64 0)))])
 (.keep [0, 1]))
 (.seq (.seq (.ops none [oD 5 (.mov (.k (.int .i64 0)))])
 (.keep [0, 1, 5]))
 (.seq (.seq (.seq (.ops none [oD 8 (.mov (.t 0)),
 oD 9 (.len .slice (.t 8)),
 oD 10 (.mov (.k (.int .i64 0)))])
 (.keep [1, 5, 8, 9, 10]))
 (.block 0 (.loop (.seq (.keep [1, 5, 8, 9, 10])
 (.seq (.seq (.ops none [oD 11 (.bin .lss (.t 10) (.t 9))])
 (.keep [1, 5, 8, 9, 10, 11]))
 (.seq (.cond (.t 11) .skip
 (.exit 0))
 (.seq (.block 1 (.seq (.seq (.ops none [oD 12 (.idxSl 5 (.t 8) (.t 10)),
 oD 13 (.loadN 5 (.t 12)),
 oD 7 (.alloc [(.int .i64 0), (.int .i64 0), (.int .i64 0), (.int .i64 0), (.int .i64 0)]),
 oN (.store 5 (.t 7) (.t 13))])
 (.keep [1, 5, 7, 8, 9, 10]))
 (.seq (.ops none [oD 14 (.mov (.t 5)),
 oD 15 (.mov (.t 1)),
 oD 16 (.loadN 5 (.t 7)),
 oD 17 (.callv (.t 15) [(.t 16)]),
 oD 18 (.bin .add (.t 14) (.t 17)),
 oD 5 (.mov (.t 18))])
 (.keep [1, 5, 8, 9, 10]))))
 (.seq (.ops none [oD 19 (.bin .add (.t 10) (.k (.int .i64 1))),
 oD 10 (.mov (.t 19))])
 (.keep [1, 5, 8, 9, 10])))))))))
 (.seq (.seq (.ops none [oD 20 (.mov (.t 5)),
 oD 4 (.mov (.t 20))])
 (.keep [4]))
 .ret))))
  results := [.tmp 4]
theorem ok241 : FnOK Tryz.prog pureL 241 a241 := ⟨Tryz.f241, [(0, [0, 1]), (1, [0, 1, 5]), (2, [1, 5, 8, 9, 10]), (3, [1, 5, 8, 9, 10, 11]), (4, [1, 5, 7, 8, 9, 10]), (5, [1, 5, 8, 9, 10]), (6, [1, 5, 8, 9, 10]), (7, [4])], [(0, [1, 5, 8, 9, 10])], Tryz.func241, by kernel_rfl⟩
/-- stylus/lines.wide -/
def a242 : AFunc where
  body :=
  (.seq (.seq (.ops none [oD 1 (.box (.t 0)),
 oD 2 (.mov (.k (.int .i64 0)))])
 (.keep [1]))
 (.seq (.seq (.seq (.ops none [oD 3 (.fieldAddr 0 (.t 1)),
 oD 4 (.load1 (.t 3)),
 oD 5 (.eq false (.leaf .int) (.t 4) (.k (.int .i64 3)))])
 (.keep [1, 5]))
 (.cond (.t 5) (.seq (.seq (.ops none [oD 2 (.mov (.k (.int .i64 0)))])
 (.keep [2]))
 .ret)
 .skip))
 (.seq (.seq (.ops none [oD 6 (.fieldAddr 1 (.t 1)),
 oD 7 (.load1 (.t 6)),
 oD 2 (.mov (.t 7))])
 (.keep [2]))
 .ret)))
  results := [.tmp 2]
theorem ok242 : FnOK Tryz.prog pureL 242 a242 := ⟨Tryz.f242, [(0, [1]), (1, [1, 5]), (2, [2]), (3, [2])], [], Tryz.func242, by kernel_rfl⟩
/-- stylus/lines.grows -/
def a243 : AFunc where
  body :=
  (.seq (.seq (.ops none [oD 1 (.box (.t 0)),
 oD 2 (.mov (.k (.int .i64 0)))])
 (.keep [1]))
 (.seq (.seq (.seq (.ops none [oD 3 (.fieldAddr 0 (.t 1)),
 oD 4 (.load1 (.t 3)),
 oD 5 (.eq true (.leaf .int) (.t 4) (.k (.int .i64 2)))])
 (.keep [1, 5]))
 (.cond (.t 5) (.seq (.seq (.ops none [oD 2 (.mov (.k (.int .i64 0)))])
 (.keep [2]))
 .ret)
 .skip))
 (.seq (.seq (.ops none [oD 6 (.fieldAddr 2 (.t 1)),
 oD 7 (.load1 (.t 6)),
 oD 2 (.mov (.t 7))])
 (.keep [2]))
 .ret)))
  results := [.tmp 2]
theorem ok243 : FnOK Tryz.prog pureL 243 a243 := ⟨Tryz.f243, [(0, [1]), (1, [1, 5]), (2, [2]), (3, [2])], [], Tryz.func243, by kernel_rfl⟩
/-- stylus/lines.shrinks -/
def a244 : AFunc where
  body :=
  (.seq (.seq (.ops none [oD 1 (.box (.t 0)),
 oD 2 (.mov (.k (.int .i64 0)))])
 (.keep [1]))
 (.seq (.seq (.seq (.ops none [oD 3 (.fieldAddr 0 (.t 1)),
 oD 4 (.load1 (.t 3)),
 oD 5 (.eq true (.leaf .int) (.t 4) (.k (.int .i64 2)))])
 (.keep [1, 5]))
 (.cond (.t 5) (.seq (.seq (.ops none [oD 2 (.mov (.k (.int .i64 0)))])
 (.keep [2]))
 .ret)
 .skip))
 (.seq (.seq (.ops none [oD 6 (.fieldAddr 3 (.t 1)),
 oD 7 (.load1 (.t 6)),
 oD 2 (.mov (.t 7))])
 (.keep [2]))
 .ret)))
  results := [.tmp 2]
theorem ok244 : FnOK Tryz.prog pureL 244 a244 := ⟨Tryz.f244, [(0, [1]), (1, [1, 5]), (2, [2]), (3, [2])], [], Tryz.func244, by kernel_rfl⟩
/-- stylus/lines.set$1 -/
def a245 : AFunc where
  body :=
  (.seq (.seq (.ops none [oD 5 (.box (.t 0)),
 oD 6 (.mov (.k (.int .i64 0)))])
 (.keep [1, 2, 3, 4, 5]))
 (.seq (.seq (.seq (.ops none [oD 8 (.load1 (.t 1)),
 oD 9 (.eq false (.leaf .int) (.t 8) (.k (.int .i64 0)))])
 (.keep [1, 2, 3, 4, 5, 9]))
 (.cond (.t 9) (.seq (.seq (.ops none [oD 6 (.mov (.k (.int .i64 0)))])
 (.keep [6]))
 .ret)
 .skip))
 (.seq (.seq (.ops none [oD 10 (.load1 (.t 2)),
 oD 11 (.load1 (.t 3)),
 oD 12 (.bin .mul (.t 10) (.t 11)),
 oD 13 (.load1 (.t 1)),
 oD 14 (.bin .quo (.t 12) (.t 13)),
 oD 7 (.mov (.t 14))])
 (.keep [1, 2, 3, 4, 5, 7]))
 (.seq (.ops (some [1, 2, 3, 7]) [oD 15 (.load1 (.t 3)),
 oD 16 (.load1 (.t 4)),
 oD 17 (.loadN 5 (.t 5)),
 ⟨(some 18), none, .callv (.t 16) [(.t 17)], [⟨15, none, .load1 (.t 3)⟩]⟩,
 oD 19 (.bin .add (.t 15) (.t 18)),
 oN (.store 1 (.t 3) (.t 19))])
 (.seq (.seq (.ops none [oD 20 (.load1 (.t 2)),
 oD 21 (.load1 (.t 3)),
 oD 22 (.bin .mul (.t 20) (.t 21)),
 oD 23 (.load1 (.t 1)),
 oD 24 (.bin .quo (.t 22) (.t 23)),
 oD 25 (.mov (.t 7)),
 oD 26 (.bin .sub (.t 24) (.t 25)),
 oD 6 (.mov (.t 26))])
 (.keep [6]))
 .ret)))))
  results := [.tmp 6]
theorem ok245 : FnOK Tryz.prog pureL 245 a245 := ⟨Tryz.f245, [(0, [1, 2, 3, 4, 5]), (1, [1, 2, 3, 4, 5, 9]), (2, [6]), (3, [1, 2, 3, 4, 5, 7]), (4, [1, 2, 3, 7]), (5, [6])], [], Tryz.func245, by kernel_rfl⟩
/-- (*stylus/lines.setter).show -/
def a246 : AFunc where
  body :=
  (.seq (.seq (.ops none [oD 4 (.box (.t 1))])
 (.keep [0, 2, 4]))
 (.seq (.seq (.ops none [oD 9 (.build [(.int .i64 0), (.int .i64 0), (.int .i64 0), (.int .i64 0), (.int .i64 0)] [(3, 1, (.k (.int .i64 1))), (4, 1, (.k (.int .i64 2)))]),
 oD 10 (.fieldAddr 0 (.t 4)),
 oD 11 (.load1 (.t 10)),
 oD 12 (.index 5 1 false (.t 9) (.t 11)),
 oD 6 (.mov (.t 12))])
 (.keep [0, 2, 4, 6]))
 (.seq (.ops (some [0, 2, 4, 6, 7]) [oD 14 (.mov (.t 0)),
 oD 15 (.nilCheck (.t 14)),
 oD 16 (.fieldAddr 3 (.t 15)),
 oD 17 (.load1 (.t 16)),
 oD 18 (.loadN 5 (.t 4)),
 oD 19 (.call 223 [(.t 17), (.t 18)]),
 oD 13 (.mov (.t 19)),
 oD 20 (.extract 0 (.t 13)),
 oD 21 (.extract 1 (.t 13)),
 oD 7 (.mov (.t 20)),
 oD 8 (.mov (.t 21))])
 (.seq (.ops (some [0, 2]) [oD 22 (.mov (.t 0)),
 oD 23 (.mov (.t 0)),
 oD 24 (.nilCheck (.t 23)),
 oD 25 (.fieldAddr 0 (.t 24)),
 oD 26 (.fieldAddr 0 (.t 25)),
 oD 27 (.load1 (.t 26)),
 oD 28 (.mov (.t 0)),
 oD 29 (.nilCheck (.t 28)),
 oD 30 (.fieldAddr 0 (.t 29)),
 oD 31 (.fieldAddr 1 (.t 30)),
 oD 32 (.load1 (.t 31)),
 oD 33 (.mov (.t 7)),
 oD 34 (.mov (.t 6)),
 oD 35 (.fieldAddr 4 (.t 4)),
 oD 36 (.load1 (.t 35)),
 oD 37 (.build [(.int .i64 0), (.int .u8 0), (.int .i64 0), (.int .i64 0)] [(0, 1, (.t 32)), (1, 1, (.t 33)), (2, 1, (.t 34)), (3, 1, (.t 36))]),
 oD 38 (.buildSlice [(.int .i64 0), (.int .u8 0), (.int .i64 0), (.int .i64 0)] 4 1 [(0, 4, (.t 37))]),
 oD 39 (.append 4 (.t 27) (.t 38)),
 oD 40 (.nilCheck (.t 22)),
 oD 41 (.fieldAddr 0 (.t 40)),
 oD 42 (.fieldAddr 0 (.t 41)),
 oN (.store 1 (.t 42) (.t 39))])
 (.seq (.ops none [oD 43 (.mov (.t 0)),
 oD 44 (.nilCheck (.t 43)),
 oD 45 (.fieldAddr 0 (.t 44)),
 oD 46 (.fieldAddr 1 (.t 45)),
 oD 47 (.load1 (.t 46)),
 oD 48 (.mov (.t 2)),
 oD 49 (.bin .add (.t 47) (.t 48)),
 oD 50 (.nilCheck (.t 43)),
 oD 51 (.fieldAddr 0 (.t 50)),
 oD 52 (.fieldAddr 1 (.t 51)),
 oN (.store 1 (.t 52) (.t 49))])
 (.keep []))))))
  results := []
theorem ok246 : FnOK Tryz.prog pureL 246 a246 := ⟨Tryz.f246, [(0, [0, 2, 4]), (1, [0, 2, 4, 6]), (2, [0, 2, 4, 6, 7]), (3, [0, 2]), (4, [])], [], Tryz.func246, by kernel_rfl⟩
/-- stylus/lines.bit -/
def a247 : AFunc where
  body :=
  (.seq (.seq (.ops none [oD 4 (.mov (.k (.int .i64 0)))])
 (.keep [0, 1]))
 (.seq (.seq (.seq (.ops none [oD 5 (.mov (.t 0))])
 (.keep [1, 5]))
 (.cond (.t 5) (.seq (.seq (.ops none [oD 6 (.mov (.t 1)),
 oD 7 (.bin .shl (.k (.int .i64 1)) (.t 6)),
 oD 4 (.mov (.t 7))])
 (.keep [4]))
 .ret)
 .skip))
 (.seq (.seq (.ops none [oD 4 (.mov (.k (.int .i64 0)))])
 (.keep [4]))
 .ret)))
  results := [.tmp 4]
theorem ok247 : FnOK Tryz.prog pureL 247 a247 := ⟨Tryz.f247, [(0, [0, 1]), (1, [1, 5]), (2, [4]), (3, [4])], [], Tryz.func247, by kernel_rfl⟩
/-- stylus/hyph.Figures -/
def a248 : AFunc where
  body :=
  (.seq (.seq (.ops none [oD 4 (.mov (.k (.str [])))])
 (.keep [0, 1]))
 (.seq (.seq (.seq (.ops none [oD 6 (.mov (.t 1)),
 oD 7 (.call 252 [(.t 6)]),
 oD 8 (.un .not (.t 7))])
 (.keep [0, 1, 8]))
 (.cond (.t 8) (.seq (.seq (.ops none [oD 4 (.mov (.k (.str [])))])
 (.keep [4]))
 .ret)
 .skip))
 (.seq (.seq (.ops none [oD 9 (.mov (.t 1)),
 oD 10 (.len .str (.t 9)),
 oD 11 (.bin .add (.t 10) (.k (.int .i64 3))),
 oD 12 (.call 253 [(.k (.str [48])), (.t 11)]),
 oD 13 (.strBytes (.t 12)),
 oD 5 (.alloc [.nilslice]),
 oN (.store 1 (.t 5) (.t 13))])
 (.keep [0, 1, 5]))
 (.seq (.seq (.ops none [oD 14 (.mov (.t 0)),
 oD 15 (.mov (.t 1)),
 oD 16 (.call 255 [(.t 15)]),
 oD 17 (.bin .add (.k (.str [46])) (.t 16)),
 oD 18 (.bin .add (.t 17) (.k (.str [46]))),
 oD 19 (.makeFunc 256 [] [(.t 5)]),
 oD 20 (.call 254 [(.t 14), (.t 18), (.t 19)])])
 (.keep [1, 5]))
 (.seq (.seq (.ops none [oD 21 (.load1 (.t 5)),
 oD 22 (.mov (.t 1)),
 oD 23 (.len .str (.t 22)),
 oD 24 (.bin .add (.t 23) (.k (.int .i64 1))),
 oD 25 (.sliceSl 1 (.t 21) (some (.k (.int .i64 2))) (some (.t 24))),
 oD 26 (.bytesStr (.t 25)),
 oD 4 (.mov (.t 26))])
 (.keep [4]))
 .ret)))))
  results := [.tmp 4]
theorem ok248 : FnOK Tryz.prog pureL 248 a248 := ⟨Tryz.f248, [(0, [0, 1]), (1, [0, 1, 8]), (2, [4]), (3, [0, 1, 5]), (4, [1, 5]), (5, [4])], [], Tryz.func248, by kernel_rfl⟩
/-- cmp.Less[int] -/
def a249 : AFunc where
  body :=
  (.seq (.seq (.ops none [oD 4 (.mov (.k (.bool false)))])
 (.keep [0, 1]))
 (.seq (.seq (.ops none [oD 5 (.mov (.t 0)),
 oD 6 (.call 257 [(.t 5)]),
 oD 7 (.mov (.t 6)),
 oG 8 7 true (.mov (.t 1)),
 oG 9 7 true (.call 257 [(.t 8)]),
 oG 10 7 true (.un .not (.t 9)),
 oD 11 (.pick (.t 7) (.t 10) (.k (.bool false))),
 oD 12 (.mov (.t 11)),
 oG 13 12 false (.mov (.t 0)),
 oG 14 12 false (.mov (.t 1)),
 oG 15 12 false (.bin .lss (.t 13) (.t 14)),
 oD 16 (.pick (.t 12) (.k (.bool true)) (.t 15)),
 oD 4 (.mov (.t 16))])
 (.keep [4]))
 .ret))
  results := [.tmp 4]
theorem ok249 : FnOK Tryz.prog pureL 249 a249 := ⟨Tryz.f249, [(0, [0, 1]), (1, [4])], [], Tryz.func249, by kernel_rfl⟩
/-- slices.isNaN[int] -/
def a250 : AFunc where
  body :=
  (.seq (.seq (.ops none [oD 2 (.mov (.k (.bool false)))])
 (.keep [0]))
 (.seq (.seq (.ops none [oD 3 (.mov (.t 0)),
 oD 4 (.mov (.t 0)),
 oD 5 (.eq true (.leaf .int) (.t 3) (.t 4)),
 oD 2 (.mov (.t 5))])
 (.keep [2]))
 .ret))
  results := [.tmp 2]
theorem ok250 : FnOK Tryz.prog pureL 250 a250 := ⟨Tryz.f250, [(0, [0]), (1, [2])], [], Tryz.func250, by kernel_rfl⟩
/-- (stylus/best.sums).less -/
def a251 : AFunc where
  body :=
  (.seq (.seq (.ops none [oD 2 (.box (.t 0)),
 oD 3 (.box (.t 1)),
 oD 4 (.alloc [(.int .i64 0), (.int .i64 0), (.int .i64 0)])])
 (.keep [2, 3, 4]))
 (.seq (.seq (.ops none [oD 5 (.fieldAddr 0 (.t 2)),
 oD 6 (.load1 (.t 5)),
 oD 7 (.fieldAddr 0 (.t 3)),
 oD 8 (.load1 (.t 7)),
 oD 9 (.bin .sub (.t 6) (.t 8)),
 oD 10 (.fieldAddr 1 (.t 2)),
 oD 11 (.load1 (.t 10)),
 oD 12 (.fieldAddr 1 (.t 3)),
 oD 13 (.load1 (.t 12)),
 oD 14 (.bin .sub (.t 11) (.t 13)),
 oD 15 (.fieldAddr 2 (.t 2)),
 oD 16 (.load1 (.t 15)),
 oD 17 (.fieldAddr 2 (.t 3)),
 oD 18 (.load1 (.t 17)),
 oD 19 (.bin .sub (.t 16) (.t 18)),
 oD 20 (.build [(.int .i64 0), (.int .i64 0), (.int .i64 0)] [(0, 1, (.t 9)), (1, 1, (.t 14)), (2, 1, (.t 19))]),
 oN (.store 3 (.t 4) (.t 20))])
 (.keep [4]))
 .ret))
  results := [.cellN 4 3]
theorem ok251 : FnOK Tryz.prog pureL 251 a251 := ⟨Tryz.f251, [(0, [2, 3, 4]), (1, [4])], [], Tryz.func251, by kernel_rfl⟩
/-- stylus/hyph.word -/
def a252 : AFunc where
  body :=
  (.seq (.seq (.ops none [oD 2 (.mov (.k (.bool false)))])
 (.keep [0]))
 (.seq (.seq (.seq (.ops none [oD 4 (.mov (.t 0)),
 oD 5 (.len .str (.t 4)),
 oD 6 (.mov (.k (.int .i64 0)))])
 (.keep [0, 5, 6]))
 (.block 0 (.loop (.seq (.keep [0, 5, 6])
 (.seq (.seq (.ops none [oD 7 (.bin .lss (.t 6) (.t 5))])
 (.keep [0, 5, 6, 7]))
 (.seq (.cond (.t 7) .skip
 (.exit 0))
 (.seq (.block 1 (.seq (.seq (.ops none [oD 8 (.mov (.t 6)),
 oD 3 (.mov (.t 8))])
 (.keep [0, 3, 5, 6]))
 (.seq (.seq (.ops none [oD 9 (.mov (.t 0)),
 oD 10 (.mov (.t 3)),
 oD 11 (.indexStr (.t 9) (.t 10)),
 oD 12 (.call 229 [(.t 11)]),
 oD 13 (.un .not (.t 12))])
 (.keep [0, 5, 6, 13]))
 (.cond (.t 13) (.seq (.seq (.ops none [oD 2 (.mov (.k (.bool false)))])
 (.keep [2]))
 .ret)
 .skip))))
 (.seq (.ops none [oD 14 (.bin .add (.t 6) (.k (.int .i64 1))),
 oD 6 (.mov (.t 14))])
 (.keep [0, 5, 6])))))))))
 (.seq (.seq (.ops none [oD 15 (.mov (.t 0)),
 oD 16 (.eq true (.leaf .str) (.t 15) (.k (.str []))),
 oD 2 (.mov (.t 16))])
 (.keep [2]))
 .ret)))
  results := [.tmp 2]
theorem ok252 : FnOK Tryz.prog pureL 252 a252 := ⟨Tryz.f252, [(0, [0]), (1, [0, 5, 6]), (2, [0, 5, 6, 7]), (3, [0, 3, 5, 6]), (4, [0, 5, 6, 13]), (5, [2]), (6, [0, 5, 6]), (7, [2])], [(0, [0, 5, 6])], Tryz.func252, by kernel_rfl⟩
/-- strings.Repeat -/
def a253 : AFunc where
  body :=
  (.seq (.seq (.ops none [oD 4 (.mov (.k (.str [])))])
 (.keep [0, 1, 10]))
 (.seq (.seq (.seq (.ops none [oD 11 (.mov (.t 1))])
 (.keep [0, 1, 10, 11]))
 (.block 0 (.seq (.seq (.ops none [oD 13 (.eq false (.leaf .int) (.t 11) (.k (.int .i64 0))),
 oD 12 (.mov (.t 13))])
 (.keep [0, 1, 10, 11, 12]))
 (.cond (.t 12) (.seq (.seq (.ops none [oD 4 (.mov (.k (.str [])))])
 (.keep [4]))
 .ret)
 (.seq (.seq (.ops none [oD 15 (.eq false (.leaf .int) (.t 11) (.k (.int .i64 1))),
 oD 14 (.mov (.t 15))])
 (.keep [0, 1, 10, 14]))
 (.cond (.t 14) (.seq (.seq (.ops none [oD 16 (.mov (.t 0)),
 oD 4 (.mov (.t 16))])
 (.keep [4]))
 .ret)
 .skip))))))
 (.seq (.seq (.seq (.ops none [oD 17 (.mov (.t 1)),
 oD 18 (.bin .lss (.t 17) (.k (.int .i64 0)))])
 (.keep [0, 1, 10, 18]))
 (.cond (.t 18) (.ops none [oN (.nilCheck (.k .nilptr))])
 .skip))
 (.seq (.seq (.ops none [oD 21 (.mov (.t 0)),
 oD 22 (.len .str (.t 21)),
 oD 23 (.convInt .u64 (.t 22)),
 oD 24 (.mov (.t 1)),
 oD 25 (.convInt .u64 (.t 24)),
 oD 26 (.call 258 [(.t 23), (.t 25)]),
 oD 20 (.mov (.t 26)),
 oD 27 (.extract 0 (.t 20)),
 oD 28 (.extract 1 (.t 20)),
 oD 5 (.mov (.t 27)),
 oD 6 (.mov (.t 28))])
 (.keep [0, 5, 6, 10]))
 (.seq (.seq (.seq (.ops none [oD 29 (.mov (.t 5)),
 oD 30 (.bin .gtr (.t 29) (.k (.int .u64 0))),
 oD 31 (.mov (.t 30)),
 oG 32 31 false (.mov (.t 6)),
 oG 33 31 false (.bin .gtr (.t 32) (.k (.int .u64 9223372036854775807))),
 oD 34 (.pick (.t 31) (.k (.bool true)) (.t 33))])
 (.keep [0, 6, 10, 34]))
 (.cond (.t 34) (.ops none [oN (.nilCheck (.k .nilptr))])
 .skip))
 (.seq (.seq (.ops none [oD 36 (.mov (.t 6)),
 oD 37 (.convInt .i64 (.t 36)),
 oD 7 (.mov (.t 37))])
 (.keep [0, 7, 10]))
 (.seq (.seq (.seq (.ops none [oD 38 (.mov (.t 0)),
 oD 39 (.len .str (.t 38)),
 oD 40 (.eq false (.leaf .int) (.t 39) (.k (.int .i64 0)))])
 (.keep [0, 7, 10, 40]))
 (.cond (.t 40) (.seq (.seq (.ops none [oD 4 (.mov (.k (.str [])))])
 (.keep [4]))
 .ret)
 .skip))
 (.seq (.seq (.seq (.ops none [oD 41 (.mov (.t 0)),
 oD 42 (.indexStr (.t 41) (.k (.int .i64 0)))])
 (.keep [0, 7, 10, 42]))
 (.block 1 (.seq (.seq (.seq (.ops none [oD 44 (.eq false (.leaf .int) (.t 42) (.k (.int .u8 32))),
 oD 43 (.mov (.t 44))])
 (.keep [0, 7, 10, 42, 43]))
 (.cond (.t 43) .skip
 (.seq (.seq (.ops none [oD 45 (.eq false (.leaf .int) (.t 42) (.k (.int .u8 45))),
 oD 43 (.mov (.t 45))])
 (.keep [0, 7, 10, 42, 43]))
 (.cond (.t 43) .skip
 (.seq (.seq (.ops none [oD 46 (.eq false (.leaf .int) (.t 42) (.k (.int .u8 48))),
 oD 43 (.mov (.t 46))])
 (.keep [0, 7, 10, 42, 43]))
 (.cond (.t 43) .skip
 (.seq (.seq (.ops none [oD 47 (.eq false (.leaf .int) (.t 42) (.k (.int .u8 61))),
 oD 43 (.mov (.t 47))])
 (.keep [0, 7, 10, 42, 43]))
 (.cond (.t 43) .skip
 (.seq (.ops none [oD 48 (.eq false (.leaf .int) (.t 42) (.k (.int .u8 9))),
 oD 43 (.mov (.t 48))])
 (.keep [0, 7, 10, 43]))))))))))
 (.cond (.t 43) (.block 2 (.seq (.seq (.ops none [oD 50 (.mov (.t 7)),
 oD 51 (.bin .leq (.t 50) (.k (.int .i64 128))),
 oD 52 (.mov (.t 51)),
 oG 53 52 true (.mov (.t 0)),
 oG 54 52 true (.call 259 [(.k (.str [32, 32, 32, 32, 32, 32, 32, 32, 32, 32, 32, 32, 32, 32, 32, 32, 32, 32, 32, 32, 32, 32, 32, 32, 32, 32, 32, 32, 32, 32, 32, 32, 32, 32, 32, 32, 32, 32, 32, 32, 32, 32, 32, 32, 32, 32, 32, 32, 32, 32, 32, 32, 32, 32, 32, 32, 32, 32, 32, 32, 32, 32, 32, 32, 32, 32, 32, 32, 32, 32, 32, 32, 32, 32, 32, 32, 32, 32, 32, 32, 32, 32, 32, 32, 32, 32, 32, 32, 32, 32, 32, 32, 32, 32, 32, 32, 32, 32, 32, 32, 32, 32, 32, 32, 32, 32, 32, 32, 32, 32, 32, 32, 32, 32, 32, 32, 32, 32, 32, 32, 32, 32, 32, 32, 32, 32, 32, 32])), (.t 53)]),
 oD 55 (.pick (.t 52) (.t 54) (.k (.bool false))),
 oD 49 (.mov (.t 55))])
 (.keep [0, 7, 10, 49]))
 (.cond (.t 49) (.seq (.seq (.ops none [oD 56 (.mov (.t 7)),
 oD 57 (.sliceStr (.k (.str [32, 32, 32, 32, 32, 32, 32, 32, 32, 32, 32, 32, 32, 32, 32, 32, 32, 32, 32, 32, 32, 32, 32, 32, 32, 32, 32, 32, 32, 32, 32, 32, 32, 32, 32, 32, 32, 32, 32, 32, 32, 32, 32, 32, 32, 32, 32, 32, 32, 32, 32, 32, 32, 32, 32, 32, 32, 32, 32, 32, 32, 32, 32, 32, 32, 32, 32, 32, 32, 32, 32, 32, 32, 32, 32, 32, 32, 32, 32, 32, 32, 32, 32, 32, 32, 32, 32, 32, 32, 32, 32, 32, 32, 32, 32, 32, 32, 32, 32, 32, 32, 32, 32, 32, 32, 32, 32, 32, 32, 32, 32, 32, 32, 32, 32, 32, 32, 32, 32, 32, 32, 32, 32, 32, 32, 32, 32, 32])) none (some (.t 56))),
 oD 4 (.mov (.t 57))])
 (.keep [4]))
 .ret)
 (.seq (.seq (.ops none [oD 59 (.mov (.t 7)),
 oD 60 (.bin .leq (.t 59) (.k (.int .i64 128))),
 oD 61 (.mov (.t 60)),
 oG 62 61 true (.mov (.t 0)),
 oG 63 61 true (.call 259 [(.k (.str [45, 45, 45, 45, 45, 45, 45, 45, 45, 45, 45, 45, 45, 45, 45, 45, 45, 45, 45, 45, 45, 45, 45, 45, 45, 45, 45, 45, 45, 45, 45, 45, 45, 45, 45, 45, 45, 45, 45, 45, 45, 45, 45, 45, 45, 45, 45, 45, 45, 45, 45, 45, 45, 45, 45, 45, 45, 45, 45, 45, 45, 45, 45, 45, 45, 45, 45, 45, 45, 45, 45, 45, 45, 45, 45, 45, 45, 45, 45, 45, 45, 45, 45, 45, 45, 45, 45, 45, 45, 45, 45, 45, 45, 45, 45, 45, 45, 45, 45, 45, 45, 45, 45, 45, 45, 45, 45, 45, 45, 45, 45, 45, 45, 45, 45, 45, 45, 45, 45, 45, 45, 45, 45, 45, 45, 45, 45, 45])), (.t 62)]),
 oD 64 (.pick (.t 61) (.t 63) (.k (.bool false))),
 oD 58 (.mov (.t 64))])
 (.keep [0, 7, 10, 58]))
 (.cond (.t 58) (.seq (.seq (.ops none [oD 65 (.mov (.t 7)),
 oD 66 (.sliceStr (.k (.str [45, 45, 45, 45, 45, 45, 45, 45, 45, 45, 45, 45, 45, 45, 45, 45, 45, 45, 45, 45, 45, 45, 45, 45, 45, 45, 45, 45, 45, 45, 45, 45, 45, 45, 45, 45, 45, 45, 45, 45, 45, 45, 45, 45, 45, 45, 45, 45, 45, 45, 45, 45, 45, 45, 45, 45, 45, 45, 45, 45, 45, 45, 45, 45, 45, 45, 45, 45, 45, 45, 45, 45, 45, 45, 45, 45, 45, 45, 45, 45, 45, 45, 45, 45, 45, 45, 45, 45, 45, 45, 45, 45, 45, 45, 45, 45, 45, 45, 45, 45, 45, 45, 45, 45, 45, 45, 45, 45, 45, 45, 45, 45, 45, 45, 45, 45, 45, 45, 45, 45, 45, 45, 45, 45, 45, 45, 45, 45])) none (some (.t 65))),
 oD 4 (.mov (.t 66))])
 (.keep [4]))
 .ret)
 (.seq (.seq (.ops none [oD 68 (.mov (.t 7)),
 oD 69 (.bin .leq (.t 68) (.k (.int .i64 64))),
 oD 70 (.mov (.t 69)),
 oG 71 70 true (.mov (.t 0)),
 oG 72 70 true (.call 259 [(.k (.str [48, 48, 48, 48, 48, 48, 48, 48, 48, 48, 48, 48, 48, 48, 48, 48, 48, 48, 48, 48, 48, 48, 48, 48, 48, 48, 48, 48, 48, 48, 48, 48, 48, 48, 48, 48, 48, 48, 48, 48, 48, 48, 48, 48, 48, 48, 48, 48, 48, 48, 48, 48, 48, 48, 48, 48, 48, 48, 48, 48, 48, 48, 48, 48])), (.t 71)]),
 oD 73 (.pick (.t 70) (.t 72) (.k (.bool false))),
 oD 67 (.mov (.t 73))])
 (.keep [0, 7, 10, 67]))
 (.cond (.t 67) (.seq (.seq (.ops none [oD 74 (.mov (.t 7)),
 oD 75 (.sliceStr (.k (.str [48, 48, 48, 48, 48, 48, 48, 48, 48, 48, 48, 48, 48, 48, 48, 48, 48, 48, 48, 48, 48, 48, 48, 48, 48, 48, 48, 48, 48, 48, 48, 48, 48, 48, 48, 48, 48, 48, 48, 48, 48, 48, 48, 48, 48, 48, 48, 48, 48, 48, 48, 48, 48, 48, 48, 48, 48, 48, 48, 48, 48, 48, 48, 48])) none (some (.t 74))),
 oD 4 (.mov (.t 75))])
 (.keep [4]))
 .ret)
 (.seq (.seq (.ops none [oD 77 (.mov (.t 7)),
 oD 78 (.bin .leq (.t 77) (.k (.int .i64 128))),
 oD 79 (.mov (.t 78)),
 oG 80 79 true (.mov (.t 0)),
 oG 81 79 true (.call 259 [(.k (.str [61, 61, 61, 61, 61, 61, 61, 61, 61, 61, 61, 61, 61, 61, 61, 61, 61, 61, 61, 61, 61, 61, 61, 61, 61, 61, 61, 61, 61, 61, 61, 61, 61, 61, 61, 61, 61, 61, 61, 61, 61, 61, 61, 61, 61, 61, 61, 61, 61, 61, 61, 61, 61, 61, 61, 61, 61, 61, 61, 61, 61, 61, 61, 61, 61, 61, 61, 61, 61, 61, 61, 61, 61, 61, 61, 61, 61, 61, 61, 61, 61, 61, 61, 61, 61, 61, 61, 61, 61, 61, 61, 61, 61, 61, 61, 61, 61, 61, 61, 61, 61, 61, 61, 61, 61, 61, 61, 61, 61, 61, 61, 61, 61, 61, 61, 61, 61, 61, 61, 61, 61, 61, 61, 61, 61, 61, 61, 61])), (.t 80)]),
 oD 82 (.pick (.t 79) (.t 81) (.k (.bool false))),
 oD 76 (.mov (.t 82))])
 (.keep [0, 7, 10, 76]))
 (.cond (.t 76) (.seq (.seq (.ops none [oD 83 (.mov (.t 7)),
 oD 84 (.sliceStr (.k (.str [61, 61, 61, 61, 61, 61, 61, 61, 61, 61, 61, 61, 61, 61, 61, 61, 61, 61, 61, 61, 61, 61, 61, 61, 61, 61, 61, 61, 61, 61, 61, 61, 61, 61, 61, 61, 61, 61, 61, 61, 61, 61, 61, 61, 61, 61, 61, 61, 61, 61, 61, 61, 61, 61, 61, 61, 61, 61, 61, 61, 61, 61, 61, 61, 61, 61, 61, 61, 61, 61, 61, 61, 61, 61, 61, 61, 61, 61, 61, 61, 61, 61, 61, 61, 61, 61, 61, 61, 61, 61, 61, 61, 61, 61, 61, 61, 61, 61, 61, 61, 61, 61, 61, 61, 61, 61, 61, 61, 61, 61, 61, 61, 61, 61, 61, 61, 61, 61, 61, 61, 61, 61, 61, 61, 61, 61, 61, 61])) none (some (.t 83))),
 oD 4 (.mov (.t 84))])
 (.keep [4]))
 .ret)
 (.seq (.seq (.ops none [oD 86 (.mov (.t 7)),
 oD 87 (.bin .leq (.t 86) (.k (.int .i64 64))),
 oD 88 (.mov (.t 87)),
 oG 89 88 true (.mov (.t 0)),
 oG 90 88 true (.call 259 [(.k (.str [9, 9, 9, 9, 9, 9, 9, 9, 9, 9, 9, 9, 9, 9, 9, 9, 9, 9, 9, 9, 9, 9, 9, 9, 9, 9, 9, 9, 9, 9, 9, 9, 9, 9, 9, 9, 9, 9, 9, 9, 9, 9, 9, 9, 9, 9, 9, 9, 9, 9, 9, 9, 9, 9, 9, 9, 9, 9, 9, 9, 9, 9, 9, 9])), (.t 89)]),
 oD 91 (.pick (.t 88) (.t 90) (.k (.bool false))),
 oD 85 (.mov (.t 91))])
 (.keep [0, 7, 10, 85]))
 (.cond (.t 85) (.seq (.seq (.ops none [oD 92 (.mov (.t 7)),
 oD 93 (.sliceStr (.k (.str [9, 9, 9, 9, 9, 9, 9, 9, 9, 9, 9, 9, 9, 9, 9, 9, 9, 9, 9, 9, 9, 9, 9, 9, 9, 9, 9, 9, 9, 9, 9, 9, 9, 9, 9, 9, 9, 9, 9, 9, 9, 9, 9, 9, 9, 9, 9, 9, 9, 9, 9, 9, 9, 9, 9, 9, 9, 9, 9, 9, 9, 9, 9, 9])) none (some (.t 92))),
 oD 4 (.mov (.t 93))])
 (.keep [4]))
 .ret)
 .skip)))))))))))
 .skip))))
 (.seq (.seq (.ops none [oD 94 (.mov (.t 7)),
 oD 8 (.mov (.t 94))])
 (.keep [0, 7, 10]))
 (.seq (.seq (.seq (.ops none [oD 95 (.mov (.t 7)),
 oD 96 (.bin .gtr (.t 95) (.k (.int .i64 8192)))])
 (.keep [0, 7, 10, 96]))
 (.cond (.t 96) (.seq (.seq (.ops none [oD 97 (.mov (.t 0)),
 oD 98 (.len .str (.t 97)),
 oD 99 (.bin .quo (.k (.int .i64 8192)) (.t 98)),
 oD 100 (.mov (.t 0)),
 oD 101 (.len .str (.t 100)),
 oD 102 (.bin .mul (.t 99) (.t 101)),
 oD 8 (.mov (.t 102))])
 (.keep [0, 7, 8, 10]))
 (.seq (.seq (.ops none [oD 103 (.mov (.t 8)),
 oD 104 (.eq false (.leaf .int) (.t 103) (.k (.int .i64 0)))])
 (.keep [0, 7, 10, 104]))
 (.cond (.t 104) (.seq (.ops none [oD 105 (.mov (.t 0)),
 oD 106 (.len .str (.t 105)),
 oD 8 (.mov (.t 106))])
 (.keep [0, 7, 10]))
 .skip)))
 .skip))
 (.seq (.seq (.ops none [oD 9 (.alloc [.nilptr, .nilslice])])
 (.keep [0, 7, 9, 10]))
 (.seq (.seq (.ops none [oD 107 (.mov (.t 7)),
 oD 108 (.call 260 [(.t 9), (.t 107)])])
 (.keep [0, 7, 9, 10]))
 (.seq (.seq (.ops none [oD 109 (.mov (.t 0)),
 oD 110 (.call 261 [(.t 9), (.t 109)])])
 (.keep [7, 9, 10]))
 (.seq (.block 3 (.loop (.seq (.keep [7, 9, 10])
 (.seq (.seq (.seq (.ops none [oD 111 (.call 262 [(.t 9)]),
 oD 112 (.mov (.t 7)),
 oD 113 (.bin .lss (.t 111) (.t 112))])
 (.keep [7, 9, 10, 113]))
 (.cond (.t 113) .skip
 (.exit 3)))
 (.block 4 (.seq (.ops none [oN (.nilCheck (.k .nilptr))])
 (.seq (.ops none [oD 120 (.call 263 [(.t 9)]),
 oD 121 (.mov (.t 10)),
 oD 122 (.sliceStr (.t 120) none (some (.t 121))),
 oD 123 (.call 261 [(.t 9), (.t 122)])])
 (.keep [7, 9, 10]))))))))
 (.seq (.seq (.ops none [oD 124 (.call 263 [(.t 9)]),
 oD 4 (.mov (.t 124))])
 (.keep [4]))
 .ret)))))))))))))))
  results := [.tmp 4]
theorem ok253 : FnOK Tryz.prog pureL 253 a253 := ⟨Tryz.f253, [(0, [0, 1, 10]), (1, [0, 1, 10, 11]), (2, [0, 1, 10, 11, 12]), (4, [0, 1, 10, 14]), (5, [4]), (3, [4]), (6, [0, 1, 10, 18]), (8, [0, 5, 6, 10]), (9, [0, 6, 10, 34]), (11, [0, 7, 10]), (12, [0, 7, 10, 40]), (13, [4]), (14, [0, 7, 10, 42]), (15, [0, 7, 10, 42, 43]), (16, [0, 7, 10, 42, 43]), (17, [0, 7, 10, 42, 43]), (18, [0, 7, 10, 42, 43]), (19, [0, 7, 10, 43]), (20, [0, 7, 10, 49]), (22, [0, 7, 10, 58]), (24, [0, 7, 10, 67]), (26, [0, 7, 10, 76]), (28, [0, 7, 10, 85]), (29, [4]), (27, [4]), (25, [4]), (23, [4]), (21, [4]), (30, [0, 7, 10]), (31, [0, 7, 10, 96]), (32, [0, 7, 8, 10]), (33, [0, 7, 10, 104]), (34, [0, 7, 10]), (35, [0, 7, 9, 10]), (36, [0, 7, 9, 10]), (37, [7, 9, 10]), (38, [7, 9, 10, 113]), (40, [7, 9, 10]), (41, [4])], [(3, [7, 9, 10])], Tryz.func253, by kernel_rfl⟩
/-- stylus/hyph.matches -/
def a254 : AFunc where
  body :=
  (.seq (.seq (.ops none [oD 11 (.mov (.t 0)),
 oD 12 (.call 264 [(.t 11)]),
 oD 6 (.mov (.t 12))])
 (.keep [1, 2, 6]))
 (.seq (.seq (.ops none [oD 13 (.mov (.t 1)),
 oD 14 (.len .str (.t 13)),
 oD 15 (.mov (.k (.int .i64 0)))])
 (.keep [1, 2, 6, 14, 15]))
 (.block 0 (.loop (.seq (.keep [1, 2, 6, 14, 15])
 (.seq (.seq (.ops none [oD 16 (.bin .lss (.t 15) (.t 14))])
 (.keep [1, 2, 6, 14, 15, 16]))
 (.seq (.cond (.t 16) .skip
 (.exit 0))
 (.seq (.block 1 (.seq (.seq (.ops none [oD 17 (.mov (.t 15)),
 oD 7 (.mov (.t 17))])
 (.keep [1, 2, 6, 7, 14, 15]))
 (.seq (.seq (.ops none [oD 8 (.mov (.k (.int .i64 1)))])
 (.keep [1, 2, 6, 7, 8, 14, 15]))
 (.block 2 (.loop (.seq (.keep [1, 2, 6, 7, 8, 14, 15])
 (.seq (.seq (.seq (.ops none [oD 18 (.mov (.t 8)),
 oD 19 (.mov (.t 1)),
 oD 20 (.len .str (.t 19)),
 oD 21 (.mov (.t 7)),
 oD 22 (.bin .sub (.t 20) (.t 21)),
 oD 23 (.minmax false (.k (.int .i64 16)) (.t 22)),
 oD 24 (.bin .leq (.t 18) (.t 23))])
 (.keep [1, 2, 6, 7, 8, 14, 15, 24]))
 (.cond (.t 24) .skip
 (.exit 2)))
 (.seq (.block 3 (.seq (.seq (.ops none [oD 27 (.mov (.t 6)),
 oD 28 (.mov (.t 1)),
 oD 29 (.mov (.t 7)),
 oD 30 (.mov (.t 7)),
 oD 31 (.mov (.t 8)),
 oD 32 (.bin .add (.t 30) (.t 31)),
 oD 33 (.sliceStr (.t 28) (some (.t 29)) (some (.t 32))),
 oD 34 (.call 265 [(.t 33)]),
 oD 35 (.lookup (.agg [.int, .int, .int]) .nilslice false (.t 27) (.t 34)),
 oD 36 (.len .slice (.t 35)),
 oD 37 (.mov (.k (.int .i64 0)))])
 (.keep [1, 2, 6, 7, 8, 14, 15, 35, 36, 37]))
 (.block 4 (.loop (.seq (.keep [1, 2, 6, 7, 8, 14, 15, 35, 36, 37])
 (.seq (.seq (.ops none [oD 38 (.bin .lss (.t 37) (.t 36))])
 (.keep [1, 2, 6, 7, 8, 14, 15, 35, 36, 37, 38]))
 (.seq (.cond (.t 38) .skip
 (.exit 4))
 (.seq (.block 5 (.seq (.seq (.ops none [oD 39 (.idxSl 2 (.t 35) (.t 37)),
 oD 40 (.loadN 2 (.t 39)),
 oD 10 (.alloc [(.str []), (.str [])]),
 oN (.store 2 (.t 10) (.t 40))])
 (.keep [1, 2, 6, 7, 8, 10, 14, 15, 35, 36, 37]))
 (.seq (.ops (some [1, 2, 6, 7, 8, 10, 14, 15, 35, 36, 37, 49]) [oD 41 (.mov (.t 1)),
 oD 42 (.mov (.t 7)),
 oD 43 (.mov (.t 7)),
 oD 44 (.mov (.t 8)),
 oD 45 (.bin .add (.t 43) (.t 44)),
 oD 46 (.sliceStr (.t 41) (some (.t 42)) (some (.t 45))),
 oD 47 (.fieldAddr 0 (.t 10)),
 oD 48 (.load1 (.t 47)),
 oD 49 (.eq false (.leaf .str) (.t 46) (.t 48))])
 (.cond (.t 49) (.seq (.ops none [oD 50 (.mov (.t 2)),
 oD 51 (.mov (.t 7)),
 oD 52 (.loadN 2 (.t 10)),
 oD 53 (.callv (.t 50) [(.t 51), (.t 52)])])
 (.keep [1, 2, 6, 7, 8, 14, 15, 35, 36, 37]))
 .skip))))
 (.seq (.ops none [oD 54 (.bin .add (.t 37) (.k (.int .i64 1))),
 oD 37 (.mov (.t 54))])
 (.keep [1, 2, 6, 7, 8, 14, 15, 35, 36, 37]))))))))))
 (.seq (.ops none [oD 25 (.mov (.t 8)),
 oD 26 (.bin .add (.t 25) (.k (.int .i64 1))),
 oD 8 (.mov (.t 26))])
 (.keep [1, 2, 6, 7, 8, 14, 15]))))))))))
 (.seq (.ops none [oD 55 (.bin .add (.t 15) (.k (.int .i64 1))),
 oD 15 (.mov (.t 55))])
 (.keep [1, 2, 6, 14, 15]))))))))))
  results := []
theorem ok254 : FnOK Tryz.prog pureL 254 a254 := ⟨Tryz.f254, [(0, [1, 2, 6]), (1, [1, 2, 6, 14, 15]), (2, [1, 2, 6, 14, 15, 16]), (3, [1, 2, 6, 7, 14, 15]), (4, [1, 2, 6, 7, 8, 14, 15]), (5, [1, 2, 6, 7, 8, 14, 15, 24]), (7, [1, 2, 6, 7, 8, 14, 15, 35, 36, 37]), (8, [1, 2, 6, 7, 8, 14, 15, 35, 36, 37, 38]), (9, [1, 2, 6, 7, 8, 10, 14, 15, 35, 36, 37]), (10, [1, 2, 6, 7, 8, 10, 14, 15, 35, 36, 37, 49]), (11, [1, 2, 6, 7, 8, 14, 15, 35, 36, 37]), (12, [1, 2, 6, 7, 8, 14, 15, 35, 36, 37]), (6, [1, 2, 6, 7, 8, 14, 15]), (13, [1, 2, 6, 14, 15])], [(0, [1, 2, 6, 14, 15]), (2, [1, 2, 6, 7, 8, 14, 15]), (4, [1, 2, 6, 7, 8, 14, 15, 35, 36, 37])], Tryz.func254, by kernel_rfl⟩
/-- stylus/chars.Low -/
def a255 : AFunc where
  body :=
  (.seq (.seq (.ops none [oD 2 (.mov (.k (.str [])))])
 (.keep [0]))
 (.seq (.seq (.ops none [oD 6 (.mov (.t 0)),
 oD 7 (.strBytes (.t 6)),
 oD 3 (.mov (.t 7))])
 (.keep [3]))
 (.seq (.seq (.seq (.ops none [oD 8 (.mov (.t 3)),
 oD 9 (.len .slice (.t 8)),
 oD 10 (.mov (.k (.int .i64 0)))])
 (.keep [3, 8, 9, 10]))
 (.block 0 (.loop (.seq (.keep [3, 8, 9, 10])
 (.seq (.seq (.ops none [oD 11 (.bin .lss (.t 10) (.t 9))])
 (.keep [3, 8, 9, 10, 11]))
 (.seq (.cond (.t 11) .skip
 (.exit 0))
 (.seq (.block 1 (.seq (.seq (.ops none [oD 12 (.mov (.t 10)),
 oD 13 (.idxSl 1 (.t 8) (.t 10)),
 oD 14 (.load1 (.t 13)),
 oD 4 (.mov (.t 12)),
 oD 5 (.mov (.t 14))])
 (.keep [3, 4, 5, 8, 9, 10]))
 (.seq (.ops none [oD 15 (.mov (.t 3)),
 oD 16 (.mov (.t 4)),
 oD 17 (.mov (.t 5)),
 oD 18 (.call 266 [(.t 17)]),
 oD 19 (.idxSl 1 (.t 15) (.t 16)),
 oN (.store 1 (.t 19) (.t 18))])
 (.keep [3, 8, 9, 10]))))
 (.seq (.ops none [oD 20 (.bin .add (.t 10) (.k (.int .i64 1))),
 oD 10 (.mov (.t 20))])
 (.keep [3, 8, 9, 10])))))))))
 (.seq (.seq (.ops none [oD 21 (.mov (.t 3)),
 oD 22 (.bytesStr (.t 21)),
 oD 2 (.mov (.t 22))])
 (.keep [2]))
 .ret))))
  results := [.tmp 2]
theorem ok255 : FnOK Tryz.prog pureL 255 a255 := ⟨Tryz.f255, [(0, [0]), (1, [3]), (2, [3, 8, 9, 10]), (3, [3, 8, 9, 10, 11]), (4, [3, 4, 5, 8, 9, 10]), (5, [3, 8, 9, 10]), (6, [3, 8, 9, 10]), (7, [2])], [(0, [3, 8, 9, 10])], Tryz.func255, by kernel_rfl⟩
/-- stylus/hyph.Figures$1 -/
def a256 : AFunc where
  body :=
  (.seq (.seq (.ops none [oD 4 (.box (.t 1))])
 (.keep [0, 2, 4]))
 (.seq (.seq (.ops none [oD 6 (.fieldAddr 1 (.t 4)),
 oD 7 (.load1 (.t 6)),
 oD 8 (.len .str (.t 7)),
 oD 9 (.mov (.k (.int .i64 0)))])
 (.keep [0, 2, 4, 8, 9]))
 (.block 0 (.loop (.seq (.keep [0, 2, 4, 8, 9])
 (.seq (.seq (.ops none [oD 10 (.bin .lss (.t 9) (.t 8))])
 (.keep [0, 2, 4, 8, 9, 10]))
 (.seq (.cond (.t 10) .skip
 (.exit 0))
 (.seq (.block 1 (.seq (.seq (.ops none [oD 11 (.mov (.t 9)),
 oD 5 (.mov (.t 11))])
 (.keep [0, 2, 4, 5, 8, 9]))
 (.ops (some [0, 2, 4, 8, 9]) [oD 12 (.load1 (.t 2)),
 oD 13 (.mov (.t 0)),
 oD 14 (.mov (.t 5)),
 oD 15 (.bin .add (.t 13) (.t 14)),
 oD 16 (.load1 (.t 2)),
 oD 17 (.mov (.t 0)),
 oD 18 (.mov (.t 5)),
 oD 19 (.bin .add (.t 17) (.t 18)),
 oD 20 (.idxSl 1 (.t 16) (.t 19)),
 oD 21 (.load1 (.t 20)),
 oD 22 (.fieldAddr 1 (.t 4)),
 oD 23 (.load1 (.t 22)),
 oD 24 (.mov (.t 5)),
 oD 25 (.indexStr (.t 23) (.t 24)),
 oD 26 (.minmax true (.t 21) (.t 25)),
 oD 27 (.idxSl 1 (.t 12) (.t 15)),
 oN (.store 1 (.t 27) (.t 26))])))
 (.seq (.ops none [oD 28 (.bin .add (.t 9) (.k (.int .i64 1))),
 oD 9 (.mov (.t 28))])
 (.keep [0, 2, 4, 8, 9]))))))))))
  results := []
theorem ok256 : FnOK Tryz.prog pureL 256 a256 := ⟨Tryz.f256, [(0, [0, 2, 4]), (1, [0, 2, 4, 8, 9]), (2, [0, 2, 4, 8, 9, 10]), (3, [0, 2, 4, 5, 8, 9]), (4, [0, 2, 4, 8, 9]), (5, [0, 2, 4, 8, 9])], [(0, [0, 2, 4, 8, 9])], Tryz.func256, by kernel_rfl⟩
/-- cmp.isNaN[int] -/
def a257 : AFunc where
  body :=
  (.seq (.seq (.ops none [oD 2 (.mov (.k (.bool false)))])
 (.keep [0]))
 (.seq (.seq (.ops none [oD 3 (.mov (.t 0)),
 oD 4 (.mov (.t 0)),
 oD 5 (.eq true (.leaf .int) (.t 3) (.t 4)),
 oD 2 (.mov (.t 5))])
 (.keep [2]))
 .ret))
  results := [.tmp 2]
theorem ok257 : FnOK Tryz.prog pureL 257 a257 := ⟨Tryz.f257, [(0, [0]), (1, [2])], [], Tryz.func257, by kernel_rfl⟩
/-- math/bits.Mul -/
def a258 : AFunc where
  body :=
  (.seq (.seq (.ops none [oD 4 (.mov (.k (.int .u64 0))),
 oD 5 (.mov (.k (.int .u64 0)))])
 (.keep [0, 1]))
 (.seq (.cond (.k (.bool false)) (.seq (.seq (.ops none [oD 11 (.mov (.t 0)),
 oD 12 (.convInt .u32 (.t 11)),
 oD 13 (.mov (.t 1)),
 oD 14 (.convInt .u32 (.t 13)),
 oD 15 (.call 267 [(.t 12), (.t 14)]),
 oD 10 (.mov (.t 15)),
 oD 16 (.extract 0 (.t 10)),
 oD 17 (.extract 1 (.t 10)),
 oD 6 (.mov (.t 16)),
 oD 7 (.mov (.t 17))])
 (.keep [6, 7]))
 (.seq (.seq (.ops none [oD 18 (.mov (.t 6)),
 oD 19 (.convInt .u64 (.t 18)),
 oD 20 (.mov (.t 7)),
 oD 21 (.convInt .u64 (.t 20)),
 oD 4 (.mov (.t 19)),
 oD 5 (.mov (.t 21))])
 (.keep [4, 5]))
 .ret))
 .skip)
 (.seq (.seq (.ops none [oD 23 (.mov (.t 0)),
 oD 24 (.mov (.t 1)),
 oD 25 (.call 268 [(.t 23), (.t 24)]),
 oD 22 (.mov (.t 25)),
 oD 26 (.extract 0 (.t 22)),
 oD 27 (.extract 1 (.t 22)),
 oD 8 (.mov (.t 26)),
 oD 9 (.mov (.t 27))])
 (.keep [8, 9]))
 (.seq (.seq (.ops none [oD 28 (.mov (.t 8)),
 oD 29 (.mov (.t 9)),
 oD 4 (.mov (.t 28)),
 oD 5 (.mov (.t 29))])
 (.keep [4, 5]))
 .ret))))
  results := [.tmp 4, .tmp 5]
theorem ok258 : FnOK Tryz.prog pureL 258 a258 := ⟨Tryz.f258, [(0, [0, 1]), (1, [6, 7]), (2, [4, 5]), (3, [8, 9]), (4, [4, 5])], [], Tryz.func258, by kernel_rfl⟩
/-- strings.HasPrefix -/
def a259 : AFunc where
  body :=
  (.seq (.seq (.ops none [oD 4 (.mov (.k (.bool false)))])
 (.keep [0, 1]))
 (.seq (.seq (.ops none [oD 5 (.mov (.t 0)),
 oD 6 (.mov (.t 1)),
 oD 7 (.call 191 [(.t 5), (.t 6)]),
 oD 4 (.mov (.t 7))])
 (.keep [4]))
 .ret))
  results := [.tmp 4]
theorem ok259 : FnOK Tryz.prog pureL 259 a259 := ⟨Tryz.f259, [(0, [0, 1]), (1, [4])], [], Tryz.func259, by kernel_rfl⟩
/-- (*strings.Builder).Grow -/
def a260 : AFunc where
  body :=
  (.seq (.seq (.ops none [oD 4 (.mov (.t 0)),
 oD 5 (.call 269 [(.t 4)])])
 (.keep [0, 1]))
 (.seq (.seq (.seq (.ops none [oD 6 (.mov (.t 1)),
 oD 7 (.bin .lss (.t 6) (.k (.int .i64 0)))])
 (.keep [0, 1, 7]))
 (.cond (.t 7) (.ops none [oN (.nilCheck (.k .nilptr))])
 .skip))
 (.seq (.ops (some [0, 1, 21]) [oD 9 (.mov (.t 0)),
 oD 10 (.nilCheck (.t 9)),
 oD 11 (.fieldAddr 1 (.t 10)),
 oD 12 (.load1 (.t 11)),
 oD 13 (.len .cap (.t 12)),
 oD 14 (.mov (.t 0)),
 oD 15 (.nilCheck (.t 14)),
 oD 16 (.fieldAddr 1 (.t 15)),
 oD 17 (.load1 (.t 16)),
 oD 18 (.len .slice (.t 17)),
 oD 19 (.bin .sub (.t 13) (.t 18)),
 oD 20 (.mov (.t 1)),
 oD 21 (.bin .lss (.t 19) (.t 20))])
 (.cond (.t 21) (.seq (.ops none [oD 22 (.mov (.t 0)),
 oD 23 (.mov (.t 1)),
 oD 24 (.call 270 [(.t 22), (.t 23)])])
 (.keep []))
 .skip))))
  results := []
theorem ok260 : FnOK Tryz.prog pureL 260 a260 := ⟨Tryz.f260, [(0, [0, 1]), (1, [0, 1, 7]), (3, [0, 1, 21]), (4, [])], [], Tryz.func260, by kernel_rfl⟩
/-- (*strings.Builder).WriteString -/
def a261 : AFunc where
  body :=
  (.seq (.seq (.ops none [oD 4 (.mov (.k (.int .i64 0))),
 oD 5 (.mov (.k .nilIface))])
 (.keep [0, 1]))
 (.seq (.seq (.ops none [oD 6 (.mov (.t 0)),
 oD 7 (.call 269 [(.t 6)])])
 (.keep [0, 1]))
 (.seq (.seq (.ops none [oD 8 (.mov (.t 0)),
 oD 9 (.mov (.t 0)),
 oD 10 (.nilCheck (.t 9)),
 oD 11 (.fieldAddr 1 (.t 10)),
 oD 12 (.load1 (.t 11)),
 oD 13 (.mov (.t 1)),
 oD 14 (.append 1 (.t 12) (.t 13)),
 oD 15 (.nilCheck (.t 8)),
 oD 16 (.fieldAddr 1 (.t 15)),
 oN (.store 1 (.t 16) (.t 14))])
 (.keep [1]))
 (.seq (.seq (.ops none [oD 17 (.mov (.t 1)),
 oD 18 (.len .str (.t 17)),
 oD 4 (.mov (.t 18)),
 oD 5 (.mov (.k .nilIface))])
 (.keep [4, 5]))
 .ret))))
  results := [.tmp 4, .tmp 5]
theorem ok261 : FnOK Tryz.prog pureL 261 a261 := ⟨Tryz.f261, [(0, [0, 1]), (1, [0, 1]), (2, [1]), (3, [4, 5])], [], Tryz.func261, by kernel_rfl⟩
/-- (*strings.Builder).Len -/
def a262 : AFunc where
  body :=
  (.seq (.seq (.ops none [oD 2 (.mov (.k (.int .i64 0)))])
 (.keep [0]))
 (.seq (.seq (.ops none [oD 3 (.mov (.t 0)),
 oD 4 (.nilCheck (.t 3)),
 oD 5 (.fieldAddr 1 (.t 4)),
 oD 6 (.load1 (.t 5)),
 oD 7 (.len .slice (.t 6)),
 oD 2 (.mov (.t 7))])
 (.keep [2]))
 .ret))
  results := [.tmp 2]
theorem ok262 : FnOK Tryz.prog pureL 262 a262 := ⟨Tryz.f262, [(0, [0]), (1, [2])], [], Tryz.func262, by kernel_rfl⟩
/-- (*strings.Builder).String -/
def a263 : AFunc where
  body :=
  (.seq (.seq (.ops none [oD 2 (.mov (.k (.str [])))])
 (.keep [2]))
 (.seq (.ops none [oN (.nilCheck (.k .nilptr))])
 .ret))
  results := [.tmp 2]
theorem ok263 : FnOK Tryz.prog pureL 263 a263 := ⟨Tryz.f263, [(0, [2])], [], Tryz.func263, by kernel_rfl⟩
/-- stylus/hyph.book -/
def a264 : AFunc where
  body :=
  (.seq (.seq (.ops none [oD 2 (.mov (.k .nilmap))])
 (.keep [0]))
 (.seq (.seq (.ops none [oD 6 (.makeMap),
 oD 3 (.mov (.t 6))])
 (.keep [0, 3]))
 (.seq (.seq (.seq (.ops none [oD 7 (.mov (.t 0)),
 oD 8 (.len .slice (.t 7)),
 oD 9 (.mov (.k (.int .i64 0)))])
 (.keep [3, 7, 8, 9]))
 (.block 0 (.loop (.seq (.keep [3, 7, 8, 9])
 (.seq (.seq (.ops none [oD 10 (.bin .lss (.t 9) (.t 8))])
 (.keep [3, 7, 8, 9, 10]))
 (.seq (.cond (.t 10) .skip
 (.exit 0))
 (.seq (.block 1 (.seq (.seq (.ops none [oD 11 (.idxSl 2 (.t 7) (.t 9)),
 oD 12 (.loadN 2 (.t 11)),
 oD 5 (.alloc [(.str []), (.str [])]),
 oN (.store 2 (.t 5) (.t 12))])
 (.keep [3, 5, 7, 8, 9]))
 (.seq (.seq (.ops none [oD 13 (.loadN 2 (.t 5)),
 oD 14 (.call 271 [(.t 13)])])
 (.keep [3, 5, 7, 8, 9, 14]))
 (.cond (.t 14) (.ops (some [3, 7, 8, 9]) [oD 15 (.mov (.t 3)),
 oD 16 (.fieldAddr 0 (.t 5)),
 oD 17 (.load1 (.t 16)),
 oD 19 (.mov (.t 3)),
 oD 20 (.fieldAddr 0 (.t 5)),
 oD 21 (.load1 (.t 20)),
 oD 24 (.loadN 2 (.t 5)),
 ⟨(some 18), none, .call 265 [(.t 17)], [⟨21, none, .load1 (.t 20)⟩, ⟨24, none, .loadN 2 (.t 5)⟩]⟩,
 ⟨(some 22), none, .call 265 [(.t 21)], [⟨24, none, .loadN 2 (.t 5)⟩]⟩,
 oD 23 (.lookup (.agg [.int, .int, .int]) .nilslice false (.t 19) (.t 22)),
 oD 25 (.buildSlice [(.str []), (.str [])] 2 1 [(0, 2, (.t 24))]),
 oD 26 (.append 2 (.t 23) (.t 25)),
 oN (.mapUpdate (.agg [.int, .int, .int]) (.t 15) (.t 18) (.t 26))])
 .skip))))
 (.seq (.ops none [oD 27 (.bin .add (.t 9) (.k (.int .i64 1))),
 oD 9 (.mov (.t 27))])
 (.keep [3, 7, 8, 9])))))))))
 (.seq (.seq (.ops none [oD 28 (.mov (.t 3)),
 oD 2 (.mov (.t 28))])
 (.keep [2]))
 .ret))))
  results := [.tmp 2]
theorem ok264 : FnOK Tryz.prog pureL 264 a264 := ⟨Tryz.f264, [(0, [0]), (1, [0, 3]), (2, [3, 7, 8, 9]), (3, [3, 7, 8, 9, 10]), (4, [3, 5, 7, 8, 9]), (5, [3, 5, 7, 8, 9, 14]), (6, [3, 7, 8, 9]), (7, [3, 7, 8, 9]), (8, [2])], [(0, [3, 7, 8, 9])], Tryz.func264, by kernel_rfl⟩
/-- stylus/hyph.key -/
def a265 : AFunc where
  body :=
  (.seq (.seq (.ops none [oD 2 (.alloc [(.int .i64 0), (.int .u8 0), (.int .u8 0)])])
 (.keep [0, 2]))
 (.seq (.seq (.ops none [oD 4 (.mov (.t 0)),
 oD 5 (.len .str (.t 4)),
 oD 6 (.build [(.int .i64 0), (.int .u8 0), (.int .u8 0)] [(0, 1, (.t 5))]),
 oD 3 (.alloc [(.int .i64 0), (.int .u8 0), (.int .u8 0)]),
 oN (.store 3 (.t 3) (.t 6))])
 (.keep [0, 2, 3]))
 (.seq (.seq (.ops none [oD 7 (.fieldAddr 1 (.t 3)),
 oD 8 (.sliceArr 2 1 (.t 7) none none),
 oD 9 (.mov (.t 0)),
 oD 10 (.copy 1 (.t 8) (.t 9))])
 (.keep [2, 3]))
 (.seq (.seq (.ops none [oD 11 (.loadN 3 (.t 3)),
 oN (.store 3 (.t 2) (.t 11))])
 (.keep [2]))
 .ret))))
  results := [.cellN 2 3]
theorem ok265 : FnOK Tryz.prog pureL 265 a265 := ⟨Tryz.f265, [(0, [0, 2]), (1, [0, 2, 3]), (2, [2, 3]), (3, [2])], [], Tryz.func265, by kernel_rfl⟩
/-- stylus/chars.Lower -/
def a266 : AFunc where
  body :=
  (.seq (.seq (.ops none [oD 2 (.mov (.k (.int .u8 0)))])
 (.keep [0]))
 (.seq (.seq (.seq (.ops none [oD 3 (.mov (.t 0)),
 oD 4 (.call 165 [(.t 3)]),
 oD 5 (.eq false (.leaf .int) (.t 4) (.k (.int .i64 2)))])
 (.keep [0, 5]))
 (.cond (.t 5) (.seq (.seq (.ops none [oD 6 (.mov (.t 0)),
 oD 7 (.bin .or (.t 6) (.k (.int .u8 32))),
 oD 2 (.mov (.t 7))])
 (.keep [2]))
 .ret)
 .skip))
 (.seq (.seq (.ops none [oD 8 (.mov (.t 0)),
 oD 2 (.mov (.t 8))])
 (.keep [2]))
 .ret)))
  results := [.tmp 2]
theorem ok266 : FnOK Tryz.prog pureL 266 a266 := ⟨Tryz.f266, [(0, [0]), (1, [0, 5]), (2, [2]), (3, [2])], [], Tryz.func266, by kernel_rfl⟩
/-- math/bits.Mul32 -/
def a267 : AFunc where
  body :=
  (.seq (.seq (.ops none [oD 4 (.mov (.k (.int .u32 0))),
 oD 5 (.mov (.k (.int .u32 0)))])
 (.keep [0, 1]))
 (.seq (.seq (.ops none [oD 7 (.mov (.t 0)),
 oD 8 (.convInt .u64 (.t 7)),
 oD 9 (.mov (.t 1)),
 oD 10 (.convInt .u64 (.t 9)),
 oD 11 (.bin .mul (.t 8) (.t 10)),
 oD 6 (.mov (.t 11))])
 (.keep [6]))
 (.seq (.seq (.ops none [oD 12 (.mov (.t 6)),
 oD 13 (.bin .shr (.t 12) (.k (.int .u64 32))),
 oD 14 (.convInt .u32 (.t 13)),
 oD 15 (.mov (.t 6)),
 oD 16 (.convInt .u32 (.t 15)),
 oD 4 (.mov (.t 14)),
 oD 5 (.mov (.t 16))])
 (.keep [4, 5]))
 .ret)))
  results := [.tmp 4, .tmp 5]
theorem ok267 : FnOK Tryz.prog pureL 267 a267 := ⟨Tryz.f267, [(0, [0, 1]), (1, [6]), (2, [4, 5])], [], Tryz.func267, by kernel_rfl⟩
/-- math/bits.Mul64 -/
def a268 : AFunc where
  body :=
  (.seq (.seq (.ops none [oD 4 (.mov (.k (.int .u64 0))),
 oD 5 (.mov (.k (.int .u64 0)))])
 (.keep [0, 1]))
 (.seq (.seq (.ops none [oD 14 (.mov (.t 0)),
 oD 15 (.bin .and (.t 14) (.k (.int .u64 4294967295))),
 oD 6 (.mov (.t 15))])
 (.keep [0, 1, 6]))
 (.seq (.seq (.ops none [oD 16 (.mov (.t 0)),
 oD 17 (.bin .shr (.t 16) (.k (.int .u64 32))),
 oD 7 (.mov (.t 17))])
 (.keep [0, 1, 6, 7]))
 (.seq (.seq (.ops none [oD 18 (.mov (.t 1)),
 oD 19 (.bin .and (.t 18) (.k (.int .u64 4294967295))),
 oD 8 (.mov (.t 19))])
 (.keep [0, 1, 6, 7, 8]))
 (.seq (.seq (.ops none [oD 20 (.mov (.t 1)),
 oD 21 (.bin .shr (.t 20) (.k (.int .u64 32))),
 oD 9 (.mov (.t 21))])
 (.keep [0, 1, 6, 7, 8, 9]))
 (.seq (.seq (.ops none [oD 22 (.mov (.t 6)),
 oD 23 (.mov (.t 8)),
 oD 24 (.bin .mul (.t 22) (.t 23)),
 oD 10 (.mov (.t 24))])
 (.keep [0, 1, 6, 7, 8, 9, 10]))
 (.seq (.seq (.ops none [oD 25 (.mov (.t 7)),
 oD 26 (.mov (.t 8)),
 oD 27 (.bin .mul (.t 25) (.t 26)),
 oD 28 (.mov (.t 10)),
 oD 29 (.bin .shr (.t 28) (.k (.int .u64 32))),
 oD 30 (.bin .add (.t 27) (.t 29)),
 oD 11 (.mov (.t 30))])
 (.keep [0, 1, 6, 7, 9, 11]))
 (.seq (.seq (.ops none [oD 31 (.mov (.t 11)),
 oD 32 (.bin .and (.t 31) (.k (.int .u64 4294967295))),
 oD 12 (.mov (.t 32))])
 (.keep [0, 1, 6, 7, 9, 11, 12]))
 (.seq (.seq (.ops none [oD 33 (.mov (.t 11)),
 oD 34 (.bin .shr (.t 33) (.k (.int .u64 32))),
 oD 13 (.mov (.t 34))])
 (.keep [0, 1, 6, 7, 9, 12, 13]))
 (.seq (.seq (.ops none [oD 35 (.mov (.t 12)),
 oD 36 (.mov (.t 6)),
 oD 37 (.mov (.t 9)),
 oD 38 (.bin .mul (.t 36) (.t 37)),
 oD 39 (.bin .add (.t 35) (.t 38)),
 oD 12 (.mov (.t 39))])
 (.keep [0, 1, 7, 9, 12, 13]))
 (.seq (.seq (.ops none [oD 40 (.mov (.t 7)),
 oD 41 (.mov (.t 9)),
 oD 42 (.bin .mul (.t 40) (.t 41)),
 oD 43 (.mov (.t 13)),
 oD 44 (.bin .add (.t 42) (.t 43)),
 oD 45 (.mov (.t 12)),
 oD 46 (.bin .shr (.t 45) (.k (.int .u64 32))),
 oD 47 (.bin .add (.t 44) (.t 46)),
 oD 4 (.mov (.t 47))])
 (.keep [0, 1, 4]))
 (.seq (.seq (.ops none [oD 48 (.mov (.t 0)),
 oD 49 (.mov (.t 1)),
 oD 50 (.bin .mul (.t 48) (.t 49)),
 oD 5 (.mov (.t 50))])
 (.keep [4, 5]))
 .ret))))))))))))
  results := [.tmp 4, .tmp 5]
theorem ok268 : FnOK Tryz.prog pureL 268 a268 := ⟨Tryz.f268, [(0, [0, 1]), (1, [0, 1, 6]), (2, [0, 1, 6, 7]), (3, [0, 1, 6, 7, 8]), (4, [0, 1, 6, 7, 8, 9]), (5, [0, 1, 6, 7, 8, 9, 10]), (6, [0, 1, 6, 7, 9, 11]), (7, [0, 1, 6, 7, 9, 11, 12]), (8, [0, 1, 6, 7, 9, 12, 13]), (9, [0, 1, 7, 9, 12, 13]), (10, [0, 1, 4]), (11, [4, 5])], [], Tryz.func268, by kernel_rfl⟩
/-- (*strings.Builder).copyCheck -/
def a269 : AFunc where
  body :=
  (.seq (.seq (.ops none [oD 2 (.mov (.t 0)),
 oD 3 (.nilCheck (.t 2)),
 oD 4 (.fieldAddr 0 (.t 3)),
 oD 5 (.load1 (.t 4)),
 oD 6 (.eq false .ptr (.t 5) (.k .nilptr))])
 (.keep [0, 6]))
 (.cond (.t 6) (.ops none [oN (.nilCheck (.k .nilptr))])
 (.seq (.seq (.ops none [oD 14 (.mov (.t 0)),
 oD 15 (.nilCheck (.t 14)),
 oD 16 (.fieldAddr 0 (.t 15)),
 oD 17 (.load1 (.t 16)),
 oD 18 (.mov (.t 0)),
 oD 19 (.eq true .ptr (.t 17) (.t 18))])
 (.keep [19]))
 (.cond (.t 19) (.ops none [oN (.nilCheck (.k .nilptr))])
 .skip))))
  results := []
theorem ok269 : FnOK Tryz.prog pureL 269 a269 := ⟨Tryz.f269, [(0, [0, 6]), (2, [19])], [], Tryz.func269, by kernel_rfl⟩
/-- (*strings.Builder).grow -/
def a270 : AFunc where
  body :=
  (.seq (.ops (some [0, 4]) [oD 5 (.mov (.t 0)),
 oD 6 (.nilCheck (.t 5)),
 oD 7 (.fieldAddr 1 (.t 6)),
 oD 8 (.load1 (.t 7)),
 oD 9 (.len .cap (.t 8)),
 oD 10 (.bin .mul (.k (.int .i64 2)) (.t 9)),
 oD 11 (.mov (.t 1)),
 oD 12 (.bin .add (.t 10) (.t 11)),
 oD 14 (.mov (.t 0)),
 oD 15 (.nilCheck (.t 14)),
 oD 16 (.fieldAddr 1 (.t 15)),
 oD 17 (.load1 (.t 16)),
 oD 18 (.len .slice (.t 17)),
 ⟨(some 13), none, .call 273 [(.t 12)], [⟨17, none, .load1 (.t 16)⟩, ⟨18, none, .len .slice (.t 17)⟩]⟩,
 oD 19 (.sliceSl 1 (.t 13) none (some (.t 18))),
 oD 4 (.mov (.t 19))])
 (.seq (.seq (.ops none [oD 20 (.mov (.t 4)),
 oD 21 (.mov (.t 0)),
 oD 22 (.nilCheck (.t 21)),
 oD 23 (.fieldAddr 1 (.t 22)),
 oD 24 (.load1 (.t 23)),
 oD 25 (.copy 1 (.t 20) (.t 24))])
 (.keep [0, 4]))
 (.seq (.ops none [oD 26 (.mov (.t 0)),
 oD 27 (.mov (.t 4)),
 oD 28 (.nilCheck (.t 26)),
 oD 29 (.fieldAddr 1 (.t 28)),
 oN (.store 1 (.t 29) (.t 27))])
 (.keep []))))
  results := []
theorem ok270 : FnOK Tryz.prog pureL 270 a270 := ⟨Tryz.f270, [(0, [0, 4]), (1, [0, 4]), (2, [])], [], Tryz.func270, by kernel_rfl⟩
/-- stylus/hyph.right -/
def a271 : AFunc where
  body :=
  (.seq (.seq (.ops none [oD 1 (.box (.t 0)),
 oD 2 (.mov (.k (.bool false)))])
 (.keep [1]))
 (.seq (.seq (.ops none [oD 6 (.fieldAddr 0 (.t 1)),
 oD 7 (.load1 (.t 6)),
 oD 8 (.call 142 [(.t 7), (.k (.str [46]))]),
 oD 9 (.call 141 [(.t 8), (.k (.str [46]))]),
 oD 3 (.mov (.t 9))])
 (.keep [1, 3]))
 (.seq (.seq (.ops none [oD 10 (.mov (.t 3)),
 oD 11 (.call 105 [(.t 10), (.k (.str [97, 98, 99, 100, 101, 102, 103, 104, 105, 106, 107, 108, 109, 110, 111, 112, 113, 114, 115, 116, 117, 118, 119, 120, 121, 122]))]),
 oD 12 (.eq false (.leaf .str) (.t 11) (.k (.str []))),
 oD 4 (.mov (.t 12))])
 (.keep [1, 3, 4]))
 (.seq (.seq (.ops none [oD 13 (.fieldAddr 1 (.t 1)),
 oD 14 (.load1 (.t 13)),
 oD 15 (.call 105 [(.t 14), (.k (.str [48, 49, 50, 51, 52, 53, 54, 55, 56, 57]))]),
 oD 16 (.eq false (.leaf .str) (.t 15) (.k (.str []))),
 oD 5 (.mov (.t 16))])
 (.keep [1, 3, 4, 5]))
 (.seq (.seq (.ops none [oD 17 (.mov (.t 3)),
 oD 18 (.eq true (.leaf .str) (.t 17) (.k (.str []))),
 oD 19 (.mov (.t 18)),
 oG 20 19 true (.mov (.t 4)),
 oD 21 (.pick (.t 19) (.t 20) (.k (.bool false))),
 oD 22 (.mov (.t 21)),
 oG 23 22 true (.mov (.t 5)),
 oD 24 (.pick (.t 22) (.t 23) (.k (.bool false))),
 oD 25 (.mov (.t 24)),
 oG 26 25 true (.fieldAddr 0 (.t 1)),
 oG 27 25 true (.load1 (.t 26)),
 oG 28 25 true (.len .str (.t 27)),
 oG 29 25 true (.bin .leq (.t 28) (.k (.int .i64 16))),
 oD 30 (.pick (.t 25) (.t 29) (.k (.bool false))),
 oD 31 (.mov (.t 30)),
 oG 32 31 true (.fieldAddr 1 (.t 1)),
 oG 33 31 true (.load1 (.t 32)),
 oG 34 31 true (.len .str (.t 33)),
 oG 35 31 true (.fieldAddr 0 (.t 1)),
 oG 36 31 true (.load1 (.t 35)),
 oG 37 31 true (.len .str (.t 36)),
 oG 38 31 true (.bin .add (.t 37) (.k (.int .i64 1))),
 oG 39 31 true (.eq false (.leaf .int) (.t 34) (.t 38)),
 oD 40 (.pick (.t 31) (.t 39) (.k (.bool false))),
 oD 2 (.mov (.t 40))])
 (.keep [2]))
 .ret)))))
  results := [.tmp 2]
theorem ok271 : FnOK Tryz.prog pureL 271 a271 := ⟨Tryz.f271, [(0, [1]), (1, [1, 3]), (2, [1, 3, 4]), (3, [1, 3, 4, 5]), (4, [2])], [], Tryz.func271, by kernel_rfl⟩
end Go.Ab
