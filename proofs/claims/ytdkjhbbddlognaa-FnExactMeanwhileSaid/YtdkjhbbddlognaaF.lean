/-
  Facts of the types that the functions of the program name: it proves no statement of the seat by itself; no conditions.
-/
import Derived.Test.YtdkjhbbddlognaaMvCod
import Derived.Test.YtdkjhbbddlognaaProg
import Derived.KernelRfl
namespace Go.Mv
open Go.Proofs
theorem ag25 : isAggT Try.prog 25 = true := by kernel_rfl
theorem ce25 : Try.prog.cellsOf 25 = 9 := by kernel_rfl
theorem ze25 : zeroTr Try.prog 25 = some [.sc (.int .i64 0), .sc (.int .i64 0), .sc (.int .i64 0), .sc (.int .i64 0), .sc (.string .empty), .sc (.string .empty), .sc (.int .i64 0), .sc (.int .i64 0), .sc (.string .empty)] := by kernel_rfl
theorem ag43 : isAggT Try.prog 43 = true := by kernel_rfl
theorem ce43 : Try.prog.cellsOf 43 = 8 := by kernel_rfl
theorem ze43 : zeroTr Try.prog 43 = some [.sc (.int .i64 0), .sc (.int .i64 0), .sc (.int .i64 0), .sl true 7 [], .sl true 3 [], .sc (.int .i64 0), .sc (.int .i64 0), .sc (.bool false)] := by kernel_rfl
theorem ag49 : isAggT Try.prog 49 = true := by kernel_rfl
theorem ce49 : Try.prog.cellsOf 49 = 8 := by kernel_rfl
theorem ze49 : zeroTr Try.prog 49 = some [.sc (.int .i64 0), .sc (.int .i64 0), .sc (.int .i64 0), .sl true 7 [], .sl true 3 [], .sc (.int .i64 0), .sc (.int .i64 0), .sc (.bool false)] := by kernel_rfl
theorem ag77 : isAggT Try.prog 77 = true := by kernel_rfl
theorem ce77 : Try.prog.cellsOf 77 = 11 := by kernel_rfl
theorem ze77 : zeroTr Try.prog 77 = some [.sl true 2 [], .sl true 10 [], .sl true 3 [], .sc (.string .empty), .sc (.int .i64 0), .sc (.int .i64 0), .sc (.int .i64 0), .sc (.int .i64 0), .sl true 8 [], .sl true 1 [], .sc (.bool false)] := by kernel_rfl
theorem ag87 : isAggT Try.prog 87 = true := by kernel_rfl
theorem ce87 : Try.prog.cellsOf 87 = 11 := by kernel_rfl
theorem ze87 : zeroTr Try.prog 87 = some [.sl true 2 [], .sl true 10 [], .sl true 3 [], .sc (.string .empty), .sc (.int .i64 0), .sc (.int .i64 0), .sc (.int .i64 0), .sc (.int .i64 0), .sl true 8 [], .sl true 1 [], .sc (.bool false)] := by kernel_rfl
theorem fo25_3 : fieldOff Try.prog 25 3 = some (3, 23) := by kernel_rfl
theorem ag23 : isAggT Try.prog 23 = true := by kernel_rfl
theorem ce23 : Try.prog.cellsOf 23 = 6 := by kernel_rfl
theorem ag30 : isAggT Try.prog 30 = true := by kernel_rfl
theorem ce30 : Try.prog.cellsOf 30 = 9 := by kernel_rfl
theorem ze30 : zeroTr Try.prog 30 = some [.sc (.int .i64 0), .sc (.int .i64 0), .sc (.int .i64 0), .sc (.int .i64 0), .sc (.string .empty), .sc (.string .empty), .sc (.int .i64 0), .sc (.int .i64 0), .sc (.string .empty)] := by kernel_rfl
theorem eg30 : Op.eqGuardFree Try.prog 30 = true := by kernel_rfl
theorem et30 : eqTags Try.prog 6 30 = some [.i .i64, .i .i64, .i .i64, .i .i64, .s, .s, .i .i64, .i .i64, .s] := by kernel_rfl
theorem fo25_0 : fieldOff Try.prog 25 0 = some (0, 3) := by kernel_rfl
theorem ag3 : isAggT Try.prog 3 = false := by kernel_rfl
theorem ce3 : Try.prog.cellsOf 3 = 1 := by kernel_rfl
theorem fo30_0 : fieldOff Try.prog 30 0 = some (0, 3) := by kernel_rfl
theorem fo25_1 : fieldOff Try.prog 25 1 = some (1, 3) := by kernel_rfl
theorem fo30_1 : fieldOff Try.prog 30 1 = some (1, 3) := by kernel_rfl
theorem fo25_2 : fieldOff Try.prog 25 2 = some (2, 3) := by kernel_rfl
theorem fo30_2 : fieldOff Try.prog 30 2 = some (2, 3) := by kernel_rfl
theorem fo30_3 : fieldOff Try.prog 30 3 = some (3, 28) := by kernel_rfl
theorem ag28 : isAggT Try.prog 28 = true := by kernel_rfl
theorem ce28 : Try.prog.cellsOf 28 = 6 := by kernel_rfl
theorem el33 : elemT Try.prog 33 = some 25 := by kernel_rfl
theorem el36 : elemT Try.prog 36 = some 30 := by kernel_rfl
theorem by30 : Try.prog.bytesOf 30 = 96 := by kernel_rfl
theorem fo43_3 : fieldOff Try.prog 43 3 = some (3, 40) := by kernel_rfl
theorem ag40 : isAggT Try.prog 40 = false := by kernel_rfl
theorem ce40 : Try.prog.cellsOf 40 = 1 := by kernel_rfl
theorem fo43_4 : fieldOff Try.prog 43 4 = some (4, 41) := by kernel_rfl
theorem ag41 : isAggT Try.prog 41 = false := by kernel_rfl
theorem ce41 : Try.prog.cellsOf 41 = 1 := by kernel_rfl
theorem fo49_6 : fieldOff Try.prog 49 6 = some (6, 3) := by kernel_rfl
theorem fo49_5 : fieldOff Try.prog 49 5 = some (5, 3) := by kernel_rfl
theorem fo43_0 : fieldOff Try.prog 43 0 = some (0, 3) := by kernel_rfl
theorem fo49_0 : fieldOff Try.prog 49 0 = some (0, 3) := by kernel_rfl
theorem fo43_1 : fieldOff Try.prog 43 1 = some (1, 3) := by kernel_rfl
theorem fo49_1 : fieldOff Try.prog 49 1 = some (1, 3) := by kernel_rfl
theorem fo43_2 : fieldOff Try.prog 43 2 = some (2, 3) := by kernel_rfl
theorem fo49_2 : fieldOff Try.prog 49 2 = some (2, 3) := by kernel_rfl
theorem fo49_3 : fieldOff Try.prog 49 3 = some (3, 46) := by kernel_rfl
theorem ag46 : isAggT Try.prog 46 = false := by kernel_rfl
theorem ce46 : Try.prog.cellsOf 46 = 1 := by kernel_rfl
theorem fo49_4 : fieldOff Try.prog 49 4 = some (4, 47) := by kernel_rfl
theorem ag47 : isAggT Try.prog 47 = false := by kernel_rfl
theorem ce47 : Try.prog.cellsOf 47 = 1 := by kernel_rfl
theorem fo43_5 : fieldOff Try.prog 43 5 = some (5, 3) := by kernel_rfl
theorem fo43_6 : fieldOff Try.prog 43 6 = some (6, 3) := by kernel_rfl
theorem fo43_7 : fieldOff Try.prog 43 7 = some (7, 4) := by kernel_rfl
theorem ag4 : isAggT Try.prog 4 = false := by kernel_rfl
theorem ce4 : Try.prog.cellsOf 4 = 1 := by kernel_rfl
theorem fo49_7 : fieldOff Try.prog 49 7 = some (7, 4) := by kernel_rfl
theorem el52 : elemT Try.prog 52 = some 43 := by kernel_rfl
theorem el55 : elemT Try.prog 55 = some 49 := by kernel_rfl
theorem by49 : Try.prog.bytesOf 49 = 96 := by kernel_rfl
theorem el47 : elemT Try.prog 47 = some 110 := by kernel_rfl
theorem ag110 : isAggT Try.prog 110 = true := by kernel_rfl
theorem ce110 : Try.prog.cellsOf 110 = 3 := by kernel_rfl
theorem ze110 : zeroTr Try.prog 110 = some [.sc (.int .i64 0), .sc (.int .i64 0), .sc (.string .empty)] := by kernel_rfl
theorem by110 : Try.prog.bytesOf 110 = 32 := by kernel_rfl
theorem fo110_0 : fieldOff Try.prog 110 0 = some (0, 3) := by kernel_rfl
theorem fo110_1 : fieldOff Try.prog 110 1 = some (1, 3) := by kernel_rfl
theorem fo110_2 : fieldOff Try.prog 110 2 = some (2, 9) := by kernel_rfl
theorem ag9 : isAggT Try.prog 9 = false := by kernel_rfl
theorem ce9 : Try.prog.cellsOf 9 = 1 := by kernel_rfl
theorem el46 : elemT Try.prog 46 = some 114 := by kernel_rfl
theorem ag114 : isAggT Try.prog 114 = true := by kernel_rfl
theorem ce114 : Try.prog.cellsOf 114 = 7 := by kernel_rfl
theorem ze114 : zeroTr Try.prog 114 = some [.sc (.int .i64 0), .sc (.int .i64 0), .sc (.string .empty), .sc (.string .empty), .sc (.int .i64 0), .sc (.int .i64 0), .sc (.string .empty)] := by kernel_rfl
theorem by114 : Try.prog.bytesOf 114 = 80 := by kernel_rfl
theorem fo114_0 : fieldOff Try.prog 114 0 = some (0, 3) := by kernel_rfl
theorem fo114_1 : fieldOff Try.prog 114 1 = some (1, 28) := by kernel_rfl
theorem fo28_0 : fieldOff Try.prog 28 0 = some (0, 3) := by kernel_rfl
theorem fo28_1 : fieldOff Try.prog 28 1 = some (1, 9) := by kernel_rfl
theorem fo28_2 : fieldOff Try.prog 28 2 = some (2, 9) := by kernel_rfl
theorem fo28_3 : fieldOff Try.prog 28 3 = some (3, 3) := by kernel_rfl
theorem fo28_4 : fieldOff Try.prog 28 4 = some (4, 3) := by kernel_rfl
theorem fo28_5 : fieldOff Try.prog 28 5 = some (5, 9) := by kernel_rfl
theorem fo77_0 : fieldOff Try.prog 77 0 = some (0, 68) := by kernel_rfl
theorem ag68 : isAggT Try.prog 68 = false := by kernel_rfl
theorem ce68 : Try.prog.cellsOf 68 = 1 := by kernel_rfl
theorem fo77_1 : fieldOff Try.prog 77 1 = some (1, 69) := by kernel_rfl
theorem ag69 : isAggT Try.prog 69 = false := by kernel_rfl
theorem ce69 : Try.prog.cellsOf 69 = 1 := by kernel_rfl
theorem fo77_2 : fieldOff Try.prog 77 2 = some (2, 74) := by kernel_rfl
theorem ag74 : isAggT Try.prog 74 = true := by kernel_rfl
theorem ce74 : Try.prog.cellsOf 74 = 3 := by kernel_rfl
theorem fo77_6 : fieldOff Try.prog 77 6 = some (8, 52) := by kernel_rfl
theorem ag52 : isAggT Try.prog 52 = false := by kernel_rfl
theorem ce52 : Try.prog.cellsOf 52 = 1 := by kernel_rfl
theorem fo77_7 : fieldOff Try.prog 77 7 = some (9, 75) := by kernel_rfl
theorem ag75 : isAggT Try.prog 75 = false := by kernel_rfl
theorem ce75 : Try.prog.cellsOf 75 = 1 := by kernel_rfl
theorem fo87_6 : fieldOff Try.prog 87 6 = some (8, 55) := by kernel_rfl
theorem ag55 : isAggT Try.prog 55 = false := by kernel_rfl
theorem ce55 : Try.prog.cellsOf 55 = 1 := by kernel_rfl
theorem fo87_0 : fieldOff Try.prog 87 0 = some (0, 80) := by kernel_rfl
theorem ag80 : isAggT Try.prog 80 = false := by kernel_rfl
theorem ce80 : Try.prog.cellsOf 80 = 1 := by kernel_rfl
theorem fo87_1 : fieldOff Try.prog 87 1 = some (1, 81) := by kernel_rfl
theorem ag81 : isAggT Try.prog 81 = false := by kernel_rfl
theorem ce81 : Try.prog.cellsOf 81 = 1 := by kernel_rfl
theorem fo87_2 : fieldOff Try.prog 87 2 = some (2, 85) := by kernel_rfl
theorem ag85 : isAggT Try.prog 85 = true := by kernel_rfl
theorem ce85 : Try.prog.cellsOf 85 = 3 := by kernel_rfl
theorem fo77_3 : fieldOff Try.prog 77 3 = some (5, 3) := by kernel_rfl
theorem fo87_3 : fieldOff Try.prog 87 3 = some (5, 3) := by kernel_rfl
theorem fo77_4 : fieldOff Try.prog 77 4 = some (6, 3) := by kernel_rfl
theorem fo87_4 : fieldOff Try.prog 87 4 = some (6, 3) := by kernel_rfl
theorem fo77_5 : fieldOff Try.prog 77 5 = some (7, 3) := by kernel_rfl
theorem fo87_5 : fieldOff Try.prog 87 5 = some (7, 3) := by kernel_rfl
theorem fo87_7 : fieldOff Try.prog 87 7 = some (9, 75) := by kernel_rfl
theorem fo77_8 : fieldOff Try.prog 77 8 = some (10, 4) := by kernel_rfl
theorem fo87_8 : fieldOff Try.prog 87 8 = some (10, 4) := by kernel_rfl
theorem el81 : elemT Try.prog 81 = some 132 := by kernel_rfl
theorem ag132 : isAggT Try.prog 132 = true := by kernel_rfl
theorem ce132 : Try.prog.cellsOf 132 = 10 := by kernel_rfl
theorem el92 : elemT Try.prog 92 = some 3 := by kernel_rfl
theorem ze3 : zeroTr Try.prog 3 = some [.sc (.int .i64 0)] := by kernel_rfl
theorem by3 : Try.prog.bytesOf 3 = 8 := by kernel_rfl
theorem fo132_8 : fieldOff Try.prog 132 8 = some (9, 3) := by kernel_rfl
theorem fo132_0 : fieldOff Try.prog 132 0 = some (0, 3) := by kernel_rfl
theorem ze23 : zeroTr Try.prog 23 = some [.sc (.int .i64 0), .sc (.string .empty), .sc (.string .empty), .sc (.int .i64 0), .sc (.int .i64 0), .sc (.string .empty)] := by kernel_rfl
theorem fo23_1 : fieldOff Try.prog 23 1 = some (1, 9) := by kernel_rfl
theorem fo23_2 : fieldOff Try.prog 23 2 = some (2, 9) := by kernel_rfl
theorem fo23_5 : fieldOff Try.prog 23 5 = some (5, 9) := by kernel_rfl
theorem ze28 : zeroTr Try.prog 28 = some [.sc (.int .i64 0), .sc (.string .empty), .sc (.string .empty), .sc (.int .i64 0), .sc (.int .i64 0), .sc (.string .empty)] := by kernel_rfl
theorem fo23_0 : fieldOff Try.prog 23 0 = some (0, 3) := by kernel_rfl
theorem fo23_3 : fieldOff Try.prog 23 3 = some (3, 3) := by kernel_rfl
theorem fo23_4 : fieldOff Try.prog 23 4 = some (4, 3) := by kernel_rfl
theorem el40 : elemT Try.prog 40 = some 144 := by kernel_rfl
theorem ag144 : isAggT Try.prog 144 = true := by kernel_rfl
theorem ce144 : Try.prog.cellsOf 144 = 7 := by kernel_rfl
theorem el41 : elemT Try.prog 41 = some 146 := by kernel_rfl
theorem ag146 : isAggT Try.prog 146 = true := by kernel_rfl
theorem ce146 : Try.prog.cellsOf 146 = 3 := by kernel_rfl
theorem el149 : elemT Try.prog 149 = some 5 := by kernel_rfl
theorem ag5 : isAggT Try.prog 5 = false := by kernel_rfl
theorem ce5 : Try.prog.cellsOf 5 = 1 := by kernel_rfl
theorem ze5 : zeroTr Try.prog 5 = some [.sc (.int .u8 0)] := by kernel_rfl
theorem by5 : Try.prog.bytesOf 5 = 1 := by kernel_rfl
theorem el68 : elemT Try.prog 68 = some 152 := by kernel_rfl
theorem ag152 : isAggT Try.prog 152 = true := by kernel_rfl
theorem ce152 : Try.prog.cellsOf 152 = 2 := by kernel_rfl
theorem el69 : elemT Try.prog 69 = some 157 := by kernel_rfl
theorem ag157 : isAggT Try.prog 157 = true := by kernel_rfl
theorem ce157 : Try.prog.cellsOf 157 = 10 := by kernel_rfl
theorem ze74 : zeroTr Try.prog 74 = some [.sl true 3 [], .sc (.string .empty), .sc (.int .i64 0)] := by kernel_rfl
theorem fo74_0 : fieldOff Try.prog 74 0 = some (0, 70) := by kernel_rfl
theorem ag70 : isAggT Try.prog 70 = false := by kernel_rfl
theorem ce70 : Try.prog.cellsOf 70 = 1 := by kernel_rfl
theorem fo74_1 : fieldOff Try.prog 74 1 = some (1, 72) := by kernel_rfl
theorem ag72 : isAggT Try.prog 72 = true := by kernel_rfl
theorem ce72 : Try.prog.cellsOf 72 = 2 := by kernel_rfl
theorem el75 : elemT Try.prog 75 = some 9 := by kernel_rfl
theorem el80 : elemT Try.prog 80 = some 160 := by kernel_rfl
theorem ag160 : isAggT Try.prog 160 = true := by kernel_rfl
theorem ce160 : Try.prog.cellsOf 160 = 2 := by kernel_rfl
theorem ze160 : zeroTr Try.prog 160 = some [.sc (.string .empty), .sc (.string .empty)] := by kernel_rfl
theorem by160 : Try.prog.bytesOf 160 = 32 := by kernel_rfl
theorem ze132 : zeroTr Try.prog 132 = some [.sc (.int .i64 0), .sc (.int .i64 0), .sc (.int .i64 0), .sc (.int .i64 0), .sl true 6 [], .sl true 3 [], .sl true 1 [], .sl true 1 [], .sl true 1 [], .sc (.int .i64 0)] := by kernel_rfl
theorem by132 : Try.prog.bytesOf 132 = 160 := by kernel_rfl
theorem ze85 : zeroTr Try.prog 85 = some [.sl true 3 [], .sc (.string .empty), .sc (.int .i64 0)] := by kernel_rfl
theorem fo85_0 : fieldOff Try.prog 85 0 = some (0, 82) := by kernel_rfl
theorem ag82 : isAggT Try.prog 82 = false := by kernel_rfl
theorem ce82 : Try.prog.cellsOf 82 = 1 := by kernel_rfl
theorem fo85_1 : fieldOff Try.prog 85 1 = some (1, 83) := by kernel_rfl
theorem ag83 : isAggT Try.prog 83 = true := by kernel_rfl
theorem ce83 : Try.prog.cellsOf 83 = 2 := by kernel_rfl
theorem ze9 : zeroTr Try.prog 9 = some [.sc (.string .empty)] := by kernel_rfl
theorem by9 : Try.prog.bytesOf 9 = 16 := by kernel_rfl
theorem eg160 : Op.eqGuardFree Try.prog 160 = true := by kernel_rfl
theorem et160 : eqTags Try.prog 6 160 = some [.s, .s] := by kernel_rfl
theorem eg83 : Op.eqGuardFree Try.prog 83 = true := by kernel_rfl
theorem et83 : eqTags Try.prog 6 83 = some [.s, .i .i64] := by kernel_rfl
theorem el82 : elemT Try.prog 82 = some 169 := by kernel_rfl
theorem ag169 : isAggT Try.prog 169 = true := by kernel_rfl
theorem ce169 : Try.prog.cellsOf 169 = 3 := by kernel_rfl
theorem ze169 : zeroTr Try.prog 169 = some [.sc (.int .i64 0), .sl true 2 [], .sc (.bool false)] := by kernel_rfl
theorem fo169_0 : fieldOff Try.prog 169 0 = some (0, 3) := by kernel_rfl
theorem fo169_2 : fieldOff Try.prog 169 2 = some (2, 4) := by kernel_rfl
theorem fo169_1 : fieldOff Try.prog 169 1 = some (1, 80) := by kernel_rfl
theorem fo132_1 : fieldOff Try.prog 132 1 = some (1, 3) := by kernel_rfl
theorem fo132_2 : fieldOff Try.prog 132 2 = some (2, 3) := by kernel_rfl
theorem fo132_3 : fieldOff Try.prog 132 3 = some (3, 3) := by kernel_rfl
theorem fo132_4 : fieldOff Try.prog 132 4 = some (4, 128) := by kernel_rfl
theorem ag128 : isAggT Try.prog 128 = false := by kernel_rfl
theorem ce128 : Try.prog.cellsOf 128 = 1 := by kernel_rfl
theorem fo132_5 : fieldOff Try.prog 132 5 = some (5, 47) := by kernel_rfl
theorem fo132_6 : fieldOff Try.prog 132 6 = some (6, 130) := by kernel_rfl
theorem ag130 : isAggT Try.prog 130 = true := by kernel_rfl
theorem ce130 : Try.prog.cellsOf 130 = 2 := by kernel_rfl
theorem fo132_7 : fieldOff Try.prog 132 7 = some (8, 92) := by kernel_rfl
theorem ag92 : isAggT Try.prog 92 = false := by kernel_rfl
theorem ce92 : Try.prog.cellsOf 92 = 1 := by kernel_rfl
theorem fo160_0 : fieldOff Try.prog 160 0 = some (0, 9) := by kernel_rfl
theorem fo160_1 : fieldOff Try.prog 160 1 = some (1, 9) := by kernel_rfl
theorem fo130_0 : fieldOff Try.prog 130 0 = some (0, 75) := by kernel_rfl
theorem fo130_1 : fieldOff Try.prog 130 1 = some (1, 75) := by kernel_rfl
theorem ze144 : zeroTr Try.prog 144 = some [.sc (.int .i64 0), .sc (.int .i64 0), .sc (.string .empty), .sc (.string .empty), .sc (.int .i64 0), .sc (.int .i64 0), .sc (.string .empty)] := by kernel_rfl
theorem fo144_1 : fieldOff Try.prog 144 1 = some (1, 23) := by kernel_rfl
theorem ze146 : zeroTr Try.prog 146 = some [.sc (.int .i64 0), .sc (.int .i64 0), .sc (.string .empty)] := by kernel_rfl
theorem fo146_2 : fieldOff Try.prog 146 2 = some (2, 9) := by kernel_rfl
theorem fo144_0 : fieldOff Try.prog 144 0 = some (0, 3) := by kernel_rfl
theorem fo146_0 : fieldOff Try.prog 146 0 = some (0, 3) := by kernel_rfl
theorem fo146_1 : fieldOff Try.prog 146 1 = some (1, 3) := by kernel_rfl
theorem eg114 : Op.eqGuardFree Try.prog 114 = true := by kernel_rfl
theorem et114 : eqTags Try.prog 6 114 = some [.i .i64, .i .i64, .s, .s, .i .i64, .i .i64, .s] := by kernel_rfl
theorem eg110 : Op.eqGuardFree Try.prog 110 = true := by kernel_rfl
theorem et110 : eqTags Try.prog 6 110 = some [.i .i64, .i .i64, .s] := by kernel_rfl
theorem ze152 : zeroTr Try.prog 152 = some [.sc (.string .empty), .sc (.string .empty)] := by kernel_rfl
theorem fo152_0 : fieldOff Try.prog 152 0 = some (0, 9) := by kernel_rfl
theorem fo152_1 : fieldOff Try.prog 152 1 = some (1, 9) := by kernel_rfl
theorem ze157 : zeroTr Try.prog 157 = some [.sc (.int .i64 0), .sc (.int .i64 0), .sc (.int .i64 0), .sc (.int .i64 0), .sl true 6 [], .sl true 3 [], .sl true 1 [], .sl true 1 [], .sl true 1 [], .sc (.int .i64 0)] := by kernel_rfl
theorem fo157_4 : fieldOff Try.prog 157 4 = some (4, 154) := by kernel_rfl
theorem ag154 : isAggT Try.prog 154 = false := by kernel_rfl
theorem ce154 : Try.prog.cellsOf 154 = 1 := by kernel_rfl
theorem fo157_5 : fieldOff Try.prog 157 5 = some (5, 41) := by kernel_rfl
theorem fo157_6 : fieldOff Try.prog 157 6 = some (6, 155) := by kernel_rfl
theorem ag155 : isAggT Try.prog 155 = true := by kernel_rfl
theorem ce155 : Try.prog.cellsOf 155 = 2 := by kernel_rfl
theorem fo157_7 : fieldOff Try.prog 157 7 = some (8, 92) := by kernel_rfl
theorem el70 : elemT Try.prog 70 = some 182 := by kernel_rfl
theorem ag182 : isAggT Try.prog 182 = true := by kernel_rfl
theorem ce182 : Try.prog.cellsOf 182 = 3 := by kernel_rfl
theorem ze72 : zeroTr Try.prog 72 = some [.sc (.string .empty), .sc (.int .i64 0)] := by kernel_rfl
theorem fo72_0 : fieldOff Try.prog 72 0 = some (0, 9) := by kernel_rfl
theorem fo157_0 : fieldOff Try.prog 157 0 = some (0, 3) := by kernel_rfl
theorem fo157_1 : fieldOff Try.prog 157 1 = some (1, 3) := by kernel_rfl
theorem fo157_2 : fieldOff Try.prog 157 2 = some (2, 3) := by kernel_rfl
theorem fo157_3 : fieldOff Try.prog 157 3 = some (3, 3) := by kernel_rfl
theorem fo157_8 : fieldOff Try.prog 157 8 = some (9, 3) := by kernel_rfl
theorem by169 : Try.prog.bytesOf 169 = 40 := by kernel_rfl
theorem ze83 : zeroTr Try.prog 83 = some [.sc (.string .empty), .sc (.int .i64 0)] := by kernel_rfl
theorem fo83_0 : fieldOff Try.prog 83 0 = some (0, 9) := by kernel_rfl
theorem fo72_1 : fieldOff Try.prog 72 1 = some (1, 3) := by kernel_rfl
theorem fo83_1 : fieldOff Try.prog 83 1 = some (1, 3) := by kernel_rfl
theorem el128 : elemT Try.prog 128 = some 28 := by kernel_rfl
theorem eg28 : Op.eqGuardFree Try.prog 28 = true := by kernel_rfl
theorem et28 : eqTags Try.prog 6 28 = some [.i .i64, .s, .s, .i .i64, .i .i64, .s] := by kernel_rfl
theorem ze130 : zeroTr Try.prog 130 = some [.sl true 1 [], .sl true 1 []] := by kernel_rfl
theorem el154 : elemT Try.prog 154 = some 23 := by kernel_rfl
theorem ze155 : zeroTr Try.prog 155 = some [.sl true 1 [], .sl true 1 []] := by kernel_rfl
theorem fo155_0 : fieldOff Try.prog 155 0 = some (0, 75) := by kernel_rfl
theorem fo155_1 : fieldOff Try.prog 155 1 = some (1, 75) := by kernel_rfl
theorem ze182 : zeroTr Try.prog 182 = some [.sc (.int .i64 0), .sl true 2 [], .sc (.bool false)] := by kernel_rfl
theorem fo182_1 : fieldOff Try.prog 182 1 = some (1, 68) := by kernel_rfl
theorem by28 : Try.prog.bytesOf 28 = 72 := by kernel_rfl
theorem fo182_0 : fieldOff Try.prog 182 0 = some (0, 3) := by kernel_rfl
theorem fo182_2 : fieldOff Try.prog 182 2 = some (2, 4) := by kernel_rfl
attribute [simp] ag25 ce25 ze25 ag43 ce43 ze43 ag49 ce49 ze49 ag77 ce77 ze77 ag87 ce87 ze87 fo25_3 ag23 ce23 ag30 ce30 ze30 eg30 et30 fo25_0 ag3 ce3 fo30_0 fo25_1 fo30_1 fo25_2 fo30_2 fo30_3 ag28 ce28 el33 el36 by30 fo43_3 ag40 ce40 fo43_4 ag41 ce41 fo49_6 fo49_5 fo43_0 fo49_0 fo43_1 fo49_1 fo43_2 fo49_2 fo49_3 ag46 ce46 fo49_4 ag47 ce47 fo43_5 fo43_6 fo43_7 ag4 ce4 fo49_7 el52 el55 by49 el47 ag110 ce110 ze110 by110 fo110_0 fo110_1 fo110_2 ag9 ce9 el46 ag114 ce114 ze114 by114 fo114_0 fo114_1 fo28_0 fo28_1 fo28_2 fo28_3 fo28_4 fo28_5 fo77_0 ag68 ce68 fo77_1 ag69 ce69 fo77_2 ag74 ce74 fo77_6 ag52 ce52 fo77_7 ag75 ce75 fo87_6 ag55 ce55 fo87_0 ag80 ce80 fo87_1 ag81 ce81 fo87_2 ag85 ce85 fo77_3 fo87_3 fo77_4 fo87_4 fo77_5 fo87_5 fo87_7 fo77_8 fo87_8 el81 ag132 ce132 el92 ze3 by3 fo132_8 fo132_0 ze23 fo23_1 fo23_2 fo23_5 ze28 fo23_0 fo23_3 fo23_4 el40 ag144 ce144 el41 ag146 ce146 el149 ag5 ce5 ze5 by5 el68 ag152 ce152 el69 ag157 ce157 ze74 fo74_0 ag70 ce70 fo74_1 ag72 ce72 el75 el80 ag160 ce160 ze160 by160 ze132 by132 ze85 fo85_0 ag82 ce82 fo85_1 ag83 ce83 ze9 by9 eg160 et160 eg83 et83 el82 ag169 ce169 ze169 fo169_0 fo169_2 fo169_1 fo132_1 fo132_2 fo132_3 fo132_4 ag128 ce128 fo132_5 fo132_6 ag130 ce130 fo132_7 ag92 ce92 fo160_0 fo160_1 fo130_0 fo130_1 ze144 fo144_1 ze146 fo146_2 fo144_0 fo146_0 fo146_1 eg114 et114 eg110 et110 ze152 fo152_0 fo152_1 ze157 fo157_4 ag154 ce154 fo157_5 fo157_6 ag155 ce155 fo157_7 el70 ag182 ce182 ze72 fo72_0 fo157_0 fo157_1 fo157_2 fo157_3 fo157_8 by169 ze83 fo83_0 fo72_1 fo83_1 el128 eg28 et28 ze130 el154 ze155 fo155_0 fo155_1 ze182 fo182_1 by28 fo182_0 fo182_2 Try.underlying3 Try.underlying4 Try.underlying5 Try.underlying9 Try.underlying23 Try.underlying25 Try.underlying28 Try.underlying30 Try.underlying33 Try.underlying36 Try.underlying40 Try.underlying41 Try.underlying43 Try.underlying45 Try.underlying46 Try.underlying47 Try.underlying49 Try.underlying52 Try.underlying55 Try.underlying68 Try.underlying69 Try.underlying70 Try.underlying72 Try.underlying74 Try.underlying75 Try.underlying77 Try.underlying80 Try.underlying81 Try.underlying82 Try.underlying83 Try.underlying85 Try.underlying87 Try.underlying92 Try.underlying110 Try.underlying114 Try.underlying127 Try.underlying128 Try.underlying130 Try.underlying132 Try.underlying135 Try.underlying144 Try.underlying146 Try.underlying149 Try.underlying152 Try.underlying154 Try.underlying155 Try.underlying157 Try.underlying160 Try.underlying169 Try.underlying172 Try.underlying182
theorem mixed : Try.prog.follows .mixedOrders = true := by kernel_rfl
attribute [simp] cI cS cB cT cL strEq
abbrev cCell := cT (DCell.enc false) (DCell.dec false) (DCell.dec_inv false)
abbrev lCell := cL false 2 (DCell.enc false) (DCell.dec false) (DCell.dec_inv false)
abbrev oCell := cL true 2 (DCell.enc true) (DCell.dec true) (DCell.dec_inv true)
abbrev cTouch := cT (DTouch.enc false) (DTouch.dec false) (DTouch.dec_inv false)
abbrev lTouch := cL false 2 (DTouch.enc false) (DTouch.dec false) (DTouch.dec_inv false)
abbrev oTouch := cL true 2 (DTouch.enc true) (DTouch.dec true) (DTouch.dec_inv true)
abbrev cMach := cT (DMach.enc false) (DMach.dec false) (DMach.dec_inv false)
abbrev lMach := cL false 3 (DMach.enc false) (DMach.dec false) (DMach.dec_inv false)
abbrev oMach := cL true 3 (DMach.enc true) (DMach.dec true) (DMach.dec_inv true)
abbrev cCall := cT (DCall.enc false) (DCall.dec false) (DCall.dec_inv false)
abbrev lCall := cL false 6 (DCall.enc false) (DCall.dec false) (DCall.dec_inv false)
abbrev oCall := cL true 6 (DCall.enc true) (DCall.dec true) (DCall.dec_inv true)
abbrev cAnswer := cT (DAnswer.enc false) (DAnswer.dec false) (DAnswer.dec_inv false)
abbrev lAnswer := cL false 3 (DAnswer.enc false) (DAnswer.dec false) (DAnswer.dec_inv false)
abbrev oAnswer := cL true 3 (DAnswer.enc true) (DAnswer.dec true) (DAnswer.dec_inv true)
abbrev cStep := cT (DStep.enc false) (DStep.dec false) (DStep.dec_inv false)
abbrev lStep := cL false 7 (DStep.enc false) (DStep.dec false) (DStep.dec_inv false)
abbrev oStep := cL true 7 (DStep.enc true) (DStep.dec true) (DStep.dec_inv true)
abbrev cTx := cT (DTx.enc false) (DTx.dec false) (DTx.dec_inv false)
abbrev lTx := cL false 10 (DTx.enc false) (DTx.dec false) (DTx.dec_inv false)
abbrev oTx := cL true 10 (DTx.enc true) (DTx.dec true) (DTx.dec_inv true)
abbrev cJournal := cT (DJournal.enc false) (DJournal.dec false) (DJournal.dec_inv false)
abbrev lJournal := cL false 2 (DJournal.enc false) (DJournal.dec false) (DJournal.dec_inv false)
abbrev oJournal := cL true 2 (DJournal.enc true) (DJournal.dec true) (DJournal.dec_inv true)
abbrev cSlot := cT (DSlot.enc false) (DSlot.dec false) (DSlot.dec_inv false)
abbrev lSlot := cL false 3 (DSlot.enc false) (DSlot.dec false) (DSlot.dec_inv false)
abbrev oSlot := cL true 3 (DSlot.enc true) (DSlot.dec true) (DSlot.dec_inv true)
abbrev cDisk := cT (DDisk.enc false) (DDisk.dec false) (DDisk.dec_inv false)
abbrev lDisk := cL false 3 (DDisk.enc false) (DDisk.dec false) (DDisk.dec_inv false)
abbrev oDisk := cL true 3 (DDisk.enc true) (DDisk.dec true) (DDisk.dec_inv true)
abbrev cEntry := cT (DEntry.enc false) (DEntry.dec false) (DEntry.dec_inv false)
abbrev lEntry := cL false 8 (DEntry.enc false) (DEntry.dec false) (DEntry.dec_inv false)
abbrev oEntry := cL true 8 (DEntry.enc true) (DEntry.dec true) (DEntry.dec_inv true)
abbrev cKernel := cT (DKernel.enc false) (DKernel.dec false) (DKernel.dec_inv false)
abbrev lKernel := cL false 11 (DKernel.enc false) (DKernel.dec false) (DKernel.dec_inv false)
abbrev oKernel := cL true 11 (DKernel.enc true) (DKernel.dec true) (DKernel.dec_inv true)
abbrev cAct := cT (DAct.enc false) (DAct.dec false) (DAct.dec_inv false)
abbrev lAct := cL false 9 (DAct.enc false) (DAct.dec false) (DAct.dec_inv false)
abbrev oAct := cL true 9 (DAct.enc true) (DAct.dec true) (DAct.dec_inv true)
abbrev lI := cL false 1 (encI false) (decI false) (decI_inv false)
abbrev lS := cL false 1 (encS false) (decS false) (decS_inv false)
abbrev oI := cL true 1 (encI true) (decI true) (decI_inv true)
abbrev oS := cL true 1 (encS true) (decS true) (decS_inv true)
end Go.Mv
