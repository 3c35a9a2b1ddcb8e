import Derived.Test.YtipbmacpenmgoaaMc
/- The functions for the plain machine (printed by gen2.py). -/
namespace Go.Proofs.Ytipbmacpenmgoaa.AM
open Go
set_option maxRecDepth 100000
set_option linter.unusedSimpArgs false
set_option linter.unusedVariables false
def bs (l : List Nat) : ByteArray := ⟨(l.map UInt8.ofNat).toArray⟩
def gl : Nat → Option (List Value) := fun _ => none
/- tollhouse/tollhouselaw11.LogRecords -/
def F3 : AFn := ⟨71, true, 3, [.tmp 6], .seq
 (.reg [⟨some 6, .move (.cst (.bool false)), none⟩])
 (.seq
 (.reg [⟨some 17, .move (.tmp 0), none⟩,
  ⟨some 18, .move (.tmp 1), none⟩,
  ⟨some 19, .call (.cst (.func (.func 6) [] [])) [(.tmp 17), (.tmp 18)], none⟩,
  ⟨some 16, .move (.tmp 19), none⟩,
  ⟨some 20, .extract (.tmp 16) 0, none⟩,
  ⟨some 21, .extract (.tmp 16) 1, none⟩,
  ⟨some 7, .move (.tmp 20), none⟩,
  ⟨some 8, .move (.tmp 21), none⟩])
 (.seq
 (.reg [⟨some 23, .move (.tmp 0), none⟩,
  ⟨some 24, .move (.tmp 1), none⟩,
  ⟨some 25, .call (.cst (.func (.func 7) [] [])) [(.tmp 23), (.tmp 24)], none⟩,
  ⟨some 22, .move (.tmp 25), none⟩,
  ⟨some 26, .extract (.tmp 22) 0, none⟩,
  ⟨some 27, .extract (.tmp 22) 1, none⟩,
  ⟨some 9, .move (.tmp 26), none⟩,
  ⟨some 10, .move (.tmp 27), none⟩])
 (.seq
 (.reg [⟨some 28, .buildSlice none (.int .u8 0) 0 [], none⟩,
  ⟨some 29, .move (.tmp 2), none⟩,
  ⟨some 30, .append none 1 (.tmp 28) (.tmp 29), none⟩,
  ⟨some 11, .move (.tmp 30), none⟩])
 (.seq
 (.reg [⟨some 32, .move (.tmp 11), none⟩,
  ⟨some 33, .call (.cst (.func (.func 8) [] [])) [(.tmp 32)], none⟩,
  ⟨some 31, .move (.tmp 33), none⟩,
  ⟨some 34, .extract (.tmp 31) 0, none⟩,
  ⟨some 35, .extract (.tmp 31) 1, none⟩,
  ⟨some 12, .move (.tmp 34), none⟩,
  ⟨some 13, .move (.tmp 35), none⟩])
 (.seq
 (.reg [⟨some 37, .move (.tmp 2), none⟩,
  ⟨some 38, .call (.cst (.func (.func 9) [] [])) [(.tmp 37)], none⟩,
  ⟨some 36, .move (.tmp 38), none⟩,
  ⟨some 39, .extract (.tmp 36) 0, none⟩,
  ⟨some 40, .extract (.tmp 36) 1, none⟩,
  ⟨some 14, .move (.tmp 39), none⟩,
  ⟨some 15, .move (.tmp 40), none⟩])
 (.seq
 (.reg [⟨some 41, .call (.cst (.func (.func 10) [] [])) [], none⟩,
  ⟨some 42, .move (.tmp 41), none⟩,
  ⟨some 43, .move (.tmp 7), some (42, true)⟩,
  ⟨some 44, .convStr (.tmp 43), some (42, true)⟩,
  ⟨some 45, .move (.tmp 9), some (42, true)⟩,
  ⟨some 46, .convStr (.tmp 45), some (42, true)⟩,
  ⟨some 47, .bin .eql (.tmp 44) (.tmp 46), some (42, true)⟩,
  ⟨some 48, .pick (.tmp 42) (.tmp 47) (.cst (.bool false)), none⟩,
  ⟨some 49, .move (.tmp 48), none⟩,
  ⟨some 50, .move (.tmp 8), some (49, true)⟩,
  ⟨some 51, .move (.tmp 10), some (49, true)⟩,
  ⟨some 52, .bin .eql (.tmp 50) (.tmp 51), some (49, true)⟩,
  ⟨some 53, .pick (.tmp 49) (.tmp 52) (.cst (.bool false)), none⟩,
  ⟨some 54, .move (.tmp 53), none⟩,
  ⟨some 55, .move (.tmp 12), some (54, true)⟩,
  ⟨some 56, .move (.tmp 14), some (54, true)⟩,
  ⟨some 57, .call (.cst (.func (.func 11) [] [])) [(.tmp 55), (.tmp 56)], some (54, true)⟩,
  ⟨some 58, .pick (.tmp 54) (.tmp 57) (.cst (.bool false)), none⟩,
  ⟨some 59, .move (.tmp 58), none⟩,
  ⟨some 60, .move (.tmp 13), some (59, true)⟩,
  ⟨some 61, .move (.tmp 15), some (59, true)⟩,
  ⟨some 62, .bin .eql (.tmp 60) (.tmp 61), some (59, true)⟩,
  ⟨some 63, .pick (.tmp 59) (.tmp 62) (.cst (.bool false)), none⟩,
  ⟨some 64, .move (.tmp 63), none⟩,
  ⟨some 65, .move (.tmp 11), some (64, true)⟩,
  ⟨some 66, .convStr (.tmp 65), some (64, true)⟩,
  ⟨some 67, .move (.tmp 2), some (64, true)⟩,
  ⟨some 68, .convStr (.tmp 67), some (64, true)⟩,
  ⟨some 69, .bin .eql (.tmp 66) (.tmp 68), some (64, true)⟩,
  ⟨some 70, .pick (.tmp 64) (.tmp 69) (.cst (.bool false)), none⟩,
  ⟨some 6, .move (.tmp 70), none⟩])
 (.ret)))))))⟩
theorem c3 : compF Try.prog gl true [] [] Try.f3 = some F3 := by kernel_rfl
def L4_0 : AC := .seq
 (.seq
 (.reg [⟨some 61, .move (.tmp 14), none⟩,
  ⟨some 62, .move (.tmp 6), none⟩,
  ⟨some 63, .len (.tmp 62), none⟩,
  ⟨some 64, .bin .lss (.tmp 61) (.tmp 63), none⟩])
 (.cond (.tmp 64)
 (.skip)
 (.exit 2)))
 (.seq
 (.block 3
 (.seq
 (.reg [⟨some 67, .move (.tmp 6), none⟩,
  ⟨some 68, .move (.tmp 14), none⟩,
  ⟨some 69, .indexAddr .slice none (.tmp 67) (.tmp 68), none⟩,
  ⟨some 70, .load none (.tmp 69), none⟩,
  ⟨some 71, .move (.tmp 10), none⟩,
  ⟨some 72, .bin .leq (.tmp 70) (.tmp 71), none⟩])
 (.cond (.tmp 72)
 (.reg [⟨some 73, .move (.tmp 13), none⟩,
  ⟨some 74, .bin .add (.tmp 73) (.cst (.int .i64 1)), none⟩,
  ⟨some 13, .move (.tmp 74), none⟩])
 (.skip))))
 (.reg [⟨some 65, .move (.tmp 14), none⟩,
  ⟨some 66, .bin .add (.tmp 65) (.cst (.int .i64 1)), none⟩,
  ⟨some 14, .move (.tmp 66), none⟩]))
def L4_1 : AC := .seq
 (.seq
 (.reg [⟨some 15, .move (.tmp 7), none⟩,
  ⟨some 16, .move (.tmp 0), none⟩,
  ⟨some 17, .len (.tmp 16), none⟩,
  ⟨some 18, .bin .lss (.tmp 15) (.tmp 17), none⟩,
  ⟨some 19, .move (.tmp 18), none⟩,
  ⟨some 20, .move (.tmp 7), some (19, true)⟩,
  ⟨some 21, .bin .lss (.tmp 20) (.cst (.int .i64 50)), some (19, true)⟩,
  ⟨some 22, .pick (.tmp 19) (.tmp 21) (.cst (.bool false)), none⟩])
 (.cond (.tmp 22)
 (.skip)
 (.exit 0)))
 (.seq
 (.block 1
 (.seq
 (.reg [⟨some 26, .move (.tmp 7), none⟩,
  ⟨some 27, .move (.tmp 0), none⟩,
  ⟨some 28, .move (.tmp 7), none⟩,
  ⟨some 29, .indexAddr .slice none (.tmp 27) (.tmp 28), none⟩,
  ⟨some 30, .load none (.tmp 29), none⟩,
  ⟨some 31, .call (.cst (.func (.func 7) [] [])) [(.tmp 26), (.tmp 30)], none⟩,
  ⟨some 25, .move (.tmp 31), none⟩,
  ⟨some 32, .extract (.tmp 25) 0, none⟩,
  ⟨some 33, .extract (.tmp 25) 1, none⟩,
  ⟨some 8, .move (.tmp 32), none⟩,
  ⟨some 9, .move (.tmp 33), none⟩])
 (.seq
 (.seq
 (.reg [⟨some 34, .move (.tmp 9), none⟩,
  ⟨some 35, .bin .neq (.tmp 34) (.cst (.int .i64 0)), none⟩])
 (.cond (.tmp 35)
 (.seq
 (.reg [⟨some 36, .call (.cst (.func (.func 10) [] [])) [], none⟩,
  ⟨some 4, .move (.tmp 36), none⟩])
 (.ret))
 (.skip)))
 (.seq
 (.reg [⟨some 37, .move (.tmp 5), none⟩,
  ⟨some 38, .move (.tmp 8), none⟩,
  ⟨some 39, .append none 1 (.tmp 37) (.tmp 38), none⟩,
  ⟨some 5, .move (.tmp 39), none⟩])
 (.reg [⟨some 40, .move (.tmp 6), none⟩,
  ⟨some 41, .move (.tmp 5), none⟩,
  ⟨some 42, .len (.tmp 41), none⟩,
  ⟨some 43, .buildSlice none (.int .i64 0) 1 [(0, (.tmp 42))], none⟩,
  ⟨some 44, .append none 8 (.tmp 40) (.tmp 43), none⟩,
  ⟨some 6, .move (.tmp 44), none⟩])))))
 (.reg [⟨some 23, .move (.tmp 7), none⟩,
  ⟨some 24, .bin .add (.tmp 23) (.cst (.int .i64 1)), none⟩,
  ⟨some 7, .move (.tmp 24), none⟩]))
/- tollhouse/tollhouselaw11.LogTorn -/
def F4 : AFn := ⟨110, true, 2, [.tmp 4], .seq
 (.reg [⟨some 4, .move (.cst (.bool false)), none⟩])
 (.seq
 (.reg [⟨some 5, .acc none (.cst .nil), none⟩])
 (.seq
 (.reg [⟨some 6, .acc none (.cst .nil), none⟩])
 (.seq
 (.seq
 (.reg [⟨some 7, .move (.cst (.int .i64 0)), none⟩])
 (.block 0
 (.loop [0, 1, 5, 6, 7] false L4_1)))
 (.seq
 (.reg [⟨some 45, .move (.tmp 1), none⟩,
  ⟨some 46, .move (.tmp 5), none⟩,
  ⟨some 47, .len (.tmp 46), none⟩,
  ⟨some 48, .bin .add (.tmp 47) (.cst (.int .i64 1)), none⟩,
  ⟨some 49, .bin .rem (.tmp 45) (.tmp 48), none⟩,
  ⟨some 10, .move (.tmp 49), none⟩])
 (.seq
 (.seq
 (.reg [⟨some 50, .move (.tmp 10), none⟩,
  ⟨some 51, .bin .lss (.tmp 50) (.cst (.int .i64 0)), none⟩])
 (.cond (.tmp 51)
 (.reg [⟨some 52, .move (.tmp 10), none⟩,
  ⟨some 53, .un .neg (.tmp 52), none⟩,
  ⟨some 10, .move (.tmp 53), none⟩])
 (.skip)))
 (.seq
 (.reg [⟨some 55, .move (.tmp 5), none⟩,
  ⟨some 56, .move (.tmp 10), none⟩,
  ⟨some 57, .slice .slice none (.tmp 55) none (some (.tmp 56)) none, none⟩,
  ⟨some 58, .call (.cst (.func (.func 8) [] [])) [(.tmp 57)], none⟩,
  ⟨some 54, .move (.tmp 58), none⟩,
  ⟨some 59, .extract (.tmp 54) 0, none⟩,
  ⟨some 60, .extract (.tmp 54) 1, none⟩,
  ⟨some 11, .move (.tmp 59), none⟩,
  ⟨some 12, .move (.tmp 60), none⟩])
 (.seq
 (.reg [⟨some 13, .move (.cst (.int .i64 0)), none⟩])
 (.seq
 (.seq
 (.reg [⟨some 14, .move (.cst (.int .i64 0)), none⟩])
 (.block 2
 (.loop [0, 6, 10, 11, 12, 13, 14] false L4_0)))
 (.seq
 (.reg [⟨some 75, .call (.cst (.func (.func 10) [] [])) [], none⟩,
  ⟨some 76, .move (.tmp 75), none⟩,
  ⟨some 77, .move (.tmp 11), some (76, true)⟩,
  ⟨some 78, .len (.tmp 77), some (76, true)⟩,
  ⟨some 79, .move (.tmp 13), some (76, true)⟩,
  ⟨some 80, .bin .eql (.tmp 78) (.tmp 79), some (76, true)⟩,
  ⟨some 81, .pick (.tmp 76) (.tmp 80) (.cst (.bool false)), none⟩,
  ⟨some 82, .move (.tmp 81), none⟩,
  ⟨some 83, .move (.tmp 11), some (82, true)⟩,
  ⟨some 84, .move (.tmp 0), some (82, true)⟩,
  ⟨some 85, .move (.tmp 13), some (82, true)⟩,
  ⟨some 86, .slice .slice none (.tmp 84) none (some (.tmp 85)) none, some (82, true)⟩,
  ⟨some 87, .call (.cst (.func (.func 11) [] [])) [(.tmp 83), (.tmp 86)], some (82, true)⟩,
  ⟨some 88, .pick (.tmp 82) (.tmp 87) (.cst (.bool false)), none⟩,
  ⟨some 89, .move (.tmp 88), none⟩,
  ⟨some 90, .move (.tmp 13), some (89, true)⟩,
  ⟨some 91, .bin .eql (.tmp 90) (.cst (.int .i64 0)), some (89, true)⟩,
  ⟨some 92, .move (.tmp 91), some (89, true)⟩,
  ⟨some 93, .move (.tmp 12), some (92, true)⟩,
  ⟨some 94, .bin .eql (.tmp 93) (.cst (.int .i64 0)), some (92, true)⟩,
  ⟨some 95, .pick (.tmp 92) (.tmp 94) (.cst (.bool false)), some (89, true)⟩,
  ⟨some 96, .move (.tmp 95), some (89, true)⟩,
  ⟨some 97, .move (.tmp 13), some (96, false)⟩,
  ⟨some 98, .bin .gtr (.tmp 97) (.cst (.int .i64 0)), some (96, false)⟩,
  ⟨some 99, .move (.tmp 98), some (96, false)⟩,
  ⟨some 100, .move (.tmp 12), some (99, true)⟩,
  ⟨some 101, .move (.tmp 6), some (99, true)⟩,
  ⟨some 102, .move (.tmp 13), some (99, true)⟩,
  ⟨some 103, .bin .sub (.tmp 102) (.cst (.int .i64 1)), some (99, true)⟩,
  ⟨some 104, .indexAddr .slice none (.tmp 101) (.tmp 103), some (99, true)⟩,
  ⟨some 105, .load none (.tmp 104), some (99, true)⟩,
  ⟨some 106, .bin .eql (.tmp 100) (.tmp 105), some (99, true)⟩,
  ⟨some 107, .pick (.tmp 99) (.tmp 106) (.cst (.bool false)), some (96, false)⟩,
  ⟨some 108, .pick (.tmp 96) (.cst (.bool true)) (.tmp 107), some (89, true)⟩,
  ⟨some 109, .pick (.tmp 89) (.tmp 108) (.cst (.bool false)), none⟩,
  ⟨some 4, .move (.tmp 109), none⟩])
 (.ret))))))))))⟩
theorem c4 : compF Try.prog gl true [(6, none), (5, none)] [([0, 1, 5, 6, 7], false), ([0, 6, 10, 11, 12, 13, 14], false)] Try.f4 = some F4 := by kernel_rfl
/- tollhouse/tollhouselaw11.LogNobody -/
def F5 : AFn := ⟨34, true, 1, [.tmp 2], .seq
 (.reg [⟨some 1, .box (.tmp 0), none⟩,
  ⟨some 2, .move (.cst (.bool false)), none⟩])
 (.seq
 (.reg [⟨some 3, .move (.cst (.sc (.pointer none))), none⟩])
 (.seq
 (.reg [⟨some 4, .call (.cst (.func (.func 10) [] [])) [], none⟩,
  ⟨some 5, .move (.tmp 4), none⟩,
  ⟨some 6, .move (.tmp 3), some (5, true)⟩,
  ⟨some 7, .fieldAddr 1 1 (.tmp 1), some (5, true)⟩,
  ⟨some 8, .load none (.tmp 7), some (5, true)⟩,
  ⟨some 9, .call (.cst (.func (.func 12) [] [])) [(.tmp 6), (.tmp 8)], some (5, true)⟩,
  ⟨some 10, .bin .eql (.tmp 9) (.cst (.int .i64 6)), some (5, true)⟩,
  ⟨some 11, .pick (.tmp 5) (.tmp 10) (.cst (.bool false)), none⟩,
  ⟨some 12, .move (.tmp 11), none⟩,
  ⟨some 13, .move (.tmp 3), some (12, true)⟩,
  ⟨some 14, .call (.cst (.func (.func 13) [] [])) [(.tmp 13)], some (12, true)⟩,
  ⟨some 15, .bin .eql (.tmp 14) (.cst (.int .i64 6)), some (12, true)⟩,
  ⟨some 16, .pick (.tmp 12) (.tmp 15) (.cst (.bool false)), none⟩,
  ⟨some 17, .move (.tmp 16), none⟩,
  ⟨some 18, .move (.tmp 3), some (17, true)⟩,
  ⟨some 19, .fieldAddr 2 1 (.tmp 1), some (17, true)⟩,
  ⟨some 20, .load none (.tmp 19), some (17, true)⟩,
  ⟨some 21, .call (.cst (.func (.func 14) [] [])) [(.tmp 18), (.tmp 20)], some (17, true)⟩,
  ⟨some 22, .bin .eql (.tmp 21) (.cst (.int .i64 6)), some (17, true)⟩,
  ⟨some 23, .pick (.tmp 17) (.tmp 22) (.cst (.bool false)), none⟩,
  ⟨some 24, .move (.tmp 23), none⟩,
  ⟨some 25, .move (.tmp 3), some (24, true)⟩,
  ⟨some 26, .call (.cst (.func (.func 15) [] [])) [(.tmp 25)], some (24, true)⟩,
  ⟨some 27, .bin .eql (.tmp 26) (.cst (.int .i64 0)), some (24, true)⟩,
  ⟨some 28, .pick (.tmp 24) (.tmp 27) (.cst (.bool false)), none⟩,
  ⟨some 29, .move (.tmp 28), none⟩,
  ⟨some 30, .move (.tmp 3), some (29, true)⟩,
  ⟨some 31, .call (.cst (.func (.func 16) [] [])) [(.tmp 30)], some (29, true)⟩,
  ⟨some 32, .bin .eql (.tmp 31) (.cst (.int .i64 0)), some (29, true)⟩,
  ⟨some 33, .pick (.tmp 29) (.tmp 32) (.cst (.bool false)), none⟩,
  ⟨some 2, .move (.tmp 33), none⟩])
 (.ret)))⟩
theorem c5 : compF Try.prog gl true [] [] Try.f5 = some F5 := by kernel_rfl
/- tollhouse/log.Record -/
def F6 : AFn := ⟨28, true, 2, [.tmp 4, .tmp 5], .seq
 (.reg [⟨some 4, .move (.cst .nil), none⟩,
  ⟨some 5, .move (.cst (.int .i64 0)), none⟩])
 (.seq
 (.block 0
 (.seq
 (.reg [⟨some 8, .move (.tmp 1), none⟩,
  ⟨some 9, .len (.tmp 8), none⟩,
  ⟨some 10, .bin .gtr (.tmp 9) (.cst (.int .i64 65536)), none⟩,
  ⟨some 7, .move (.tmp 10), none⟩])
 (.cond (.tmp 7)
 (.seq
 (.reg [⟨some 4, .move (.cst .nil), none⟩,
  ⟨some 5, .move (.cst (.int .i64 3)), none⟩])
 (.ret))
 (.seq
 (.reg [⟨some 12, .move (.tmp 0), none⟩,
  ⟨some 13, .bin .lss (.tmp 12) (.cst (.int .i64 0)), none⟩,
  ⟨some 11, .move (.tmp 13), none⟩])
 (.cond (.tmp 11)
 (.seq
 (.reg [⟨some 4, .move (.cst .nil), none⟩,
  ⟨some 5, .move (.cst (.int .i64 1)), none⟩])
 (.ret))
 (.skip))))))
 (.seq
 (.reg [⟨some 14, .buildSlice none (.int .u8 0) 3 [(0, (.cst (.int .u8 108))), (1, (.cst (.int .u8 111))), (2, (.cst (.int .u8 103)))], none⟩,
  ⟨some 15, .move (.tmp 14), none⟩,
  ⟨some 16, .move (.tmp 0), none⟩,
  ⟨some 17, .call (.cst (.func (.func 18) [] [])) [(.cst (.int .i64 8)), (.tmp 16)], none⟩,
  ⟨some 18, .move (.tmp 1), none⟩,
  ⟨some 19, .buildSlice none .nil 3 [(0, (.tmp 15)), (1, (.tmp 17)), (2, (.tmp 18))], none⟩,
  ⟨some 20, .call (.cst (.func (.func 17) [] [])) [(.tmp 19)], none⟩,
  ⟨some 6, .alloc [(.int .u8 0), (.int .u8 0), (.int .u8 0), (.int .u8 0), (.int .u8 0), (.int .u8 0), (.int .u8 0), (.int .u8 0), (.int .u8 0), (.int .u8 0), (.int .u8 0), (.int .u8 0), (.int .u8 0), (.int .u8 0), (.int .u8 0), (.int .u8 0), (.int .u8 0), (.int .u8 0), (.int .u8 0), (.int .u8 0), (.int .u8 0), (.int .u8 0), (.int .u8 0), (.int .u8 0), (.int .u8 0), (.int .u8 0), (.int .u8 0), (.int .u8 0), (.int .u8 0), (.int .u8 0), (.int .u8 0), (.int .u8 0)], none⟩,
  ⟨none, .store 32 (.tmp 6) (.tmp 20), none⟩])
 (.seq
 (.regD [⟨some 21, .move (.tmp 1), none⟩,
  ⟨some 22, .len (.tmp 21), none⟩,
  ⟨some 23, .call (.cst (.func (.func 18) [] [])) [(.cst (.int .i64 4)), (.tmp 22)], none⟩,
  ⟨some 24, .slice (.arr 32) none (.tmp 6) none (some (.cst (.int .i64 8))) none, none⟩,
  ⟨some 25, .move (.tmp 1), none⟩,
  ⟨some 26, .buildSlice none .nil 3 [(0, (.tmp 23)), (1, (.tmp 24)), (2, (.tmp 25))], none⟩,
  ⟨some 27, .call (.cst (.func (.func 19) [] [])) [(.tmp 26)], none⟩,
  ⟨some 4, .move (.tmp 27), none⟩,
  ⟨some 5, .move (.cst (.int .i64 0)), none⟩] [(0, 0), (0, 0), (0, 0), (0, 1), (0, 1), (1, 1), (1, 1), (2, 2), (2, 2)])
 (.ret))))⟩
theorem c6 : compF Try.prog gl true [] [] Try.f6 = some F6 := by kernel_rfl
/- tollhouse/tollhouseref11.Record -/
def F7 : AFn := ⟨42, true, 2, [.tmp 4, .tmp 5], .seq
 (.reg [⟨some 4, .move (.cst .nil), none⟩,
  ⟨some 5, .move (.cst (.int .i64 0)), none⟩])
 (.seq
 (.seq
 (.reg [⟨some 9, .move (.tmp 1), none⟩,
  ⟨some 10, .len (.tmp 9), none⟩,
  ⟨some 11, .bin .gtr (.tmp 10) (.cst (.int .i64 65536)), none⟩])
 (.cond (.tmp 11)
 (.seq
 (.reg [⟨some 4, .move (.cst .nil), none⟩,
  ⟨some 5, .move (.cst (.int .i64 3)), none⟩])
 (.ret))
 (.skip)))
 (.seq
 (.seq
 (.reg [⟨some 12, .move (.tmp 0), none⟩,
  ⟨some 13, .bin .lss (.tmp 12) (.cst (.int .i64 0)), none⟩])
 (.cond (.tmp 13)
 (.seq
 (.reg [⟨some 4, .move (.cst .nil), none⟩,
  ⟨some 5, .move (.cst (.int .i64 1)), none⟩])
 (.ret))
 (.skip)))
 (.seq
 (.reg [⟨some 14, .move (.tmp 1), none⟩,
  ⟨some 15, .len (.tmp 14), none⟩,
  ⟨some 6, .move (.tmp 15), none⟩])
 (.seq
 (.reg [⟨some 16, .buildSlice none (.int .u8 0) 3 [(0, (.cst (.int .u8 108))), (1, (.cst (.int .u8 111))), (2, (.cst (.int .u8 103)))], none⟩,
  ⟨some 17, .move (.tmp 16), none⟩,
  ⟨some 18, .move (.tmp 0), none⟩,
  ⟨some 19, .convInt .u64 (.tmp 18), none⟩,
  ⟨some 20, .call (.cst (.func (.func 21) [] [])) [(.tmp 19)], none⟩,
  ⟨some 21, .append none 1 (.tmp 17) (.tmp 20), none⟩,
  ⟨some 22, .move (.tmp 1), none⟩,
  ⟨some 23, .append none 1 (.tmp 21) (.tmp 22), none⟩,
  ⟨some 24, .call (.cst (.func (.func 20) [] [])) [(.tmp 23)], none⟩,
  ⟨some 7, .alloc [(.int .u8 0), (.int .u8 0), (.int .u8 0), (.int .u8 0), (.int .u8 0), (.int .u8 0), (.int .u8 0), (.int .u8 0), (.int .u8 0), (.int .u8 0), (.int .u8 0), (.int .u8 0), (.int .u8 0), (.int .u8 0), (.int .u8 0), (.int .u8 0), (.int .u8 0), (.int .u8 0), (.int .u8 0), (.int .u8 0), (.int .u8 0), (.int .u8 0), (.int .u8 0), (.int .u8 0), (.int .u8 0), (.int .u8 0), (.int .u8 0), (.int .u8 0), (.int .u8 0), (.int .u8 0), (.int .u8 0), (.int .u8 0)], none⟩,
  ⟨none, .store 32 (.tmp 7) (.tmp 24), none⟩])
 (.seq
 (.reg [⟨some 25, .move (.tmp 6), none⟩,
  ⟨some 26, .convInt .u8 (.tmp 25), none⟩,
  ⟨some 27, .move (.tmp 6), none⟩,
  ⟨some 28, .bin .shr (.tmp 27) (.cst (.int .u64 8)), none⟩,
  ⟨some 29, .convInt .u8 (.tmp 28), none⟩,
  ⟨some 30, .move (.tmp 6), none⟩,
  ⟨some 31, .bin .shr (.tmp 30) (.cst (.int .u64 16)), none⟩,
  ⟨some 32, .convInt .u8 (.tmp 31), none⟩,
  ⟨some 33, .move (.tmp 6), none⟩,
  ⟨some 34, .bin .shr (.tmp 33) (.cst (.int .u64 24)), none⟩,
  ⟨some 35, .convInt .u8 (.tmp 34), none⟩,
  ⟨some 36, .buildSlice none (.int .u8 0) 4 [(0, (.tmp 26)), (1, (.tmp 29)), (2, (.tmp 32)), (3, (.tmp 35))], none⟩,
  ⟨some 37, .slice (.arr 32) none (.tmp 7) none (some (.cst (.int .i64 8))) none, none⟩,
  ⟨some 38, .append none 1 (.tmp 36) (.tmp 37), none⟩,
  ⟨some 8, .move (.tmp 38), none⟩])
 (.seq
 (.reg [⟨some 39, .move (.tmp 8), none⟩,
  ⟨some 40, .move (.tmp 1), none⟩,
  ⟨some 41, .append none 1 (.tmp 39) (.tmp 40), none⟩,
  ⟨some 4, .move (.tmp 41), none⟩,
  ⟨some 5, .move (.cst (.int .i64 0)), none⟩])
 (.ret)))))))⟩
theorem c7 : compF Try.prog gl true [] [] Try.f7 = some F7 := by kernel_rfl
def L8_0 : AC := .block 1
 (.seq
 (.reg [⟨some 9, .move (.tmp 4), none⟩,
  ⟨some 10, .len (.tmp 9), none⟩,
  ⟨some 11, .move (.tmp 0), none⟩,
  ⟨some 12, .move (.tmp 5), none⟩,
  ⟨some 13, .slice .slice none (.tmp 11) (some (.tmp 12)) none none, none⟩,
  ⟨some 14, .call (.cst (.func (.func 22) [] [])) [(.tmp 10), (.tmp 13)], none⟩,
  ⟨some 8, .move (.tmp 14), none⟩,
  ⟨some 15, .extract (.tmp 8) 0, none⟩,
  ⟨some 16, .extract (.tmp 8) 1, none⟩,
  ⟨some 6, .move (.tmp 15), none⟩,
  ⟨some 7, .move (.tmp 16), none⟩])
 (.seq
 (.seq
 (.reg [⟨some 17, .move (.tmp 7), none⟩,
  ⟨some 18, .un .not (.tmp 17), none⟩])
 (.cond (.tmp 18)
 (.seq
 (.reg [⟨some 19, .move (.tmp 4), none⟩,
  ⟨some 20, .move (.tmp 5), none⟩,
  ⟨some 2, .move (.tmp 19), none⟩,
  ⟨some 3, .move (.tmp 20), none⟩])
 (.ret))
 (.skip)))
 (.seq
 (.reg [⟨some 21, .move (.tmp 4), none⟩,
  ⟨some 22, .move (.tmp 6), none⟩,
  ⟨some 23, .call (.cst (.func (.func 23) [] [])) [(.tmp 22)], none⟩,
  ⟨some 24, .buildSlice none .nil 1 [(0, (.tmp 23))], none⟩,
  ⟨some 25, .append none 24 (.tmp 21) (.tmp 24), none⟩,
  ⟨some 4, .move (.tmp 25), none⟩])
 (.reg [⟨some 26, .move (.tmp 5), none⟩,
  ⟨some 27, .move (.tmp 6), none⟩,
  ⟨some 28, .len (.tmp 27), none⟩,
  ⟨some 29, .bin .add (.cst (.int .i64 12)) (.tmp 28), none⟩,
  ⟨some 30, .bin .add (.tmp 26) (.tmp 29), none⟩,
  ⟨some 5, .move (.tmp 30), none⟩]))))
/- tollhouse/log.Scan -/
def F8 : AFn := ⟨31, true, 1, [.tmp 2, .tmp 3], .seq
 (.reg [⟨some 2, .move (.cst .nil), none⟩,
  ⟨some 3, .move (.cst (.int .i64 0)), none⟩])
 (.seq
 (.reg [⟨some 4, .acc none (.cst .nil), none⟩])
 (.seq
 (.reg [⟨some 5, .move (.cst (.int .i64 0)), none⟩])
 (.block 0
 (.loop [0, 4, 5] false L8_0))))⟩
theorem c8 : compF Try.prog gl true [(4, none)] [([0, 4, 5], false)] Try.f8 = some F8 := by kernel_rfl
def L9_0 : AC := .seq
 (.seq
 (.reg [⟨some 9, .move (.tmp 0), none⟩,
  ⟨some 10, .len (.tmp 9), none⟩,
  ⟨some 11, .move (.tmp 5), none⟩,
  ⟨some 12, .bin .sub (.tmp 10) (.tmp 11), none⟩,
  ⟨some 13, .bin .geq (.tmp 12) (.cst (.int .i64 12)), none⟩])
 (.cond (.tmp 13)
 (.skip)
 (.exit 0)))
 (.block 1
 (.seq
 (.regQ [⟨some 14, .move (.tmp 0), none⟩,
  ⟨some 15, .move (.tmp 5), none⟩,
  ⟨some 16, .indexAddr .slice none (.tmp 14) (.tmp 15), none⟩,
  ⟨some 17, .load none (.tmp 16), none⟩,
  ⟨some 18, .convInt .i64 (.tmp 17), none⟩,
  ⟨some 19, .move (.tmp 0), none⟩,
  ⟨some 20, .move (.tmp 5), none⟩,
  ⟨some 21, .bin .add (.tmp 20) (.cst (.int .i64 1)), none⟩,
  ⟨some 22, .indexAddr .slice none (.tmp 19) (.tmp 21), none⟩,
  ⟨some 23, .load none (.tmp 22), none⟩,
  ⟨some 24, .convInt .i64 (.tmp 23), none⟩,
  ⟨some 25, .bin .shl (.tmp 24) (.cst (.int .u64 8)), none⟩,
  ⟨some 26, .bin .or (.tmp 18) (.tmp 25), none⟩,
  ⟨some 27, .move (.tmp 0), none⟩,
  ⟨some 28, .move (.tmp 5), none⟩,
  ⟨some 29, .bin .add (.tmp 28) (.cst (.int .i64 2)), none⟩,
  ⟨some 30, .indexAddr .slice none (.tmp 27) (.tmp 29), none⟩,
  ⟨some 31, .load none (.tmp 30), none⟩,
  ⟨some 32, .convInt .i64 (.tmp 31), none⟩,
  ⟨some 33, .bin .shl (.tmp 32) (.cst (.int .u64 16)), none⟩,
  ⟨some 34, .bin .or (.tmp 26) (.tmp 33), none⟩,
  ⟨some 35, .move (.tmp 0), none⟩,
  ⟨some 36, .move (.tmp 5), none⟩,
  ⟨some 37, .bin .add (.tmp 36) (.cst (.int .i64 3)), none⟩,
  ⟨some 38, .indexAddr .slice none (.tmp 35) (.tmp 37), none⟩,
  ⟨some 39, .load none (.tmp 38), none⟩,
  ⟨some 40, .convInt .i64 (.tmp 39), none⟩,
  ⟨some 41, .bin .shl (.tmp 40) (.cst (.int .u64 24)), none⟩,
  ⟨some 42, .bin .or (.tmp 34) (.tmp 41), none⟩,
  ⟨some 6, .move (.tmp 42), none⟩])
 (.seq
 (.seq
 (.reg [⟨some 43, .move (.tmp 6), none⟩,
  ⟨some 44, .bin .gtr (.tmp 43) (.cst (.int .i64 65536)), none⟩,
  ⟨some 45, .move (.tmp 44), none⟩,
  ⟨some 46, .move (.tmp 6), some (45, false)⟩,
  ⟨some 47, .move (.tmp 0), some (45, false)⟩,
  ⟨some 48, .len (.tmp 47), some (45, false)⟩,
  ⟨some 49, .move (.tmp 5), some (45, false)⟩,
  ⟨some 50, .bin .sub (.tmp 48) (.tmp 49), some (45, false)⟩,
  ⟨some 51, .bin .sub (.tmp 50) (.cst (.int .i64 12)), some (45, false)⟩,
  ⟨some 52, .bin .gtr (.tmp 46) (.tmp 51), some (45, false)⟩,
  ⟨some 53, .pick (.tmp 45) (.cst (.bool true)) (.tmp 52), none⟩])
 (.cond (.tmp 53)
 (.exit 0)
 (.skip)))
 (.seq
 (.reg [⟨some 55, .move (.tmp 4), none⟩,
  ⟨some 56, .len (.tmp 55), none⟩,
  ⟨some 57, .move (.tmp 0), none⟩,
  ⟨some 58, .move (.tmp 5), none⟩,
  ⟨some 59, .bin .add (.tmp 58) (.cst (.int .i64 12)), none⟩,
  ⟨some 60, .move (.tmp 5), none⟩,
  ⟨some 61, .bin .add (.tmp 60) (.cst (.int .i64 12)), none⟩,
  ⟨some 62, .move (.tmp 6), none⟩,
  ⟨some 63, .bin .add (.tmp 61) (.tmp 62), none⟩,
  ⟨some 64, .slice .slice none (.tmp 57) (some (.tmp 59)) (some (.tmp 63)) none, none⟩,
  ⟨some 65, .call (.cst (.func (.func 7) [] [])) [(.tmp 56), (.tmp 64)], none⟩,
  ⟨some 54, .move (.tmp 65), none⟩,
  ⟨some 66, .extract (.tmp 54) 0, none⟩,
  ⟨some 67, .extract (.tmp 54) 1, none⟩,
  ⟨some 7, .move (.tmp 66), none⟩,
  ⟨some 8, .move (.tmp 67), none⟩])
 (.seq
 (.seq
 (.regQ [⟨some 68, .move (.tmp 7), none⟩,
  ⟨some 69, .convStr (.tmp 68), none⟩,
  ⟨some 70, .move (.tmp 0), none⟩,
  ⟨some 71, .move (.tmp 5), none⟩,
  ⟨some 72, .move (.tmp 5), none⟩,
  ⟨some 73, .bin .add (.tmp 72) (.cst (.int .i64 12)), none⟩,
  ⟨some 74, .move (.tmp 6), none⟩,
  ⟨some 75, .bin .add (.tmp 73) (.tmp 74), none⟩,
  ⟨some 76, .slice .slice none (.tmp 70) (some (.tmp 71)) (some (.tmp 75)) none, none⟩,
  ⟨some 77, .convStr (.tmp 76), none⟩,
  ⟨some 78, .bin .neq (.tmp 69) (.tmp 77), none⟩])
 (.cond (.tmp 78)
 (.exit 0)
 (.skip)))
 (.seq
 (.reg [⟨some 79, .move (.tmp 4), none⟩,
  ⟨some 80, .buildSlice none (.int .u8 0) 0 [], none⟩,
  ⟨some 81, .move (.tmp 0), none⟩,
  ⟨some 82, .move (.tmp 5), none⟩,
  ⟨some 83, .bin .add (.tmp 82) (.cst (.int .i64 12)), none⟩,
  ⟨some 84, .move (.tmp 5), none⟩,
  ⟨some 85, .bin .add (.tmp 84) (.cst (.int .i64 12)), none⟩,
  ⟨some 86, .move (.tmp 6), none⟩,
  ⟨some 87, .bin .add (.tmp 85) (.tmp 86), none⟩,
  ⟨some 88, .slice .slice none (.tmp 81) (some (.tmp 83)) (some (.tmp 87)) none, none⟩,
  ⟨some 89, .append none 1 (.tmp 80) (.tmp 88), none⟩,
  ⟨some 90, .buildSlice none .nil 1 [(0, (.tmp 89))], none⟩,
  ⟨some 91, .append none 24 (.tmp 79) (.tmp 90), none⟩,
  ⟨some 4, .move (.tmp 91), none⟩])
 (.reg [⟨some 92, .move (.tmp 5), none⟩,
  ⟨some 93, .bin .add (.tmp 92) (.cst (.int .i64 12)), none⟩,
  ⟨some 94, .move (.tmp 6), none⟩,
  ⟨some 95, .bin .add (.tmp 93) (.tmp 94), none⟩,
  ⟨some 5, .move (.tmp 95), none⟩])))))))
/- tollhouse/tollhouseref11.Scan -/
def F9 : AFn := ⟨98, true, 1, [.tmp 2, .tmp 3], .seq
 (.reg [⟨some 2, .move (.cst .nil), none⟩,
  ⟨some 3, .move (.cst (.int .i64 0)), none⟩])
 (.seq
 (.reg [⟨some 4, .acc none (.cst .nil), none⟩])
 (.seq
 (.reg [⟨some 5, .move (.cst (.int .i64 0)), none⟩])
 (.seq
 (.block 0
 (.loop [0, 4, 5] true L9_0))
 (.seq
 (.reg [⟨some 96, .move (.tmp 4), none⟩,
  ⟨some 97, .move (.tmp 5), none⟩,
  ⟨some 2, .move (.tmp 96), none⟩,
  ⟨some 3, .move (.tmp 97), none⟩])
 (.ret)))))⟩
theorem c9 : compF Try.prog gl true [(4, none)] [([0, 4, 5], true)] Try.f9 = some F9 := by kernel_rfl
/- tollhouse/tollhouselaw11.lives -/
def F10 : AFn := ⟨103, true, 0, [.tmp 0], .seq
 (.reg [⟨some 0, .move (.cst (.bool false)), none⟩])
 (.seq
 (.reg [⟨some 14, .call (.cst (.func (.func 24) [] [])) [(.cst (.int .i64 1000))], none⟩,
  ⟨some 13, .move (.tmp 14), none⟩,
  ⟨some 15, .extract (.tmp 13) 0, none⟩,
  ⟨some 16, .extract (.tmp 13) 1, none⟩,
  ⟨some 1, .move (.tmp 15), none⟩,
  ⟨some 2, .move (.tmp 16), none⟩])
 (.seq
 (.reg [⟨some 18, .move (.tmp 1), none⟩,
  ⟨some 19, .call (.cst (.func (.func 25) [] [])) [(.tmp 18), (.cst (.sc (.string (bs [108]))))], none⟩,
  ⟨some 17, .move (.tmp 19), none⟩,
  ⟨some 20, .extract (.tmp 17) 0, none⟩,
  ⟨some 21, .extract (.tmp 17) 1, none⟩,
  ⟨some 22, .extract (.tmp 17) 2, none⟩,
  ⟨some 3, .move (.tmp 20), none⟩,
  ⟨some 4, .move (.tmp 21), none⟩,
  ⟨some 5, .move (.tmp 22), none⟩])
 (.seq
 (.seq
 (.reg [⟨some 23, .move (.tmp 2), none⟩,
  ⟨some 24, .bin .neq (.tmp 23) (.cst (.int .i64 0)), none⟩,
  ⟨some 25, .move (.tmp 24), none⟩,
  ⟨some 26, .move (.tmp 5), some (25, false)⟩,
  ⟨some 27, .bin .neq (.tmp 26) (.cst (.int .i64 0)), some (25, false)⟩,
  ⟨some 28, .pick (.tmp 25) (.cst (.bool true)) (.tmp 27), none⟩,
  ⟨some 29, .move (.tmp 28), none⟩,
  ⟨some 30, .move (.tmp 3), some (29, false)⟩,
  ⟨some 31, .eqNil false .ptr (.tmp 30), some (29, false)⟩,
  ⟨some 32, .pick (.tmp 29) (.cst (.bool true)) (.tmp 31), none⟩,
  ⟨some 33, .move (.tmp 32), none⟩,
  ⟨some 34, .move (.tmp 4), some (33, false)⟩,
  ⟨some 35, .len (.tmp 34), some (33, false)⟩,
  ⟨some 36, .bin .neq (.tmp 35) (.cst (.int .i64 0)), some (33, false)⟩,
  ⟨some 37, .pick (.tmp 33) (.cst (.bool true)) (.tmp 36), none⟩])
 (.cond (.tmp 37)
 (.seq
 (.reg [⟨some 0, .move (.cst (.bool false)), none⟩])
 (.ret))
 (.skip)))
 (.seq
 (.reg [⟨some 38, .move (.tmp 3), none⟩,
  ⟨some 39, .buildSlice none (.int .u8 0) 2 [(0, (.cst (.int .u8 97))), (1, (.cst (.int .u8 98)))], none⟩,
  ⟨some 40, .move (.tmp 39), none⟩,
  ⟨some 41, .call (.cst (.func (.func 12) [] [])) [(.tmp 38), (.tmp 40)], none⟩,
  ⟨some 42, .move (.tmp 3), none⟩,
  ⟨some 43, .buildSlice none (.int .u8 0) 1 [(0, (.cst (.int .u8 99)))], none⟩,
  ⟨some 44, .move (.tmp 43), none⟩,
  ⟨some 45, .call (.cst (.func (.func 12) [] [])) [(.tmp 42), (.tmp 44)], none⟩,
  ⟨some 6, .move (.tmp 41), none⟩,
  ⟨some 7, .move (.tmp 45), none⟩])
 (.seq
 (.reg [⟨some 46, .move (.tmp 1), none⟩,
  ⟨some 47, .call (.cst (.func (.func 26) [] [])) [(.tmp 46), (.cst (.int .i64 1)), (.cst (.int .i64 9))], none⟩])
 (.seq
 (.reg [⟨some 49, .move (.tmp 1), none⟩,
  ⟨some 50, .call (.cst (.func (.func 25) [] [])) [(.tmp 49), (.cst (.sc (.string (bs [108]))))], none⟩,
  ⟨some 48, .move (.tmp 50), none⟩,
  ⟨some 51, .extract (.tmp 48) 0, none⟩,
  ⟨some 52, .extract (.tmp 48) 1, none⟩,
  ⟨some 53, .extract (.tmp 48) 2, none⟩,
  ⟨some 8, .move (.tmp 51), none⟩,
  ⟨some 9, .move (.tmp 52), none⟩,
  ⟨some 10, .move (.tmp 53), none⟩])
 (.seq
 (.reg [⟨some 55, .call (.cst (.func (.func 6) [] [])) [(.cst (.int .i64 0)), (.cst .nil)], none⟩,
  ⟨some 54, .move (.tmp 55), none⟩,
  ⟨some 56, .extract (.tmp 54) 0, none⟩,
  ⟨some 57, .extract (.tmp 54) 1, none⟩,
  ⟨some 11, .move (.tmp 56), none⟩,
  ⟨some 12, .move (.tmp 57), none⟩])
 (.seq
 (.reg [⟨some 58, .move (.tmp 6), none⟩,
  ⟨some 59, .bin .eql (.tmp 58) (.cst (.int .i64 0)), none⟩,
  ⟨some 60, .move (.tmp 59), none⟩,
  ⟨some 61, .move (.tmp 7), some (60, true)⟩,
  ⟨some 62, .bin .eql (.tmp 61) (.cst (.int .i64 0)), some (60, true)⟩,
  ⟨some 63, .pick (.tmp 60) (.tmp 62) (.cst (.bool false)), none⟩,
  ⟨some 64, .move (.tmp 63), none⟩,
  ⟨some 65, .move (.tmp 10), some (64, true)⟩,
  ⟨some 66, .bin .eql (.tmp 65) (.cst (.int .i64 0)), some (64, true)⟩,
  ⟨some 67, .pick (.tmp 64) (.tmp 66) (.cst (.bool false)), none⟩,
  ⟨some 68, .move (.tmp 67), none⟩,
  ⟨some 69, .move (.tmp 12), some (68, true)⟩,
  ⟨some 70, .bin .eql (.tmp 69) (.cst (.int .i64 0)), some (68, true)⟩,
  ⟨some 71, .pick (.tmp 68) (.tmp 70) (.cst (.bool false)), none⟩,
  ⟨some 72, .move (.tmp 71), none⟩,
  ⟨some 73, .move (.tmp 8), some (72, true)⟩,
  ⟨some 74, .eqNil true .ptr (.tmp 73), some (72, true)⟩,
  ⟨some 75, .pick (.tmp 72) (.tmp 74) (.cst (.bool false)), none⟩,
  ⟨some 76, .move (.tmp 75), none⟩,
  ⟨some 77, .move (.tmp 9), some (76, true)⟩,
  ⟨some 78, .len (.tmp 77), some (76, true)⟩,
  ⟨some 79, .bin .eql (.tmp 78) (.cst (.int .i64 1)), some (76, true)⟩,
  ⟨some 80, .pick (.tmp 76) (.tmp 79) (.cst (.bool false)), none⟩,
  ⟨some 81, .move (.tmp 80), none⟩,
  ⟨some 82, .move (.tmp 9), some (81, true)⟩,
  ⟨some 83, .indexAddr .slice none (.tmp 82) (.cst (.int .i64 0)), some (81, true)⟩,
  ⟨some 84, .load none (.tmp 83), some (81, true)⟩,
  ⟨some 85, .convStr (.tmp 84), some (81, true)⟩,
  ⟨some 86, .bin .eql (.tmp 85) (.cst (.sc (.string (bs [97, 98])))), some (81, true)⟩,
  ⟨some 87, .pick (.tmp 81) (.tmp 86) (.cst (.bool false)), none⟩,
  ⟨some 88, .move (.tmp 87), none⟩,
  ⟨some 89, .move (.tmp 8), some (88, true)⟩,
  ⟨some 90, .call (.cst (.func (.func 15) [] [])) [(.tmp 89)], some (88, true)⟩,
  ⟨some 91, .bin .eql (.tmp 90) (.cst (.int .i64 1)), some (88, true)⟩,
  ⟨some 92, .pick (.tmp 88) (.tmp 91) (.cst (.bool false)), none⟩,
  ⟨some 93, .move (.tmp 92), none⟩,
  ⟨some 94, .move (.tmp 8), some (93, true)⟩,
  ⟨some 95, .call (.cst (.func (.func 16) [] [])) [(.tmp 94)], some (93, true)⟩,
  ⟨some 96, .bin .eql (.tmp 95) (.cst (.int .i64 14)), some (93, true)⟩,
  ⟨some 97, .pick (.tmp 93) (.tmp 96) (.cst (.bool false)), none⟩,
  ⟨some 98, .move (.tmp 97), none⟩,
  ⟨some 99, .move (.tmp 11), some (98, true)⟩,
  ⟨some 100, .len (.tmp 99), some (98, true)⟩,
  ⟨some 101, .bin .eql (.tmp 100) (.cst (.int .i64 12)), some (98, true)⟩,
  ⟨some 102, .pick (.tmp 98) (.tmp 101) (.cst (.bool false)), none⟩,
  ⟨some 0, .move (.tmp 102), none⟩])
 (.ret)))))))))⟩
theorem c10 : compF Try.prog gl true [] [] Try.f10 = some F10 := by kernel_rfl
def L11_0 : AC := .seq
 (.seq
 (.reg [⟨some 11, .move (.tmp 5), none⟩,
  ⟨some 12, .move (.tmp 0), none⟩,
  ⟨some 13, .len (.tmp 12), none⟩,
  ⟨some 14, .bin .lss (.tmp 11) (.tmp 13), none⟩])
 (.cond (.tmp 14)
 (.skip)
 (.exit 0)))
 (.seq
 (.block 1
 (.seq
 (.regD [⟨some 17, .move (.tmp 0), none⟩,
  ⟨some 18, .move (.tmp 5), none⟩,
  ⟨some 19, .indexAddr .slice none (.tmp 17) (.tmp 18), none⟩,
  ⟨some 20, .load none (.tmp 19), none⟩,
  ⟨some 21, .convStr (.tmp 20), none⟩,
  ⟨some 22, .move (.tmp 1), none⟩,
  ⟨some 23, .move (.tmp 5), none⟩,
  ⟨some 24, .indexAddr .slice none (.tmp 22) (.tmp 23), none⟩,
  ⟨some 25, .load none (.tmp 24), none⟩,
  ⟨some 26, .convStr (.tmp 25), none⟩,
  ⟨some 27, .bin .neq (.tmp 21) (.tmp 26), none⟩] [(0, 0), (0, 0), (0, 0), (0, 0), (0, 0), (0, 0), (0, 0), (0, 0), (0, 0), (0, 0), (0, 0)])
 (.cond (.tmp 27)
 (.seq
 (.reg [⟨some 4, .move (.cst (.bool false)), none⟩])
 (.ret))
 (.skip))))
 (.reg [⟨some 15, .move (.tmp 5), none⟩,
  ⟨some 16, .bin .add (.tmp 15) (.cst (.int .i64 1)), none⟩,
  ⟨some 5, .move (.tmp 16), none⟩]))
/- tollhouse/tollhouselaw11.Same -/
def F11 : AFn := ⟨28, true, 2, [.tmp 4], .seq
 (.reg [⟨some 4, .move (.cst (.bool false)), none⟩])
 (.seq
 (.seq
 (.reg [⟨some 6, .move (.tmp 0), none⟩,
  ⟨some 7, .len (.tmp 6), none⟩,
  ⟨some 8, .move (.tmp 1), none⟩,
  ⟨some 9, .len (.tmp 8), none⟩,
  ⟨some 10, .bin .neq (.tmp 7) (.tmp 9), none⟩])
 (.cond (.tmp 10)
 (.seq
 (.reg [⟨some 4, .move (.cst (.bool false)), none⟩])
 (.ret))
 (.skip)))
 (.seq
 (.seq
 (.reg [⟨some 5, .move (.cst (.int .i64 0)), none⟩])
 (.block 0
 (.loop [0, 1, 5] true L11_0)))
 (.seq
 (.reg [⟨some 4, .move (.cst (.bool true)), none⟩])
 (.ret))))⟩
theorem c11 : compF Try.prog gl true [] [([0, 1, 5], true)] Try.f11 = some F11 := by kernel_rfl
/- (*tollhouse/log.Log).Append -/
def F12 : AFn := ⟨8, false, 2, [.tmp 4], .seq
 (.reg [⟨some 2, .box (.tmp 0), none⟩,
  ⟨some 3, .box (.tmp 1), none⟩,
  ⟨some 4, .move (.cst (.int .i64 0)), none⟩])
 (.seq
 (.reg [⟨some 5, .load none (.tmp 2), none⟩,
  ⟨some 6, .makeFunc (.func 28) [] [(.tmp 2), (.tmp 3)], none⟩,
  ⟨some 7, .call (.cst (.func (.func 27) [] [])) [(.tmp 5), (.tmp 6)], none⟩,
  ⟨some 4, .move (.tmp 7), none⟩])
 (.ret))⟩
theorem c12 : compF Try.prog gl false [] [] Try.f12 = some F12 := by kernel_rfl
/- (*tollhouse/log.Log).Sync -/
def F13 : AFn := ⟨6, false, 1, [.tmp 2], .seq
 (.reg [⟨some 1, .box (.tmp 0), none⟩,
  ⟨some 2, .move (.cst (.int .i64 0)), none⟩])
 (.seq
 (.reg [⟨some 3, .load none (.tmp 1), none⟩,
  ⟨some 4, .makeFunc (.func 30) [] [(.tmp 1)], none⟩,
  ⟨some 5, .call (.cst (.func (.func 27) [] [])) [(.tmp 3), (.tmp 4)], none⟩,
  ⟨some 2, .move (.tmp 5), none⟩])
 (.ret))⟩
theorem c13 : compF Try.prog gl false [] [] Try.f13 = some F13 := by kernel_rfl
/- (*tollhouse/log.Log).Rewrite -/
def F14 : AFn := ⟨8, false, 2, [.tmp 4], .seq
 (.reg [⟨some 2, .box (.tmp 0), none⟩,
  ⟨some 3, .box (.tmp 1), none⟩,
  ⟨some 4, .move (.cst (.int .i64 0)), none⟩])
 (.seq
 (.reg [⟨some 5, .load none (.tmp 2), none⟩,
  ⟨some 6, .makeFunc (.func 32) [] [(.tmp 3), (.tmp 2)], none⟩,
  ⟨some 7, .call (.cst (.func (.func 27) [] [])) [(.tmp 5), (.tmp 6)], none⟩,
  ⟨some 4, .move (.tmp 7), none⟩])
 (.ret))⟩
theorem c14 : compF Try.prog gl false [] [] Try.f14 = some F14 := by kernel_rfl
/- (*tollhouse/log.Log).Len -/
def F15 : AFn := ⟨9, false, 1, [.tmp 2], .seq
 (.reg [⟨some 2, .move (.cst (.int .i64 0)), none⟩])
 (.seq
 (.seq
 (.reg [⟨some 3, .move (.tmp 0), none⟩,
  ⟨some 4, .eqNil false .ptr (.tmp 3), none⟩])
 (.cond (.tmp 4)
 (.seq
 (.reg [⟨some 2, .move (.cst (.int .i64 0)), none⟩])
 (.ret))
 (.skip)))
 (.seq
 (.reg [⟨some 5, .move (.tmp 0), none⟩,
  ⟨some 6, .nilCheck (.tmp 5), none⟩,
  ⟨some 7, .fieldAddr 2 1 (.tmp 6), none⟩,
  ⟨some 8, .load none (.tmp 7), none⟩,
  ⟨some 2, .move (.tmp 8), none⟩])
 (.ret)))⟩
theorem c15 : compF Try.prog gl false [] [] Try.f15 = some F15 := by kernel_rfl
/- (*tollhouse/log.Log).Size -/
def F16 : AFn := ⟨9, false, 1, [.tmp 2], .seq
 (.reg [⟨some 2, .move (.cst (.int .i64 0)), none⟩])
 (.seq
 (.seq
 (.reg [⟨some 3, .move (.tmp 0), none⟩,
  ⟨some 4, .eqNil false .ptr (.tmp 3), none⟩])
 (.cond (.tmp 4)
 (.seq
 (.reg [⟨some 2, .move (.cst (.int .i64 0)), none⟩])
 (.ret))
 (.skip)))
 (.seq
 (.reg [⟨some 5, .move (.tmp 0), none⟩,
  ⟨some 6, .nilCheck (.tmp 5), none⟩,
  ⟨some 7, .fieldAddr 3 1 (.tmp 6), none⟩,
  ⟨some 8, .load none (.tmp 7), none⟩,
  ⟨some 2, .move (.tmp 8), none⟩])
 (.ret)))⟩
theorem c16 : compF Try.prog gl false [] [] Try.f16 = some F16 := by kernel_rfl
/- tollhouse/keccak.Sum -/
def F17 : AFn := ⟨13, true, 1, [.cell 2 (some 32)], .seq
 (.reg [⟨some 2, .alloc [(.int .u8 0), (.int .u8 0), (.int .u8 0), (.int .u8 0), (.int .u8 0), (.int .u8 0), (.int .u8 0), (.int .u8 0), (.int .u8 0), (.int .u8 0), (.int .u8 0), (.int .u8 0), (.int .u8 0), (.int .u8 0), (.int .u8 0), (.int .u8 0), (.int .u8 0), (.int .u8 0), (.int .u8 0), (.int .u8 0), (.int .u8 0), (.int .u8 0), (.int .u8 0), (.int .u8 0), (.int .u8 0), (.int .u8 0), (.int .u8 0), (.int .u8 0), (.int .u8 0), (.int .u8 0), (.int .u8 0), (.int .u8 0)], none⟩])
 (.seq
 (.reg [⟨some 3, .alloc [(.int .u8 0), (.int .u8 0), (.int .u8 0), (.int .u8 0), (.int .u8 0), (.int .u8 0), (.int .u8 0), (.int .u8 0), (.int .u8 0), (.int .u8 0), (.int .u8 0), (.int .u8 0), (.int .u8 0), (.int .u8 0), (.int .u8 0), (.int .u8 0), (.int .u8 0), (.int .u8 0), (.int .u8 0), (.int .u8 0), (.int .u8 0), (.int .u8 0), (.int .u8 0), (.int .u8 0), (.int .u8 0), (.int .u8 0), (.int .u8 0), (.int .u8 0), (.int .u8 0), (.int .u8 0), (.int .u8 0), (.int .u8 0)], none⟩])
 (.seq
 (.reg [⟨some 5, .call (.cst (.func (.func 39) [] [])) [(.cst (.int .i64 136))], none⟩,
  ⟨some 4, .move (.tmp 5), none⟩])
 (.seq
 (.reg [⟨some 6, .move (.tmp 4), none⟩,
  ⟨some 7, .move (.tmp 0), none⟩,
  ⟨some 8, .call (.cst (.func (.func 40) [] [])) [(.tmp 6), (.tmp 7), (.cst (.int .u8 6))], none⟩])
 (.seq
 (.reg [⟨some 9, .move (.tmp 4), none⟩,
  ⟨some 10, .slice (.arr 32) none (.tmp 3) none none none, none⟩,
  ⟨some 11, .call (.cst (.func (.func 41) [] [])) [(.tmp 9), (.tmp 10)], none⟩])
 (.seq
 (.reg [⟨some 12, .load (some 32) (.tmp 3), none⟩,
  ⟨none, .store 32 (.tmp 2) (.tmp 12), none⟩])
 (.ret))))))⟩
theorem c17 : compF Try.prog gl true [] [] Try.f17 = some F17 := by kernel_rfl
def L18_0 : AC := .seq
 (.reg [⟨some 12, .bin .lss (.tmp 11) (.tmp 10), none⟩])
 (.seq
 (.cond (.tmp 12)
 (.skip)
 (.exit 0))
 (.seq
 (.block 1
 (.seq
 (.reg [⟨some 13, .move (.tmp 11), none⟩,
  ⟨some 6, .move (.tmp 13), none⟩])
 (.reg [⟨some 14, .move (.tmp 5), none⟩,
  ⟨some 15, .move (.tmp 6), none⟩,
  ⟨some 16, .move (.tmp 1), none⟩,
  ⟨some 17, .move (.tmp 6), none⟩,
  ⟨some 18, .bin .mul (.cst (.int .i64 8)) (.tmp 17), none⟩,
  ⟨some 19, .bin .shr (.tmp 16) (.tmp 18), none⟩,
  ⟨some 20, .convInt .u8 (.tmp 19), none⟩,
  ⟨some 21, .indexAddr .slice none (.tmp 14) (.tmp 15), none⟩,
  ⟨none, .store 1 (.tmp 21) (.tmp 20), none⟩])))
 (.reg [⟨some 22, .bin .add (.tmp 11) (.cst (.int .i64 1)), none⟩,
  ⟨some 11, .move (.tmp 22), none⟩])))
/- tollhouse/log.low -/
def F18 : AFn := ⟨24, true, 2, [.tmp 4], .seq
 (.reg [⟨some 4, .move (.cst .nil), none⟩])
 (.seq
 (.reg [⟨some 7, .move (.tmp 0), none⟩,
  ⟨some 8, .makeSlice none [(.int .u8 0)] 1 (.tmp 7) (.tmp 7), none⟩,
  ⟨some 5, .move (.tmp 8), none⟩])
 (.seq
 (.seq
 (.reg [⟨some 9, .move (.tmp 5), none⟩,
  ⟨some 10, .len (.tmp 9), none⟩,
  ⟨some 11, .move (.cst (.int .i64 0)), none⟩])
 (.block 0
 (.loop [1, 5, 10, 11] true L18_0)))
 (.seq
 (.reg [⟨some 23, .move (.tmp 5), none⟩,
  ⟨some 4, .move (.tmp 23), none⟩])
 (.ret))))⟩
theorem c18 : compF Try.prog gl true [] [([1, 5, 10, 11], true)] Try.f18 = some F18 := by kernel_rfl
def L19_0 : AC := .seq
 (.reg [⟨some 28, .bin .lss (.tmp 27) (.tmp 26), none⟩])
 (.seq
 (.cond (.tmp 28)
 (.skip)
 (.exit 2))
 (.seq
 (.block 3
 (.seq
 (.reg [⟨some 29, .indexAddr .slice none (.tmp 25) (.tmp 27), none⟩,
  ⟨some 30, .load none (.tmp 29), none⟩,
  ⟨some 8, .move (.tmp 30), none⟩])
 (.reg [⟨some 31, .move (.tmp 6), none⟩,
  ⟨some 32, .move (.tmp 8), none⟩,
  ⟨some 33, .append none 1 (.tmp 31) (.tmp 32), none⟩,
  ⟨some 6, .move (.tmp 33), none⟩])))
 (.reg [⟨some 34, .bin .add (.tmp 27) (.cst (.int .i64 1)), none⟩,
  ⟨some 27, .move (.tmp 34), none⟩])))
def L19_1 : AC := .seq
 (.reg [⟨some 12, .bin .lss (.tmp 11) (.tmp 10), none⟩])
 (.seq
 (.cond (.tmp 12)
 (.skip)
 (.exit 0))
 (.seq
 (.block 1
 (.seq
 (.reg [⟨some 13, .indexAddr .slice none (.tmp 9) (.tmp 11), none⟩,
  ⟨some 14, .load none (.tmp 13), none⟩,
  ⟨some 5, .move (.tmp 14), none⟩])
 (.seq
 (.reg [⟨some 15, .move (.tmp 3), none⟩,
  ⟨some 16, .move (.tmp 5), none⟩,
  ⟨some 17, .len (.tmp 16), none⟩,
  ⟨some 18, .bin .add (.tmp 15) (.tmp 17), none⟩,
  ⟨some 3, .move (.tmp 18), none⟩])
 (.seq
 (.reg [⟨some 19, .move (.tmp 3), none⟩,
  ⟨some 20, .bin .lss (.tmp 19) (.cst (.int .i64 0)), none⟩])
 (.cond (.tmp 20)
 (.reg [⟨some 21, .stuck, none⟩,
  ⟨none, .stuck, none⟩])
 (.skip))))))
 (.reg [⟨some 22, .bin .add (.tmp 11) (.cst (.int .i64 1)), none⟩,
  ⟨some 11, .move (.tmp 22), none⟩])))
/- slices.Concat[[]byte,byte] -/
def F19 : AFn := ⟨36, false, 1, [.tmp 2], .seq
 (.reg [⟨some 2, .move (.cst .nil), none⟩])
 (.seq
 (.reg [⟨some 3, .move (.cst (.int .i64 0)), none⟩])
 (.seq
 (.seq
 (.reg [⟨some 9, .move (.tmp 0), none⟩,
  ⟨some 10, .len (.tmp 9), none⟩,
  ⟨some 11, .move (.cst (.int .i64 0)), none⟩])
 (.block 0
 (.loop [0, 3, 9, 10, 11] true L19_1)))
 (.seq
 (.reg [⟨some 23, .move (.tmp 3), none⟩,
  ⟨some 24, .call (.cst (.func (.func 42) [] [])) [(.cst .nil), (.tmp 23)], none⟩,
  ⟨some 6, .move (.tmp 24), none⟩])
 (.seq
 (.seq
 (.reg [⟨some 25, .move (.tmp 0), none⟩,
  ⟨some 26, .len (.tmp 25), none⟩,
  ⟨some 27, .move (.cst (.int .i64 0)), none⟩])
 (.block 2
 (.loop [6, 25, 26, 27] true L19_0)))
 (.seq
 (.reg [⟨some 35, .move (.tmp 6), none⟩,
  ⟨some 2, .move (.tmp 35), none⟩])
 (.ret))))))⟩
theorem c19 : compF Try.prog gl false [] [([0, 3, 9, 10, 11], true), ([6, 25, 26, 27], true)] Try.f19 = some F19 := by kernel_rfl
def L20_0 : AC := .seq
 (.seq
 (.reg [⟨some 8, .move (.tmp 5), none⟩,
  ⟨some 9, .bin .lss (.tmp 8) (.cst (.int .i64 32)), none⟩])
 (.cond (.tmp 9)
 (.skip)
 (.exit 0)))
 (.seq
 (.block 1
 (.reg [⟨some 12, .move (.tmp 5), none⟩,
  ⟨some 13, .move (.tmp 4), none⟩,
  ⟨some 14, .move (.tmp 5), none⟩,
  ⟨some 15, .indexAddr .slice none (.tmp 13) (.tmp 14), none⟩,
  ⟨some 16, .load none (.tmp 15), none⟩,
  ⟨some 17, .indexAddr (.arr 32) none (.tmp 3) (.tmp 12), none⟩,
  ⟨none, .store 1 (.tmp 17) (.tmp 16), none⟩]))
 (.reg [⟨some 10, .move (.tmp 5), none⟩,
  ⟨some 11, .bin .add (.tmp 10) (.cst (.int .i64 1)), none⟩,
  ⟨some 5, .move (.tmp 11), none⟩]))
/- tollhouse/tollhouseref03.Sum -/
def F20 : AFn := ⟨19, true, 1, [.cell 2 (some 32)], .seq
 (.reg [⟨some 2, .alloc [(.int .u8 0), (.int .u8 0), (.int .u8 0), (.int .u8 0), (.int .u8 0), (.int .u8 0), (.int .u8 0), (.int .u8 0), (.int .u8 0), (.int .u8 0), (.int .u8 0), (.int .u8 0), (.int .u8 0), (.int .u8 0), (.int .u8 0), (.int .u8 0), (.int .u8 0), (.int .u8 0), (.int .u8 0), (.int .u8 0), (.int .u8 0), (.int .u8 0), (.int .u8 0), (.int .u8 0), (.int .u8 0), (.int .u8 0), (.int .u8 0), (.int .u8 0), (.int .u8 0), (.int .u8 0), (.int .u8 0), (.int .u8 0)], none⟩])
 (.seq
 (.reg [⟨some 3, .alloc [(.int .u8 0), (.int .u8 0), (.int .u8 0), (.int .u8 0), (.int .u8 0), (.int .u8 0), (.int .u8 0), (.int .u8 0), (.int .u8 0), (.int .u8 0), (.int .u8 0), (.int .u8 0), (.int .u8 0), (.int .u8 0), (.int .u8 0), (.int .u8 0), (.int .u8 0), (.int .u8 0), (.int .u8 0), (.int .u8 0), (.int .u8 0), (.int .u8 0), (.int .u8 0), (.int .u8 0), (.int .u8 0), (.int .u8 0), (.int .u8 0), (.int .u8 0), (.int .u8 0), (.int .u8 0), (.int .u8 0), (.int .u8 0)], none⟩])
 (.seq
 (.reg [⟨some 6, .move (.tmp 0), none⟩,
  ⟨some 7, .call (.cst (.func (.func 43) [] [])) [(.cst (.int .i64 32)), (.cst (.int .i64 136)), (.cst (.int .u8 6)), (.tmp 6)], none⟩,
  ⟨some 4, .move (.tmp 7), none⟩])
 (.seq
 (.seq
 (.reg [⟨some 5, .move (.cst (.int .i64 0)), none⟩])
 (.block 0
 (.loop [2, 3, 4, 5] true L20_0)))
 (.seq
 (.reg [⟨some 18, .load (some 32) (.tmp 3), none⟩,
  ⟨none, .store 32 (.tmp 2) (.tmp 18), none⟩])
 (.ret)))))⟩
theorem c20 : compF Try.prog gl true [] [([2, 3, 4, 5], true)] Try.f20 = some F20 := by kernel_rfl
def L21_0 : AC := .seq
 (.seq
 (.reg [⟨some 5, .move (.tmp 4), none⟩,
  ⟨some 6, .bin .lss (.tmp 5) (.cst (.int .i64 8)), none⟩])
 (.cond (.tmp 6)
 (.skip)
 (.exit 0)))
 (.seq
 (.block 1
 (.reg [⟨some 9, .move (.tmp 3), none⟩,
  ⟨some 10, .move (.tmp 0), none⟩,
  ⟨some 11, .move (.tmp 4), none⟩,
  ⟨some 12, .bin .mul (.cst (.int .i64 8)) (.tmp 11), none⟩,
  ⟨some 13, .bin .shr (.tmp 10) (.tmp 12), none⟩,
  ⟨some 14, .convInt .u8 (.tmp 13), none⟩,
  ⟨some 15, .buildSlice none (.int .u8 0) 1 [(0, (.tmp 14))], none⟩,
  ⟨some 16, .append none 1 (.tmp 9) (.tmp 15), none⟩,
  ⟨some 3, .move (.tmp 16), none⟩]))
 (.reg [⟨some 7, .move (.tmp 4), none⟩,
  ⟨some 8, .bin .add (.tmp 7) (.cst (.int .i64 1)), none⟩,
  ⟨some 4, .move (.tmp 8), none⟩]))
/- tollhouse/tollhouseref04.Bytes -/
def F21 : AFn := ⟨18, true, 1, [.tmp 2], .seq
 (.reg [⟨some 2, .move (.cst .nil), none⟩])
 (.seq
 (.reg [⟨some 3, .acc none (.cst .nil), none⟩])
 (.seq
 (.seq
 (.reg [⟨some 4, .move (.cst (.int .i64 0)), none⟩])
 (.block 0
 (.loop [0, 3, 4] true L21_0)))
 (.seq
 (.reg [⟨some 17, .move (.tmp 3), none⟩,
  ⟨some 2, .move (.tmp 17), none⟩])
 (.ret))))⟩
theorem c21 : compF Try.prog gl true [(3, none)] [([0, 3, 4], true)] Try.f21 = some F21 := by kernel_rfl
def L22_0 : AC := .seq
 (.reg [⟨some 19, .bin .lss (.tmp 18) (.tmp 17), none⟩])
 (.seq
 (.cond (.tmp 19)
 (.skip)
 (.exit 0))
 (.seq
 (.block 1
 (.seq
 (.reg [⟨some 20, .move (.tmp 18), none⟩,
  ⟨some 21, .indexAddr .slice none (.tmp 16) (.tmp 18), none⟩,
  ⟨some 22, .load none (.tmp 21), none⟩,
  ⟨some 7, .move (.tmp 20), none⟩,
  ⟨some 8, .move (.tmp 22), none⟩])
 (.reg [⟨some 23, .move (.tmp 6), none⟩,
  ⟨some 24, .move (.tmp 8), none⟩,
  ⟨some 25, .convInt .i64 (.tmp 24), none⟩,
  ⟨some 26, .move (.tmp 7), none⟩,
  ⟨some 27, .bin .mul (.cst (.int .i64 8)) (.tmp 26), none⟩,
  ⟨some 28, .bin .shl (.tmp 25) (.tmp 27), none⟩,
  ⟨some 29, .bin .or (.tmp 23) (.tmp 28), none⟩,
  ⟨some 6, .move (.tmp 29), none⟩])))
 (.reg [⟨some 30, .bin .add (.tmp 18) (.cst (.int .i64 1)), none⟩,
  ⟨some 18, .move (.tmp 30), none⟩])))
/- tollhouse/log.first -/
def F22 : AFn := ⟨57, true, 2, [.tmp 4, .tmp 5], .seq
 (.reg [⟨some 4, .move (.cst .nil), none⟩,
  ⟨some 5, .move (.cst (.bool false)), none⟩])
 (.seq
 (.seq
 (.reg [⟨some 12, .move (.tmp 1), none⟩,
  ⟨some 13, .len (.tmp 12), none⟩,
  ⟨some 14, .bin .lss (.tmp 13) (.cst (.int .i64 12)), none⟩])
 (.cond (.tmp 14)
 (.seq
 (.reg [⟨some 4, .move (.cst .nil), none⟩,
  ⟨some 5, .move (.cst (.bool false)), none⟩])
 (.ret))
 (.skip)))
 (.seq
 (.reg [⟨some 6, .move (.cst (.int .i64 0)), none⟩])
 (.seq
 (.seq
 (.reg [⟨some 15, .move (.tmp 1), none⟩,
  ⟨some 16, .slice .slice none (.tmp 15) none (some (.cst (.int .i64 4))) none, none⟩,
  ⟨some 17, .len (.tmp 16), none⟩,
  ⟨some 18, .move (.cst (.int .i64 0)), none⟩])
 (.block 0
 (.loop [0, 1, 6, 16, 17, 18] true L22_0)))
 (.seq
 (.seq
 (.reg [⟨some 31, .move (.tmp 6), none⟩,
  ⟨some 32, .move (.tmp 1), none⟩,
  ⟨some 33, .len (.tmp 32), none⟩,
  ⟨some 34, .bin .sub (.tmp 33) (.cst (.int .i64 12)), none⟩,
  ⟨some 35, .bin .gtr (.tmp 31) (.tmp 34), none⟩])
 (.cond (.tmp 35)
 (.seq
 (.reg [⟨some 4, .move (.cst .nil), none⟩,
  ⟨some 5, .move (.cst (.bool false)), none⟩])
 (.ret))
 (.skip)))
 (.seq
 (.reg [⟨some 36, .move (.tmp 1), none⟩,
  ⟨some 37, .move (.tmp 6), none⟩,
  ⟨some 38, .bin .add (.cst (.int .i64 12)) (.tmp 37), none⟩,
  ⟨some 39, .slice .slice none (.tmp 36) (some (.cst (.int .i64 12))) (some (.tmp 38)) none, none⟩,
  ⟨some 9, .move (.tmp 39), none⟩])
 (.seq
 (.reg [⟨some 41, .move (.tmp 0), none⟩,
  ⟨some 42, .move (.tmp 9), none⟩,
  ⟨some 43, .call (.cst (.func (.func 6) [] [])) [(.tmp 41), (.tmp 42)], none⟩,
  ⟨some 40, .move (.tmp 43), none⟩,
  ⟨some 44, .extract (.tmp 40) 0, none⟩,
  ⟨some 45, .extract (.tmp 40) 1, none⟩,
  ⟨some 10, .move (.tmp 44), none⟩,
  ⟨some 11, .move (.tmp 45), none⟩])
 (.seq
 (.reg [⟨some 46, .move (.tmp 9), none⟩,
  ⟨some 47, .move (.tmp 11), none⟩,
  ⟨some 48, .bin .eql (.tmp 47) (.cst (.int .i64 0)), none⟩,
  ⟨some 49, .move (.tmp 48), none⟩,
  ⟨some 50, .move (.tmp 10), some (49, true)⟩,
  ⟨some 51, .move (.tmp 1), some (49, true)⟩,
  ⟨some 52, .move (.tmp 6), some (49, true)⟩,
  ⟨some 53, .bin .add (.cst (.int .i64 12)) (.tmp 52), some (49, true)⟩,
  ⟨some 54, .slice .slice none (.tmp 51) none (some (.tmp 53)) none, some (49, true)⟩,
  ⟨some 55, .call (.cst (.func (.func 44) [] [])) [(.tmp 50), (.tmp 54)], some (49, true)⟩,
  ⟨some 56, .pick (.tmp 49) (.tmp 55) (.cst (.bool false)), none⟩,
  ⟨some 4, .move (.tmp 46), none⟩,
  ⟨some 5, .move (.tmp 56), none⟩])
 (.ret))))))))⟩
theorem c22 : compF Try.prog gl true [] [([0, 1, 6, 16, 17, 18], true)] Try.f22 = some F22 := by kernel_rfl
/- slices.Clone[[]byte,byte] -/
def F23 : AFn := ⟨8, true, 1, [.tmp 2], .seq
 (.reg [⟨some 2, .move (.cst .nil), none⟩])
 (.seq
 (.seq
 (.reg [⟨some 3, .move (.tmp 0), none⟩,
  ⟨some 4, .eqNil false .slice (.tmp 3), none⟩])
 (.cond (.tmp 4)
 (.seq
 (.reg [⟨some 2, .move (.cst .nil), none⟩])
 (.ret))
 (.skip)))
 (.seq
 (.reg [⟨some 5, .buildSlice none (.int .u8 0) 0 [], none⟩,
  ⟨some 6, .move (.tmp 0), none⟩,
  ⟨some 7, .append none 1 (.tmp 5) (.tmp 6), none⟩,
  ⟨some 2, .move (.tmp 7), none⟩])
 (.ret)))⟩
theorem c23 : compF Try.prog gl true [] [] Try.f23 = some F23 := by kernel_rfl
/- tollhouse/files.New -/
def F24 : AFn := ⟨15, false, 1, [.tmp 2, .tmp 3], .seq
 (.reg [⟨some 2, .move (.cst (.sc (.pointer none))), none⟩,
  ⟨some 3, .move (.cst (.int .i64 0)), none⟩])
 (.seq
 (.seq
 (.reg [⟨some 4, .move (.tmp 0), none⟩,
  ⟨some 5, .bin .lss (.tmp 4) (.cst (.int .i64 0)), none⟩,
  ⟨some 6, .move (.tmp 5), none⟩,
  ⟨some 7, .move (.tmp 0), some (6, false)⟩,
  ⟨some 8, .bin .gtr (.tmp 7) (.cst (.int .i64 268435456)), some (6, false)⟩,
  ⟨some 9, .pick (.tmp 6) (.cst (.bool true)) (.tmp 8), none⟩])
 (.cond (.tmp 9)
 (.seq
 (.reg [⟨some 2, .move (.cst (.sc (.pointer none))), none⟩,
  ⟨some 3, .move (.cst (.int .i64 1)), none⟩])
 (.ret))
 (.skip)))
 (.seq
 (.reg [⟨some 10, .move (.tmp 0), none⟩,
  ⟨some 11, .mkMap, none⟩,
  ⟨some 12, .mkMap, none⟩,
  ⟨some 13, .build [(.int .i64 0), (.sc (.map none)), (.sc (.map none)), .nil, (.int .i64 0)] [(0, 1, (.tmp 10)), (1, 1, (.tmp 11)), (2, 1, (.tmp 12)), (4, 1, (.cst (.int .i64 (-1))))], none⟩,
  ⟨some 14, .box (.tmp 13), none⟩,
  ⟨some 2, .move (.tmp 14), none⟩,
  ⟨some 3, .move (.cst (.int .i64 0)), none⟩])
 (.ret)))⟩
theorem c24 : compF Try.prog gl false [] [] Try.f24 = some F24 := by kernel_rfl
/- tollhouse/log.Open -/
def F25 : AFn := ⟨57, false, 2, [.tmp 4, .tmp 5, .tmp 6], .seq
 (.reg [⟨some 2, .box (.tmp 0), none⟩,
  ⟨some 3, .box (.tmp 1), none⟩,
  ⟨some 4, .move (.cst (.sc (.pointer none))), none⟩,
  ⟨some 5, .move (.cst .nil), none⟩,
  ⟨some 6, .move (.cst (.int .i64 0)), none⟩])
 (.seq
 (.seq
 (.reg [⟨some 12, .load none (.tmp 2), none⟩,
  ⟨some 13, .eqNil false .ptr (.tmp 12), none⟩,
  ⟨some 14, .move (.tmp 13), none⟩,
  ⟨some 15, .load none (.tmp 3), some (14, false)⟩,
  ⟨some 16, .lenT (.tmp 15), some (14, false)⟩,
  ⟨some 17, .bin .gtr (.tmp 16) (.cst (.int .i64 28)), some (14, false)⟩,
  ⟨some 18, .pick (.tmp 14) (.cst (.bool true)) (.tmp 17), none⟩])
 (.cond (.tmp 18)
 (.seq
 (.reg [⟨some 4, .move (.cst (.sc (.pointer none))), none⟩,
  ⟨some 5, .move (.cst .nil), none⟩,
  ⟨some 6, .move (.cst (.int .i64 1)), none⟩])
 (.ret))
 (.skip)))
 (.seq
 (.reg [⟨some 20, .load none (.tmp 2), none⟩,
  ⟨some 21, .load none (.tmp 3), none⟩,
  ⟨some 22, .call (.cst (.func (.func 45) [] [])) [(.tmp 20), (.tmp 21)], none⟩,
  ⟨some 19, .move (.tmp 22), none⟩,
  ⟨some 23, .extract (.tmp 19) 0, none⟩,
  ⟨some 24, .extract (.tmp 19) 1, none⟩,
  ⟨some 7, .alloc [.nil], none⟩,
  ⟨none, .store 1 (.tmp 7) (.tmp 23), none⟩,
  ⟨some 8, .move (.tmp 24), none⟩])
 (.seq
 (.seq
 (.reg [⟨some 25, .move (.tmp 8), none⟩,
  ⟨some 26, .bin .neq (.tmp 25) (.cst (.int .i64 0)), none⟩,
  ⟨some 27, .move (.tmp 26), none⟩,
  ⟨some 28, .move (.tmp 8), some (27, true)⟩,
  ⟨some 29, .bin .neq (.tmp 28) (.cst (.int .i64 4)), some (27, true)⟩,
  ⟨some 30, .pick (.tmp 27) (.tmp 29) (.cst (.bool false)), none⟩])
 (.cond (.tmp 30)
 (.seq
 (.reg [⟨some 31, .move (.tmp 8), none⟩,
  ⟨some 4, .move (.cst (.sc (.pointer none))), none⟩,
  ⟨some 5, .move (.cst .nil), none⟩,
  ⟨some 6, .move (.tmp 31), none⟩])
 (.ret))
 (.skip)))
 (.seq
 (.reg [⟨some 33, .load none (.tmp 7), none⟩,
  ⟨some 34, .call (.cst (.func (.func 8) [] [])) [(.tmp 33)], none⟩,
  ⟨some 32, .move (.tmp 34), none⟩,
  ⟨some 35, .extract (.tmp 32) 0, none⟩,
  ⟨some 36, .extract (.tmp 32) 1, none⟩,
  ⟨some 10, .alloc [(.int .i64 0)], none⟩,
  ⟨some 9, .move (.tmp 35), none⟩,
  ⟨none, .store 1 (.tmp 10) (.tmp 36), none⟩])
 (.seq
 (.reg [⟨some 37, .load none (.tmp 10), none⟩,
  ⟨some 38, .load none (.tmp 7), none⟩,
  ⟨some 39, .len (.tmp 38), none⟩,
  ⟨some 40, .bin .lss (.tmp 37) (.tmp 39), none⟩,
  ⟨some 11, .alloc [(.bool false)], none⟩,
  ⟨none, .store 1 (.tmp 11) (.tmp 40), none⟩])
 (.seq
 (.reg [⟨some 41, .makeFunc (.func 46) [] [(.tmp 2), (.tmp 3), (.tmp 11)], none⟩,
  ⟨some 42, .makeFunc (.func 47) [] [(.tmp 10), (.tmp 7), (.tmp 2), (.tmp 3)], none⟩,
  ⟨some 43, .makeFunc (.func 49) [] [(.tmp 11), (.tmp 2)], none⟩,
  ⟨some 44, .buildSlice none (.sc .nilFunc) 3 [(0, (.tmp 41)), (1, (.tmp 42)), (2, (.tmp 43))], none⟩,
  ⟨some 45, .call (.cst (.func (.func 33) [] [])) [(.tmp 44)], none⟩,
  ⟨some 8, .move (.tmp 45), none⟩])
 (.seq
 (.seq
 (.reg [⟨some 46, .move (.tmp 8), none⟩,
  ⟨some 47, .bin .neq (.tmp 46) (.cst (.int .i64 0)), none⟩])
 (.cond (.tmp 47)
 (.seq
 (.reg [⟨some 48, .move (.tmp 8), none⟩,
  ⟨some 4, .move (.cst (.sc (.pointer none))), none⟩,
  ⟨some 5, .move (.cst .nil), none⟩,
  ⟨some 6, .move (.tmp 48), none⟩])
 (.ret))
 (.skip)))
 (.seq
 (.reg [⟨some 49, .load none (.tmp 2), none⟩,
  ⟨some 50, .load none (.tmp 3), none⟩,
  ⟨some 51, .move (.tmp 9), none⟩,
  ⟨some 52, .len (.tmp 51), none⟩,
  ⟨some 53, .load none (.tmp 10), none⟩,
  ⟨some 54, .build [(.sc (.pointer none)), (.sc (.string (bs []))), (.int .i64 0), (.int .i64 0), (.bool false)] [(0, 1, (.tmp 49)), (1, 1, (.tmp 50)), (2, 1, (.tmp 52)), (3, 1, (.tmp 53))], none⟩,
  ⟨some 55, .box (.tmp 54), none⟩,
  ⟨some 56, .move (.tmp 9), none⟩,
  ⟨some 4, .move (.tmp 55), none⟩,
  ⟨some 5, .move (.tmp 56), none⟩,
  ⟨some 6, .move (.cst (.int .i64 0)), none⟩])
 (.ret)))))))))⟩
theorem c25 : compF Try.prog gl false [] [] Try.f25 = some F25 := by kernel_rfl
def L26_0 : AC := .seq
 (.reg [⟨some 45, .bin .lss (.tmp 44) (.tmp 43), none⟩])
 (.seq
 (.cond (.tmp 45)
 (.skip)
 (.exit 1))
 (.seq
 (.block 2
 (.seq
 (.reg [⟨some 46, .indexAddr .slice (some 4) (.tmp 42) (.tmp 44), none⟩,
  ⟨some 47, .load (some 4) (.tmp 46), none⟩,
  ⟨some 9, .alloc [(.sc .nilFunc), (.int .i64 0), (.bool false), (.sc (.string (bs [])))], none⟩,
  ⟨none, .store 4 (.tmp 9) (.tmp 47), none⟩])
 (.reg [⟨some 48, .fieldAddr 0 1 (.tmp 9), none⟩,
  ⟨some 49, .load none (.tmp 48), none⟩,
  ⟨some 50, .move (.tmp 7), none⟩,
  ⟨some 51, .fieldAddr 1 1 (.tmp 9), none⟩,
  ⟨some 52, .load none (.tmp 51), none⟩,
  ⟨some 53, .call (.tmp 49) [(.tmp 50), (.tmp 52)], none⟩])))
 (.reg [⟨some 54, .bin .add (.tmp 44) (.cst (.int .i64 1)), none⟩,
  ⟨some 44, .move (.tmp 54), none⟩])))
/- (*tollhouse/files.Files).Crash -/
def F26 : AFn := ⟨114, false, 3, [.tmp 6], .seq
 (.reg [⟨some 6, .move (.cst (.int .i64 0)), none⟩])
 (.seq
 (.block 0
 (.seq
 (.reg [⟨some 14, .move (.tmp 0), none⟩,
  ⟨some 15, .call (.cst (.func (.func 50) [] [])) [(.tmp 14)], none⟩,
  ⟨some 16, .un .not (.tmp 15), none⟩,
  ⟨some 13, .move (.tmp 16), none⟩])
 (.cond (.tmp 13)
 (.seq
 (.reg [⟨some 6, .move (.cst (.int .i64 6)), none⟩])
 (.ret))
 (.seq
 (.reg [⟨some 18, .move (.tmp 1), none⟩,
  ⟨some 19, .bin .lss (.tmp 18) (.cst (.int .i64 0)), none⟩,
  ⟨some 20, .move (.tmp 19), none⟩,
  ⟨some 21, .move (.tmp 1), some (20, false)⟩,
  ⟨some 22, .move (.tmp 0), some (20, false)⟩,
  ⟨some 23, .nilCheck (.tmp 22), some (20, false)⟩,
  ⟨some 24, .fieldAddr 3 1 (.tmp 23), some (20, false)⟩,
  ⟨some 25, .load none (.tmp 24), some (20, false)⟩,
  ⟨some 26, .len (.tmp 25), some (20, false)⟩,
  ⟨some 27, .bin .gtr (.tmp 21) (.tmp 26), some (20, false)⟩,
  ⟨some 28, .pick (.tmp 20) (.cst (.bool true)) (.tmp 27), none⟩,
  ⟨some 29, .move (.tmp 28), none⟩,
  ⟨some 30, .move (.tmp 2), some (29, false)⟩,
  ⟨some 31, .bin .lss (.tmp 30) (.cst (.int .i64 0)), some (29, false)⟩,
  ⟨some 32, .pick (.tmp 29) (.cst (.bool true)) (.tmp 31), none⟩,
  ⟨some 17, .move (.tmp 32), none⟩])
 (.cond (.tmp 17)
 (.seq
 (.reg [⟨some 6, .move (.cst (.int .i64 1)), none⟩])
 (.ret))
 (.skip))))))
 (.seq
 (.reg [⟨some 33, .move (.tmp 0), none⟩,
  ⟨some 34, .nilCheck (.tmp 33), none⟩,
  ⟨some 35, .fieldAddr 1 1 (.tmp 34), none⟩,
  ⟨some 36, .load none (.tmp 35), none⟩,
  ⟨some 7, .move (.tmp 36), none⟩])
 (.seq
 (.seq
 (.reg [⟨some 37, .move (.tmp 0), none⟩,
  ⟨some 38, .nilCheck (.tmp 37), none⟩,
  ⟨some 39, .fieldAddr 3 1 (.tmp 38), none⟩,
  ⟨some 40, .load none (.tmp 39), none⟩,
  ⟨some 41, .move (.tmp 1), none⟩,
  ⟨some 42, .slice .slice (some 4) (.tmp 40) none (some (.tmp 41)) none, none⟩,
  ⟨some 43, .len (.tmp 42), none⟩,
  ⟨some 44, .move (.cst (.int .i64 0)), none⟩])
 (.block 1
 (.loop [0, 1, 2, 7, 42, 43, 44] false L26_0)))
 (.seq
 (.seq
 (.reg [⟨some 55, .move (.tmp 1), none⟩,
  ⟨some 56, .move (.tmp 0), none⟩,
  ⟨some 57, .nilCheck (.tmp 56), none⟩,
  ⟨some 58, .fieldAddr 3 1 (.tmp 57), none⟩,
  ⟨some 59, .load none (.tmp 58), none⟩,
  ⟨some 60, .len (.tmp 59), none⟩,
  ⟨some 61, .bin .lss (.tmp 55) (.tmp 60), none⟩,
  ⟨some 62, .move (.tmp 61), none⟩,
  ⟨some 63, .move (.tmp 0), some (62, true)⟩,
  ⟨some 64, .nilCheck (.tmp 63), some (62, true)⟩,
  ⟨some 65, .fieldAddr 3 1 (.tmp 64), some (62, true)⟩,
  ⟨some 66, .load none (.tmp 65), some (62, true)⟩,
  ⟨some 67, .move (.tmp 1), some (62, true)⟩,
  ⟨some 68, .indexAddr .slice (some 4) (.tmp 66) (.tmp 67), some (62, true)⟩,
  ⟨some 69, .fieldAddr 2 1 (.tmp 68), some (62, true)⟩,
  ⟨some 70, .load none (.tmp 69), some (62, true)⟩,
  ⟨some 71, .pick (.tmp 62) (.tmp 70) (.cst (.bool false)), none⟩])
 (.cond (.tmp 71)
 (.seq
 (.reg [⟨some 72, .move (.tmp 0), none⟩,
  ⟨some 73, .nilCheck (.tmp 72), none⟩,
  ⟨some 74, .fieldAddr 3 1 (.tmp 73), none⟩,
  ⟨some 75, .load none (.tmp 74), none⟩,
  ⟨some 76, .move (.tmp 1), none⟩,
  ⟨some 77, .indexAddr .slice (some 4) (.tmp 75) (.tmp 76), none⟩,
  ⟨some 78, .load (some 4) (.tmp 77), none⟩,
  ⟨some 10, .alloc [(.sc .nilFunc), (.int .i64 0), (.bool false), (.sc (.string (bs [])))], none⟩,
  ⟨none, .store 4 (.tmp 10) (.tmp 78), none⟩])
 (.seq
 (.reg [⟨some 80, .move (.tmp 7), none⟩,
  ⟨some 81, .fieldAddr 3 1 (.tmp 10), none⟩,
  ⟨some 82, .load none (.tmp 81), none⟩,
  ⟨some 83, .lookup false [.str] (.agg [.nil, (.int .i64 0)]) true (.tmp 80) (.tmp 82), none⟩,
  ⟨some 79, .move (.tmp 83), none⟩,
  ⟨some 84, .extract (.tmp 79) 0, none⟩,
  ⟨some 85, .extract (.tmp 79) 1, none⟩,
  ⟨some 11, .alloc [.nil, (.int .i64 0)], none⟩,
  ⟨none, .store 2 (.tmp 11) (.tmp 84), none⟩,
  ⟨some 12, .move (.tmp 85), none⟩])
 (.seq
 (.reg [⟨some 86, .move (.tmp 12), none⟩,
  ⟨some 87, .move (.tmp 86), none⟩,
  ⟨some 88, .move (.tmp 2), some (87, false)⟩,
  ⟨some 89, .bin .gtr (.tmp 88) (.cst (.int .i64 0)), some (87, false)⟩,
  ⟨some 90, .pick (.tmp 87) (.cst (.bool true)) (.tmp 89), none⟩])
 (.cond (.tmp 90)
 (.reg [⟨some 91, .fieldAddr 0 1 (.tmp 10), none⟩,
  ⟨some 92, .load none (.tmp 91), none⟩,
  ⟨some 93, .move (.tmp 7), none⟩,
  ⟨some 94, .move (.tmp 2), none⟩,
  ⟨some 95, .fieldAddr 1 1 (.tmp 10), none⟩,
  ⟨some 96, .load none (.tmp 95), none⟩,
  ⟨some 97, .minmax false (.tmp 94) (.tmp 96), none⟩,
  ⟨some 98, .call (.tmp 92) [(.tmp 93), (.tmp 97)], none⟩])
 (.skip)))))
 (.skip)))
 (.seq
 (.reg [⟨some 99, .move (.tmp 0), none⟩,
  ⟨some 100, .move (.tmp 0), none⟩,
  ⟨some 101, .move (.tmp 0), none⟩,
  ⟨some 102, .move (.tmp 0), none⟩,
  ⟨some 103, .move (.tmp 7), none⟩,
  ⟨some 104, .move (.tmp 7), none⟩,
  ⟨some 105, .call (.cst (.func (.func 51) [] [])) [(.tmp 104)], none⟩,
  ⟨some 106, .nilCheck (.tmp 99), none⟩,
  ⟨some 107, .fieldAddr 1 1 (.tmp 106), none⟩,
  ⟨none, .store 1 (.tmp 107) (.tmp 103), none⟩,
  ⟨some 108, .nilCheck (.tmp 100), none⟩,
  ⟨some 109, .fieldAddr 2 1 (.tmp 108), none⟩,
  ⟨none, .store 1 (.tmp 109) (.tmp 105), none⟩,
  ⟨some 110, .nilCheck (.tmp 101), none⟩,
  ⟨some 111, .fieldAddr 3 1 (.tmp 110), none⟩,
  ⟨none, .store 1 (.tmp 111) (.cst .nil), none⟩,
  ⟨some 112, .nilCheck (.tmp 102), none⟩,
  ⟨some 113, .fieldAddr 4 1 (.tmp 112), none⟩,
  ⟨none, .store 1 (.tmp 113) (.cst (.int .i64 (-1))), none⟩])
 (.seq
 (.reg [⟨some 6, .move (.cst (.int .i64 0)), none⟩])
 (.ret)))))))⟩
theorem c26 : compF Try.prog gl false [] [([0, 1, 2, 7, 42, 43, 44], false)] Try.f26 = some F26 := by kernel_rfl
/- (*tollhouse/log.Log).do -/
def F27 : AFn := ⟨35, false, 2, [.tmp 4], .seq
 (.reg [⟨some 4, .move (.cst (.int .i64 0)), none⟩])
 (.seq
 (.block 0
 (.seq
 (.reg [⟨some 7, .move (.tmp 0), none⟩,
  ⟨some 8, .eqNil false .ptr (.tmp 7), none⟩,
  ⟨some 9, .move (.tmp 8), none⟩,
  ⟨some 10, .move (.tmp 0), some (9, false)⟩,
  ⟨some 11, .nilCheck (.tmp 10), some (9, false)⟩,
  ⟨some 12, .fieldAddr 0 1 (.tmp 11), some (9, false)⟩,
  ⟨some 13, .load none (.tmp 12), some (9, false)⟩,
  ⟨some 14, .eqNil false .ptr (.tmp 13), some (9, false)⟩,
  ⟨some 15, .pick (.tmp 9) (.cst (.bool true)) (.tmp 14), none⟩,
  ⟨some 6, .move (.tmp 15), none⟩])
 (.cond (.tmp 6)
 (.seq
 (.reg [⟨some 4, .move (.cst (.int .i64 6)), none⟩])
 (.ret))
 (.seq
 (.reg [⟨some 17, .move (.tmp 0), none⟩,
  ⟨some 18, .nilCheck (.tmp 17), none⟩,
  ⟨some 19, .fieldAddr 4 1 (.tmp 18), none⟩,
  ⟨some 20, .load none (.tmp 19), none⟩,
  ⟨some 16, .move (.tmp 20), none⟩])
 (.cond (.tmp 16)
 (.seq
 (.reg [⟨some 4, .move (.cst (.int .i64 100)), none⟩])
 (.ret))
 (.skip))))))
 (.seq
 (.reg [⟨some 21, .move (.tmp 1), none⟩,
  ⟨some 22, .call (.tmp 21) [], none⟩,
  ⟨some 5, .move (.tmp 22), none⟩])
 (.seq
 (.reg [⟨some 23, .move (.tmp 0), none⟩,
  ⟨some 24, .move (.tmp 0), none⟩,
  ⟨some 25, .nilCheck (.tmp 24), none⟩,
  ⟨some 26, .fieldAddr 4 1 (.tmp 25), none⟩,
  ⟨some 27, .load none (.tmp 26), none⟩,
  ⟨some 28, .move (.tmp 27), none⟩,
  ⟨some 29, .move (.tmp 5), some (28, false)⟩,
  ⟨some 30, .bin .eql (.tmp 29) (.cst (.int .i64 100)), some (28, false)⟩,
  ⟨some 31, .pick (.tmp 28) (.cst (.bool true)) (.tmp 30), none⟩,
  ⟨some 32, .nilCheck (.tmp 23), none⟩,
  ⟨some 33, .fieldAddr 4 1 (.tmp 32), none⟩,
  ⟨none, .store 1 (.tmp 33) (.tmp 31), none⟩])
 (.seq
 (.reg [⟨some 34, .move (.tmp 5), none⟩,
  ⟨some 4, .move (.tmp 34), none⟩])
 (.ret)))))⟩
theorem c27 : compF Try.prog gl false [] [] Try.f27 = some F27 := by kernel_rfl
/- (*tollhouse/log.Log).Append$1 -/
def F28 : AFn := ⟨47, false, 2, [.tmp 2], .seq
 (.reg [⟨some 2, .move (.cst (.int .i64 0)), none⟩])
 (.seq
 (.regD [⟨some 7, .load none (.tmp 0), none⟩,
  ⟨some 8, .nilCheck (.tmp 7), none⟩,
  ⟨some 9, .fieldAddr 2 1 (.tmp 8), none⟩,
  ⟨some 10, .load none (.tmp 9), none⟩,
  ⟨some 11, .load none (.tmp 1), none⟩,
  ⟨some 12, .call (.cst (.func (.func 6) [] [])) [(.tmp 10), (.tmp 11)], none⟩,
  ⟨some 6, .move (.tmp 12), none⟩,
  ⟨some 13, .extract (.tmp 6) 0, none⟩,
  ⟨some 14, .extract (.tmp 6) 1, none⟩,
  ⟨some 3, .move (.tmp 13), none⟩,
  ⟨some 4, .move (.tmp 14), none⟩] [(0, 0), (0, 0), (0, 0), (0, 0), (0, 0), (0, 0), (1, 1), (1, 1), (1, 1), (1, 1), (1, 1)])
 (.seq
 (.seq
 (.reg [⟨some 15, .move (.tmp 4), none⟩,
  ⟨some 16, .bin .neq (.tmp 15) (.cst (.int .i64 0)), none⟩])
 (.cond (.tmp 16)
 (.seq
 (.reg [⟨some 17, .move (.tmp 4), none⟩,
  ⟨some 2, .move (.tmp 17), none⟩])
 (.ret))
 (.skip)))
 (.seq
 (.seq
 (.regD [⟨some 18, .load none (.tmp 0), none⟩,
  ⟨some 19, .nilCheck (.tmp 18), none⟩,
  ⟨some 20, .fieldAddr 0 1 (.tmp 19), none⟩,
  ⟨some 21, .load none (.tmp 20), none⟩,
  ⟨some 22, .load none (.tmp 0), none⟩,
  ⟨some 23, .nilCheck (.tmp 22), none⟩,
  ⟨some 24, .fieldAddr 1 1 (.tmp 23), none⟩,
  ⟨some 25, .load none (.tmp 24), none⟩,
  ⟨some 26, .move (.tmp 3), none⟩,
  ⟨some 27, .call (.cst (.func (.func 29) [] [])) [(.tmp 21), (.tmp 25), (.tmp 26)], none⟩,
  ⟨some 5, .move (.tmp 27), none⟩] [(0, 0), (0, 0), (0, 0), (0, 0), (0, 0), (0, 0), (0, 0), (0, 0), (0, 0), (0, 0), (1, 1)])
 (.seq
 (.reg [⟨some 28, .move (.tmp 5), none⟩,
  ⟨some 29, .bin .neq (.tmp 28) (.cst (.int .i64 0)), none⟩])
 (.cond (.tmp 29)
 (.seq
 (.reg [⟨some 30, .move (.tmp 5), none⟩,
  ⟨some 2, .move (.tmp 30), none⟩])
 (.ret))
 (.skip))))
 (.seq
 (.reg [⟨some 31, .load none (.tmp 0), none⟩,
  ⟨some 32, .nilCheck (.tmp 31), none⟩,
  ⟨some 33, .fieldAddr 2 1 (.tmp 32), none⟩,
  ⟨some 34, .load none (.tmp 33), none⟩,
  ⟨some 35, .bin .add (.tmp 34) (.cst (.int .i64 1)), none⟩,
  ⟨some 36, .nilCheck (.tmp 31), none⟩,
  ⟨some 37, .fieldAddr 2 1 (.tmp 36), none⟩,
  ⟨none, .store 1 (.tmp 37) (.tmp 35), none⟩])
 (.seq
 (.reg [⟨some 38, .load none (.tmp 0), none⟩,
  ⟨some 39, .nilCheck (.tmp 38), none⟩,
  ⟨some 40, .fieldAddr 3 1 (.tmp 39), none⟩,
  ⟨some 41, .load none (.tmp 40), none⟩,
  ⟨some 42, .move (.tmp 3), none⟩,
  ⟨some 43, .len (.tmp 42), none⟩,
  ⟨some 44, .bin .add (.tmp 41) (.tmp 43), none⟩,
  ⟨some 45, .nilCheck (.tmp 38), none⟩,
  ⟨some 46, .fieldAddr 3 1 (.tmp 45), none⟩,
  ⟨none, .store 1 (.tmp 46) (.tmp 44), none⟩])
 (.seq
 (.reg [⟨some 2, .move (.cst (.int .i64 0)), none⟩])
 (.ret)))))))⟩
theorem c28 : compF Try.prog gl false [] [] Try.f28 = some F28 := by kernel_rfl
/- (*tollhouse/files.Files).Append -/
def F29 : AFn := ⟨55, false, 3, [.tmp 6], .seq
 (.reg [⟨some 4, .boxI (.tmp 1), none⟩,
  ⟨some 6, .move (.cst (.int .i64 0)), none⟩])
 (.seq
 (.seq
 (.reg [⟨some 12, .move (.tmp 0), none⟩,
  ⟨some 13, .load none (.tmp 4), none⟩,
  ⟨some 14, .buildSlice none (.sc (.string (bs []))) 1 [(0, (.tmp 13))], none⟩,
  ⟨some 15, .call (.cst (.func (.func 52) [] [])) [(.tmp 12), (.tmp 14)], none⟩,
  ⟨some 7, .move (.tmp 15), none⟩])
 (.seq
 (.reg [⟨some 16, .move (.tmp 7), none⟩,
  ⟨some 17, .bin .neq (.tmp 16) (.cst (.int .i64 0)), none⟩])
 (.cond (.tmp 17)
 (.seq
 (.reg [⟨some 18, .move (.tmp 7), none⟩,
  ⟨some 6, .move (.tmp 18), none⟩])
 (.ret))
 (.skip))))
 (.seq
 (.seq
 (.regD [⟨some 20, .move (.tmp 0), none⟩,
  ⟨some 21, .nilCheck (.tmp 20), none⟩,
  ⟨some 22, .fieldAddr 2 1 (.tmp 21), none⟩,
  ⟨some 23, .load none (.tmp 22), none⟩,
  ⟨some 24, .load none (.tmp 4), none⟩,
  ⟨some 25, .lookup false [.str] (.agg [.nil, (.int .i64 0)]) true (.tmp 23) (.tmp 24), none⟩,
  ⟨some 19, .move (.tmp 25), none⟩,
  ⟨some 26, .extract (.tmp 19) 0, none⟩,
  ⟨some 27, .extract (.tmp 19) 1, none⟩,
  ⟨some 8, .alloc [.nil, (.int .i64 0)], none⟩,
  ⟨none, .store 2 (.tmp 8) (.tmp 26), none⟩,
  ⟨some 9, .move (.tmp 27), none⟩] [(0, 1), (0, 1), (0, 1), (0, 1), (0, 1), (0, 1), (0, 1), (0, 1), (0, 2), (0, 0), (1, 1), (2, 2)])
 (.seq
 (.reg [⟨some 28, .move (.tmp 9), none⟩,
  ⟨some 29, .un .not (.tmp 28), none⟩,
  ⟨some 30, .move (.tmp 29), none⟩,
  ⟨some 31, .move (.tmp 0), some (30, true)⟩,
  ⟨some 32, .nilCheck (.tmp 31), some (30, true)⟩,
  ⟨some 33, .fieldAddr 2 1 (.tmp 32), some (30, true)⟩,
  ⟨some 34, .load none (.tmp 33), some (30, true)⟩,
  ⟨some 35, .lenM (.tmp 34), some (30, true)⟩,
  ⟨some 36, .bin .geq (.tmp 35) (.cst (.int .i64 16)), some (30, true)⟩,
  ⟨some 37, .pick (.tmp 30) (.tmp 36) (.cst (.bool false)), none⟩,
  ⟨some 38, .move (.tmp 37), none⟩,
  ⟨some 39, .move (.tmp 2), some (38, false)⟩,
  ⟨some 40, .len (.tmp 39), some (38, false)⟩,
  ⟨some 41, .move (.tmp 0), some (38, false)⟩,
  ⟨some 42, .call (.cst (.func (.func 53) [] [])) [(.tmp 41)], some (38, false)⟩,
  ⟨some 43, .bin .gtr (.tmp 40) (.tmp 42), some (38, false)⟩,
  ⟨some 44, .pick (.tmp 38) (.cst (.bool true)) (.tmp 43), none⟩])
 (.cond (.tmp 44)
 (.seq
 (.reg [⟨some 6, .move (.cst (.int .i64 2)), none⟩])
 (.ret))
 (.skip))))
 (.seq
 (.reg [⟨some 45, .move (.tmp 2), none⟩,
  ⟨some 46, .call (.cst (.func (.func 23) [] [])) [(.tmp 45)], none⟩,
  ⟨some 10, .alloc [.nil], none⟩,
  ⟨none, .store 1 (.tmp 10) (.tmp 46), none⟩])
 (.seq
 (.reg [⟨some 47, .makeFunc (.func 54) [] [(.tmp 4), (.tmp 10)], none⟩,
  ⟨some 11, .move (.tmp 47), none⟩])
 (.seq
 (.reg [⟨some 48, .move (.tmp 0), none⟩,
  ⟨some 49, .move (.tmp 11), none⟩,
  ⟨some 50, .load none (.tmp 10), none⟩,
  ⟨some 51, .len (.tmp 50), none⟩,
  ⟨some 52, .load none (.tmp 4), none⟩,
  ⟨some 53, .build [(.sc .nilFunc), (.int .i64 0), (.bool false), (.sc (.string (bs [])))] [(0, 1, (.tmp 49)), (1, 1, (.tmp 51)), (2, 1, (.cst (.bool true))), (3, 1, (.tmp 52))], none⟩,
  ⟨some 54, .call (.cst (.func (.func 56) [] [])) [(.tmp 48), (.tmp 53)], none⟩,
  ⟨some 6, .move (.tmp 54), none⟩])
 (.ret))))))⟩
theorem c29 : compF Try.prog gl false [(4, (some 0))] [] Try.f29 = some F29 := by kernel_rfl
/- (*tollhouse/log.Log).Sync$1 -/
def F30 : AFn := ⟨7, false, 1, [.tmp 1], .seq
 (.reg [⟨some 1, .move (.cst (.int .i64 0)), none⟩])
 (.seq
 (.reg [⟨some 2, .load none (.tmp 0), none⟩,
  ⟨some 3, .nilCheck (.tmp 2), none⟩,
  ⟨some 4, .fieldAddr 0 1 (.tmp 3), none⟩,
  ⟨some 5, .load none (.tmp 4), none⟩,
  ⟨some 6, .call (.cst (.func (.func 31) [] [])) [(.tmp 5)], none⟩,
  ⟨some 1, .move (.tmp 6), none⟩])
 (.ret))⟩
theorem c30 : compF Try.prog gl false [] [] Try.f30 = some F30 := by kernel_rfl
/- (*tollhouse/files.Files).Sync -/
def F31 : AFn := ⟨22, false, 1, [.tmp 2], .seq
 (.reg [⟨some 2, .move (.cst (.int .i64 0)), none⟩])
 (.seq
 (.seq
 (.reg [⟨some 4, .move (.tmp 0), none⟩,
  ⟨some 5, .call (.cst (.func (.func 52) [] [])) [(.tmp 4), (.cst .nil)], none⟩,
  ⟨some 3, .move (.tmp 5), none⟩])
 (.seq
 (.reg [⟨some 6, .move (.tmp 3), none⟩,
  ⟨some 7, .bin .neq (.tmp 6) (.cst (.int .i64 0)), none⟩])
 (.cond (.tmp 7)
 (.seq
 (.reg [⟨some 8, .move (.tmp 3), none⟩,
  ⟨some 2, .move (.tmp 8), none⟩])
 (.ret))
 (.skip))))
 (.seq
 (.reg [⟨some 9, .move (.tmp 0), none⟩,
  ⟨some 10, .move (.tmp 0), none⟩,
  ⟨some 11, .move (.tmp 0), none⟩,
  ⟨some 12, .nilCheck (.tmp 11), none⟩,
  ⟨some 13, .fieldAddr 2 1 (.tmp 12), none⟩,
  ⟨some 14, .load none (.tmp 13), none⟩,
  ⟨some 15, .call (.cst (.func (.func 51) [] [])) [(.tmp 14)], none⟩,
  ⟨some 16, .nilCheck (.tmp 9), none⟩,
  ⟨some 17, .fieldAddr 1 1 (.tmp 16), none⟩,
  ⟨none, .store 1 (.tmp 17) (.tmp 15), none⟩,
  ⟨some 18, .nilCheck (.tmp 10), none⟩,
  ⟨some 19, .fieldAddr 3 1 (.tmp 18), none⟩,
  ⟨none, .store 1 (.tmp 19) (.cst .nil), none⟩])
 (.seq
 (.reg [⟨some 20, .move (.tmp 0), none⟩,
  ⟨some 21, .call (.cst (.func (.func 57) [] [])) [(.tmp 20)], none⟩,
  ⟨some 2, .move (.tmp 21), none⟩])
 (.ret))))⟩
theorem c31 : compF Try.prog gl false [] [] Try.f31 = some F31 := by kernel_rfl
def L32_0 : AC := .seq
 (.reg [⟨some 12, .bin .lss (.tmp 11) (.tmp 10), none⟩])
 (.seq
 (.cond (.tmp 12)
 (.skip)
 (.exit 0))
 (.seq
 (.block 1
 (.seq
 (.reg [⟨some 13, .move (.tmp 11), none⟩,
  ⟨some 14, .indexAddr .slice none (.tmp 9) (.tmp 11), none⟩,
  ⟨some 15, .load none (.tmp 14), none⟩,
  ⟨some 4, .move (.tmp 13), none⟩,
  ⟨some 5, .move (.tmp 15), none⟩])
 (.seq
 (.reg [⟨some 17, .move (.tmp 4), none⟩,
  ⟨some 18, .move (.tmp 5), none⟩,
  ⟨some 19, .call (.cst (.func (.func 6) [] [])) [(.tmp 17), (.tmp 18)], none⟩,
  ⟨some 16, .move (.tmp 19), none⟩,
  ⟨some 20, .extract (.tmp 16) 0, none⟩,
  ⟨some 21, .extract (.tmp 16) 1, none⟩,
  ⟨some 6, .move (.tmp 20), none⟩,
  ⟨some 7, .move (.tmp 21), none⟩])
 (.seq
 (.seq
 (.reg [⟨some 22, .move (.tmp 7), none⟩,
  ⟨some 23, .bin .neq (.tmp 22) (.cst (.int .i64 0)), none⟩])
 (.cond (.tmp 23)
 (.seq
 (.reg [⟨some 24, .move (.tmp 7), none⟩,
  ⟨some 2, .move (.tmp 24), none⟩])
 (.ret))
 (.skip)))
 (.reg [⟨some 25, .load none (.tmp 3), none⟩,
  ⟨some 26, .move (.tmp 6), none⟩,
  ⟨some 27, .append none 1 (.tmp 25) (.tmp 26), none⟩,
  ⟨none, .store 1 (.tmp 3) (.tmp 27), none⟩])))))
 (.reg [⟨some 28, .bin .add (.tmp 11) (.cst (.int .i64 1)), none⟩,
  ⟨some 11, .move (.tmp 28), none⟩])))
/- (*tollhouse/log.Log).Rewrite$1 -/
def F32 : AFn := ⟨63, false, 2, [.tmp 2], .seq
 (.reg [⟨some 2, .move (.cst (.int .i64 0)), none⟩])
 (.seq
 (.reg [⟨some 3, .alloc [.nil], none⟩])
 (.seq
 (.seq
 (.reg [⟨some 9, .load none (.tmp 0), none⟩,
  ⟨some 10, .len (.tmp 9), none⟩,
  ⟨some 11, .move (.cst (.int .i64 0)), none⟩])
 (.block 0
 (.loop [0, 1, 3, 9, 10, 11] false L32_0)))
 (.seq
 (.reg [⟨some 29, .load none (.tmp 1), none⟩,
  ⟨some 30, .nilCheck (.tmp 29), none⟩,
  ⟨some 31, .fieldAddr 4 1 (.tmp 30), none⟩,
  ⟨none, .store 1 (.tmp 31) (.cst (.bool true)), none⟩])
 (.seq
 (.regD [⟨some 32, .makeFunc (.func 34) [] [(.tmp 1)], none⟩,
  ⟨some 33, .makeFunc (.func 36) [] [(.tmp 1), (.tmp 3)], none⟩,
  ⟨some 34, .load none (.tmp 1), none⟩,
  ⟨some 35, .nilCheck (.tmp 34), none⟩,
  ⟨some 36, .fieldAddr 0 1 (.tmp 35), none⟩,
  ⟨some 37, .load none (.tmp 36), none⟩,
  ⟨some 38, .makeFunc (.func 31) [(.tmp 37)] [], none⟩,
  ⟨some 39, .makeFunc (.func 37) [] [(.tmp 1)], none⟩,
  ⟨some 40, .load none (.tmp 1), none⟩,
  ⟨some 41, .nilCheck (.tmp 40), none⟩,
  ⟨some 42, .fieldAddr 0 1 (.tmp 41), none⟩,
  ⟨some 43, .load none (.tmp 42), none⟩,
  ⟨some 44, .makeFunc (.func 31) [(.tmp 43)] [], none⟩,
  ⟨some 45, .buildSlice none (.sc .nilFunc) 5 [(0, (.tmp 32)), (1, (.tmp 33)), (2, (.tmp 38)), (3, (.tmp 39)), (4, (.tmp 44))], none⟩,
  ⟨some 46, .call (.cst (.func (.func 33) [] [])) [(.tmp 45)], none⟩,
  ⟨some 8, .move (.tmp 46), none⟩] [(0, 0), (0, 0), (0, 0), (0, 0), (0, 0), (0, 0), (0, 0), (0, 0), (0, 0), (0, 0), (0, 0), (0, 0), (0, 0), (0, 0), (0, 0), (1, 1)])
 (.seq
 (.seq
 (.reg [⟨some 47, .move (.tmp 8), none⟩,
  ⟨some 48, .bin .eql (.tmp 47) (.cst (.int .i64 0)), none⟩])
 (.cond (.tmp 48)
 (.regD [⟨some 49, .load none (.tmp 1), none⟩,
  ⟨some 50, .load none (.tmp 1), none⟩,
  ⟨some 51, .load none (.tmp 1), none⟩,
  ⟨some 52, .load none (.tmp 0), none⟩,
  ⟨some 53, .len (.tmp 52), none⟩,
  ⟨some 54, .load none (.tmp 3), none⟩,
  ⟨some 55, .len (.tmp 54), none⟩,
  ⟨some 56, .nilCheck (.tmp 49), none⟩,
  ⟨some 57, .fieldAddr 4 1 (.tmp 56), none⟩,
  ⟨none, .store 1 (.tmp 57) (.cst (.bool false)), none⟩,
  ⟨some 58, .nilCheck (.tmp 50), none⟩,
  ⟨some 59, .fieldAddr 2 1 (.tmp 58), none⟩,
  ⟨none, .store 1 (.tmp 59) (.tmp 53), none⟩,
  ⟨some 60, .nilCheck (.tmp 51), none⟩,
  ⟨some 61, .fieldAddr 3 1 (.tmp 60), none⟩,
  ⟨none, .store 1 (.tmp 61) (.tmp 55), none⟩] [(0, 0), (0, 1), (0, 2), (0, 1), (0, 1), (0, 2), (0, 2), (0, 0), (0, 0), (0, 0), (1, 1), (1, 1), (1, 1), (2, 2), (2, 2), (2, 2)])
 (.skip)))
 (.seq
 (.reg [⟨some 62, .move (.tmp 8), none⟩,
  ⟨some 2, .move (.tmp 62), none⟩])
 (.ret)))))))⟩
theorem c32 : compF Try.prog gl false [] [([0, 1, 3, 9, 10, 11], false)] Try.f32 = some F32 := by kernel_rfl
def L33_0 : AC := .seq
 (.reg [⟨some 9, .bin .lss (.tmp 8) (.tmp 7), none⟩])
 (.seq
 (.cond (.tmp 9)
 (.skip)
 (.exit 0))
 (.seq
 (.block 1
 (.seq
 (.reg [⟨some 10, .indexAddr .slice none (.tmp 6) (.tmp 8), none⟩,
  ⟨some 11, .load none (.tmp 10), none⟩,
  ⟨some 4, .move (.tmp 11), none⟩])
 (.seq
 (.reg [⟨some 12, .move (.tmp 4), none⟩,
  ⟨some 13, .call (.tmp 12) [], none⟩,
  ⟨some 5, .move (.tmp 13), none⟩])
 (.seq
 (.reg [⟨some 14, .move (.tmp 5), none⟩,
  ⟨some 15, .bin .neq (.tmp 14) (.cst (.int .i64 0)), none⟩])
 (.cond (.tmp 15)
 (.seq
 (.reg [⟨some 16, .move (.tmp 5), none⟩,
  ⟨some 2, .move (.tmp 16), none⟩])
 (.ret))
 (.skip))))))
 (.reg [⟨some 17, .bin .add (.tmp 8) (.cst (.int .i64 1)), none⟩,
  ⟨some 8, .move (.tmp 17), none⟩])))
/- tollhouse/log.run -/
def F33 : AFn := ⟨18, false, 1, [.tmp 2], .seq
 (.reg [⟨some 2, .move (.cst (.int .i64 0)), none⟩])
 (.seq
 (.seq
 (.reg [⟨some 6, .move (.tmp 0), none⟩,
  ⟨some 7, .len (.tmp 6), none⟩,
  ⟨some 8, .move (.cst (.int .i64 0)), none⟩])
 (.block 0
 (.loop [6, 7, 8] false L33_0)))
 (.seq
 (.reg [⟨some 2, .move (.cst (.int .i64 0)), none⟩])
 (.ret)))⟩
theorem c33 : compF Try.prog gl false [] [([6, 7, 8], false)] Try.f33 = some F33 := by kernel_rfl
/- (*tollhouse/log.Log).Rewrite$1$1 -/
def F34 : AFn := ⟨18, false, 1, [.tmp 1], .seq
 (.reg [⟨some 1, .move (.cst (.int .i64 0)), none⟩])
 (.seq
 (.regD [⟨some 5, .load none (.tmp 0), none⟩,
  ⟨some 6, .nilCheck (.tmp 5), none⟩,
  ⟨some 7, .fieldAddr 0 1 (.tmp 6), none⟩,
  ⟨some 8, .load none (.tmp 7), none⟩,
  ⟨some 9, .load none (.tmp 0), none⟩,
  ⟨some 10, .nilCheck (.tmp 9), none⟩,
  ⟨some 11, .fieldAddr 1 1 (.tmp 10), none⟩,
  ⟨some 12, .load none (.tmp 11), none⟩,
  ⟨some 13, .bin .add (.tmp 12) (.cst (.sc (.string (bs [45, 110, 101, 119])))), none⟩,
  ⟨some 14, .call (.cst (.func (.func 35) [] [])) [(.tmp 8), (.tmp 13)], none⟩,
  ⟨some 4, .move (.tmp 14), none⟩,
  ⟨some 15, .extract (.tmp 4) 0, none⟩,
  ⟨some 16, .extract (.tmp 4) 1, none⟩,
  ⟨some 2, .move (.tmp 15), none⟩,
  ⟨some 3, .move (.tmp 16), none⟩] [(0, 0), (0, 0), (0, 0), (0, 0), (0, 0), (0, 0), (0, 0), (0, 0), (0, 0), (0, 0), (1, 1), (1, 1), (1, 1), (1, 1), (1, 1)])
 (.seq
 (.reg [⟨some 17, .move (.tmp 3), none⟩,
  ⟨some 1, .move (.tmp 17), none⟩])
 (.ret)))⟩
theorem c34 : compF Try.prog gl false [] [] Try.f34 = some F34 := by kernel_rfl
/- tollhouse/log.drop -/
def F35 : AFn := ⟨19, false, 2, [.tmp 4, .tmp 5], .seq
 (.reg [⟨some 4, .move (.cst (.bool false)), none⟩,
  ⟨some 5, .move (.cst (.int .i64 0)), none⟩])
 (.seq
 (.seq
 (.reg [⟨some 9, .move (.tmp 0), none⟩,
  ⟨some 10, .move (.tmp 1), none⟩,
  ⟨some 11, .call (.cst (.func (.func 45) [] [])) [(.tmp 9), (.tmp 10)], none⟩,
  ⟨some 8, .move (.tmp 11), none⟩,
  ⟨some 12, .extract (.tmp 8) 0, none⟩,
  ⟨some 13, .extract (.tmp 8) 1, none⟩,
  ⟨some 6, .move (.tmp 12), none⟩,
  ⟨some 7, .move (.tmp 13), none⟩])
 (.seq
 (.reg [⟨some 14, .move (.tmp 7), none⟩,
  ⟨some 15, .bin .neq (.tmp 14) (.cst (.int .i64 0)), none⟩])
 (.cond (.tmp 15)
 (.seq
 (.reg [⟨some 4, .move (.cst (.bool false)), none⟩,
  ⟨some 5, .move (.cst (.int .i64 0)), none⟩])
 (.ret))
 (.skip))))
 (.seq
 (.reg [⟨some 16, .move (.tmp 0), none⟩,
  ⟨some 17, .move (.tmp 1), none⟩,
  ⟨some 18, .call (.cst (.func (.func 58) [] [])) [(.tmp 16), (.tmp 17)], none⟩,
  ⟨some 4, .move (.cst (.bool true)), none⟩,
  ⟨some 5, .move (.tmp 18), none⟩])
 (.ret)))⟩
theorem c35 : compF Try.prog gl false [] [] Try.f35 = some F35 := by kernel_rfl
/- (*tollhouse/log.Log).Rewrite$1$2 -/
def F36 : AFn := ⟨14, false, 2, [.tmp 2], .seq
 (.reg [⟨some 2, .move (.cst (.int .i64 0)), none⟩])
 (.seq
 (.regD [⟨some 3, .load none (.tmp 0), none⟩,
  ⟨some 4, .nilCheck (.tmp 3), none⟩,
  ⟨some 5, .fieldAddr 0 1 (.tmp 4), none⟩,
  ⟨some 6, .load none (.tmp 5), none⟩,
  ⟨some 7, .load none (.tmp 0), none⟩,
  ⟨some 8, .nilCheck (.tmp 7), none⟩,
  ⟨some 9, .fieldAddr 1 1 (.tmp 8), none⟩,
  ⟨some 10, .load none (.tmp 9), none⟩,
  ⟨some 11, .bin .add (.tmp 10) (.cst (.sc (.string (bs [45, 110, 101, 119])))), none⟩,
  ⟨some 12, .load none (.tmp 1), none⟩,
  ⟨some 13, .call (.cst (.func (.func 29) [] [])) [(.tmp 6), (.tmp 11), (.tmp 12)], none⟩,
  ⟨some 2, .move (.tmp 13), none⟩] [(0, 0), (0, 0), (0, 0), (0, 0), (0, 0), (0, 0), (0, 0), (0, 0), (0, 0), (0, 0), (0, 0), (1, 1)])
 (.ret))⟩
theorem c36 : compF Try.prog gl false [] [] Try.f36 = some F36 := by kernel_rfl
/- (*tollhouse/log.Log).Rewrite$1$3 -/
def F37 : AFn := ⟨16, false, 1, [.tmp 1], .seq
 (.reg [⟨some 1, .move (.cst (.int .i64 0)), none⟩])
 (.seq
 (.regD [⟨some 2, .load none (.tmp 0), none⟩,
  ⟨some 3, .nilCheck (.tmp 2), none⟩,
  ⟨some 4, .fieldAddr 0 1 (.tmp 3), none⟩,
  ⟨some 5, .load none (.tmp 4), none⟩,
  ⟨some 6, .load none (.tmp 0), none⟩,
  ⟨some 7, .nilCheck (.tmp 6), none⟩,
  ⟨some 8, .fieldAddr 1 1 (.tmp 7), none⟩,
  ⟨some 9, .load none (.tmp 8), none⟩,
  ⟨some 10, .bin .add (.tmp 9) (.cst (.sc (.string (bs [45, 110, 101, 119])))), none⟩,
  ⟨some 11, .load none (.tmp 0), none⟩,
  ⟨some 12, .nilCheck (.tmp 11), none⟩,
  ⟨some 13, .fieldAddr 1 1 (.tmp 12), none⟩,
  ⟨some 14, .load none (.tmp 13), none⟩,
  ⟨some 15, .call (.cst (.func (.func 38) [] [])) [(.tmp 5), (.tmp 10), (.tmp 14)], none⟩,
  ⟨some 1, .move (.tmp 15), none⟩] [(0, 0), (0, 0), (0, 0), (0, 0), (0, 0), (0, 0), (0, 0), (0, 0), (0, 0), (0, 0), (0, 0), (0, 0), (0, 0), (0, 0), (1, 1)])
 (.ret))⟩
theorem c37 : compF Try.prog gl false [] [] Try.f37 = some F37 := by kernel_rfl
/- (*tollhouse/files.Files).Rename -/
def F38 : AFn := ⟨20, false, 3, [.tmp 6], .seq
 (.reg [⟨some 4, .boxI (.tmp 1), none⟩,
  ⟨some 5, .boxI (.tmp 2), none⟩,
  ⟨some 6, .move (.cst (.int .i64 0)), none⟩])
 (.seq
 (.seq
 (.reg [⟨some 8, .move (.tmp 0), none⟩,
  ⟨some 9, .load none (.tmp 4), none⟩,
  ⟨some 10, .load none (.tmp 5), none⟩,
  ⟨some 11, .buildSlice none (.sc (.string (bs []))) 2 [(0, (.tmp 9)), (1, (.tmp 10))], none⟩,
  ⟨some 12, .call (.cst (.func (.func 52) [] [])) [(.tmp 8), (.tmp 11)], none⟩,
  ⟨some 7, .move (.tmp 12), none⟩])
 (.seq
 (.reg [⟨some 13, .move (.tmp 7), none⟩,
  ⟨some 14, .bin .neq (.tmp 13) (.cst (.int .i64 0)), none⟩])
 (.cond (.tmp 14)
 (.seq
 (.reg [⟨some 15, .move (.tmp 7), none⟩,
  ⟨some 6, .move (.tmp 15), none⟩])
 (.ret))
 (.skip))))
 (.seq
 (.reg [⟨some 16, .move (.tmp 0), none⟩,
  ⟨some 17, .load none (.tmp 4), none⟩,
  ⟨some 18, .makeFunc (.func 60) [] [(.tmp 4), (.tmp 5)], none⟩,
  ⟨some 19, .call (.cst (.func (.func 59) [] [])) [(.tmp 16), (.tmp 17), (.tmp 18)], none⟩,
  ⟨some 6, .move (.tmp 19), none⟩])
 (.ret)))⟩
theorem c38 : compF Try.prog gl false [(4, (some 0)), (5, (some 0))] [] Try.f38 = some F38 := by kernel_rfl
/- tollhouse/keccak.start -/
def F39 : AFn := ⟨19, false, 1, [.tmp 2], .seq
 (.reg [⟨some 2, .move (.cst (.sc (.pointer none))), none⟩])
 (.seq
 (.reg [⟨some 4, .move (.tmp 0), none⟩,
  ⟨some 5, .call (.cst (.func (.func 61) [] [])) [], none⟩,
  ⟨some 6, .build [(.int .u64 0), (.int .u64 0), (.int .u64 0), (.int .u64 0), (.int .u64 0), (.int .u64 0), (.int .u64 0), (.int .u64 0), (.int .u64 0), (.int .u64 0), (.int .u64 0), (.int .u64 0), (.int .u64 0), (.int .u64 0), (.int .u64 0), (.int .u64 0), (.int .u64 0), (.int .u64 0), (.int .u64 0), (.int .u64 0), (.int .u64 0), (.int .u64 0), (.int .u64 0), (.int .u64 0), (.int .u64 0), (.int .i64 0), (.int .i64 0), (.int .i64 0), (.int .i64 0), (.int .i64 0), (.int .i64 0), (.int .i64 0), (.int .i64 0), (.int .i64 0), (.int .i64 0), (.int .i64 0), (.int .i64 0), (.int .i64 0), (.int .i64 0), (.int .i64 0), (.int .i64 0), (.int .i64 0), (.int .i64 0), (.int .i64 0), (.int .i64 0), (.int .i64 0), (.int .i64 0), (.int .i64 0), (.int .i64 0), (.int .i64 0), (.int .i64 0), (.int .i64 0), (.int .i64 0), (.int .i64 0), (.int .i64 0), (.int .i64 0), (.int .i64 0), (.int .i64 0), (.int .i64 0), (.int .i64 0), (.int .i64 0), (.int .i64 0), (.int .i64 0), (.int .i64 0), (.int .i64 0), (.int .i64 0), (.int .i64 0), (.int .i64 0), (.int .i64 0), (.int .i64 0), (.int .i64 0), (.int .i64 0), (.int .i64 0), (.int .i64 0), (.int .i64 0), (.int .u64 0), (.int .u64 0), (.int .u64 0), (.int .u64 0), (.int .u64 0), (.int .u64 0), (.int .u64 0), (.int .u64 0), (.int .u64 0), (.int .u64 0), (.int .u64 0), (.int .u64 0), (.int .u64 0), (.int .u64 0), (.int .u64 0), (.int .u64 0), (.int .u64 0), (.int .u64 0), (.int .u64 0), (.int .u64 0), (.int .u64 0), (.int .u64 0), (.int .u64 0), (.int .u64 0), (.int .i64 0), (.int .i64 0)] [(99, 1, (.tmp 4)), (75, 24, (.tmp 5))], none⟩,
  ⟨some 7, .box (.tmp 6), none⟩,
  ⟨some 3, .move (.tmp 7), none⟩])
 (.seq
 (.reg [⟨some 9, .move (.tmp 3), none⟩,
  ⟨some 10, .move (.tmp 3), none⟩,
  ⟨some 11, .call (.cst (.func (.func 62) [] [])) [], none⟩,
  ⟨some 8, .move (.tmp 11), none⟩,
  ⟨some 12, .extract (.tmp 8) 0, none⟩,
  ⟨some 13, .extract (.tmp 8) 1, none⟩,
  ⟨some 14, .nilCheck (.tmp 9), none⟩,
  ⟨some 15, .fieldAddr 25 25 (.tmp 14), none⟩,
  ⟨none, .store 25 (.tmp 15) (.tmp 12), none⟩,
  ⟨some 16, .nilCheck (.tmp 10), none⟩,
  ⟨some 17, .fieldAddr 50 25 (.tmp 16), none⟩,
  ⟨none, .store 25 (.tmp 17) (.tmp 13), none⟩])
 (.seq
 (.reg [⟨some 18, .move (.tmp 3), none⟩,
  ⟨some 2, .move (.tmp 18), none⟩])
 (.ret))))⟩
theorem c39 : compF Try.prog gl false [] [] Try.f39 = some F39 := by kernel_rfl
def L40_0 : AC := .seq
 (.reg [⟨some 19, .bin .lss (.tmp 18) (.tmp 17), none⟩])
 (.seq
 (.cond (.tmp 19)
 (.skip)
 (.exit 2))
 (.seq
 (.block 3
 (.seq
 (.reg [⟨some 20, .indexAddr .slice none (.tmp 16) (.tmp 18), none⟩,
  ⟨some 21, .load none (.tmp 20), none⟩,
  ⟨some 9, .move (.tmp 21), none⟩])
 (.seq
 (.reg [⟨some 22, .move (.tmp 0), none⟩,
  ⟨some 23, .move (.tmp 0), none⟩,
  ⟨some 24, .nilCheck (.tmp 23), none⟩,
  ⟨some 25, .fieldAddr 100 1 (.tmp 24), none⟩,
  ⟨some 26, .load none (.tmp 25), none⟩,
  ⟨some 27, .move (.tmp 9), none⟩,
  ⟨some 28, .call (.cst (.func (.func 63) [] [])) [(.tmp 22), (.tmp 26), (.tmp 27)], none⟩])
 (.seq
 (.reg [⟨some 29, .move (.tmp 0), none⟩,
  ⟨some 30, .nilCheck (.tmp 29), none⟩,
  ⟨some 31, .fieldAddr 100 1 (.tmp 30), none⟩,
  ⟨some 32, .load none (.tmp 31), none⟩,
  ⟨some 33, .bin .add (.tmp 32) (.cst (.int .i64 1)), none⟩,
  ⟨some 34, .nilCheck (.tmp 29), none⟩,
  ⟨some 35, .fieldAddr 100 1 (.tmp 34), none⟩,
  ⟨none, .store 1 (.tmp 35) (.tmp 33), none⟩])
 (.seq
 (.regQ [⟨some 36, .move (.tmp 0), none⟩,
  ⟨some 37, .nilCheck (.tmp 36), none⟩,
  ⟨some 38, .fieldAddr 100 1 (.tmp 37), none⟩,
  ⟨some 39, .load none (.tmp 38), none⟩,
  ⟨some 40, .move (.tmp 0), none⟩,
  ⟨some 41, .nilCheck (.tmp 40), none⟩,
  ⟨some 42, .fieldAddr 99 1 (.tmp 41), none⟩,
  ⟨some 43, .load none (.tmp 42), none⟩,
  ⟨some 44, .bin .eql (.tmp 39) (.tmp 43), none⟩])
 (.cond (.tmp 44)
 (.reg [⟨some 45, .move (.tmp 0), none⟩,
  ⟨some 46, .call (.cst (.func (.func 64) [] [])) [(.tmp 45)], none⟩])
 (.skip)))))))
 (.reg [⟨some 47, .bin .add (.tmp 18) (.cst (.int .i64 1)), none⟩,
  ⟨some 18, .move (.tmp 47), none⟩])))
def L40_1 : AC := .seq
 (.reg [⟨some 13, .bin .lss (.tmp 12) (.tmp 11), none⟩])
 (.seq
 (.cond (.tmp 13)
 (.skip)
 (.exit 0))
 (.seq
 (.block 1
 (.seq
 (.reg [⟨some 14, .indexAddr .slice none (.tmp 10) (.tmp 12), none⟩,
  ⟨some 15, .load none (.tmp 14), none⟩,
  ⟨some 7, .move (.tmp 15), none⟩])
 (.seq
 (.reg [⟨some 16, .move (.tmp 7), none⟩,
  ⟨some 17, .len (.tmp 16), none⟩,
  ⟨some 18, .move (.cst (.int .i64 0)), none⟩])
 (.block 2
 (.loop [0, 2, 10, 11, 12, 16, 17, 18] true L40_0)))))
 (.reg [⟨some 48, .bin .add (.tmp 12) (.cst (.int .i64 1)), none⟩,
  ⟨some 12, .move (.tmp 48), none⟩])))
/- (*tollhouse/keccak.sponge).take -/
def F40 : AFn := ⟨65, false, 3, [], .seq
 (.seq
 (.reg [⟨some 10, .move (.tmp 1), none⟩,
  ⟨some 11, .len (.tmp 10), none⟩,
  ⟨some 12, .move (.cst (.int .i64 0)), none⟩])
 (.block 0
 (.loop [0, 2, 10, 11, 12] true L40_1)))
 (.seq
 (.reg [⟨some 49, .move (.tmp 0), none⟩,
  ⟨some 50, .move (.tmp 0), none⟩,
  ⟨some 51, .nilCheck (.tmp 50), none⟩,
  ⟨some 52, .fieldAddr 100 1 (.tmp 51), none⟩,
  ⟨some 53, .load none (.tmp 52), none⟩,
  ⟨some 54, .move (.tmp 2), none⟩,
  ⟨some 55, .call (.cst (.func (.func 63) [] [])) [(.tmp 49), (.tmp 53), (.tmp 54)], none⟩])
 (.seq
 (.reg [⟨some 56, .move (.tmp 0), none⟩,
  ⟨some 57, .move (.tmp 0), none⟩,
  ⟨some 58, .nilCheck (.tmp 57), none⟩,
  ⟨some 59, .fieldAddr 99 1 (.tmp 58), none⟩,
  ⟨some 60, .load none (.tmp 59), none⟩,
  ⟨some 61, .bin .sub (.tmp 60) (.cst (.int .i64 1)), none⟩,
  ⟨some 62, .call (.cst (.func (.func 63) [] [])) [(.tmp 56), (.tmp 61), (.cst (.int .u8 128))], none⟩])
 (.reg [⟨some 63, .move (.tmp 0), none⟩,
  ⟨some 64, .call (.cst (.func (.func 64) [] [])) [(.tmp 63)], none⟩])))⟩
theorem c40 : compF Try.prog gl false [] [([0, 2, 10, 11, 12], true), ([0, 2, 10, 11, 12, 16, 17, 18], true)] Try.f40 = some F40 := by kernel_rfl
def L41_0 : AC := .seq
 (.reg [⟨some 8, .bin .lss (.tmp 7) (.tmp 6), none⟩])
 (.seq
 (.cond (.tmp 8)
 (.skip)
 (.exit 0))
 (.seq
 (.block 1
 (.seq
 (.reg [⟨some 9, .move (.tmp 7), none⟩,
  ⟨some 4, .move (.tmp 9), none⟩])
 (.seq
 (.seq
 (.regQ [⟨some 10, .move (.tmp 0), none⟩,
  ⟨some 11, .nilCheck (.tmp 10), none⟩,
  ⟨some 12, .fieldAddr 100 1 (.tmp 11), none⟩,
  ⟨some 13, .load none (.tmp 12), none⟩,
  ⟨some 14, .move (.tmp 0), none⟩,
  ⟨some 15, .nilCheck (.tmp 14), none⟩,
  ⟨some 16, .fieldAddr 99 1 (.tmp 15), none⟩,
  ⟨some 17, .load none (.tmp 16), none⟩,
  ⟨some 18, .bin .eql (.tmp 13) (.tmp 17), none⟩])
 (.cond (.tmp 18)
 (.reg [⟨some 19, .move (.tmp 0), none⟩,
  ⟨some 20, .call (.cst (.func (.func 64) [] [])) [(.tmp 19)], none⟩])
 (.skip)))
 (.seq
 (.seq
 (.regQ [⟨some 21, .move (.tmp 1), none⟩,
  ⟨some 22, .move (.tmp 4), none⟩,
  ⟨some 23, .move (.tmp 0), none⟩,
  ⟨some 24, .move (.tmp 0), none⟩,
  ⟨some 25, .nilCheck (.tmp 24), none⟩,
  ⟨some 26, .fieldAddr 100 1 (.tmp 25), none⟩,
  ⟨some 27, .load none (.tmp 26), none⟩,
  ⟨some 28, .bin .quo (.tmp 27) (.cst (.int .i64 8)), none⟩,
  ⟨some 29, .nilCheck (.tmp 23), none⟩,
  ⟨some 30, .fieldAddr 0 25 (.tmp 29), none⟩,
  ⟨some 31, .indexAddr (.arr 25) none (.tmp 30) (.tmp 28), none⟩,
  ⟨some 32, .load none (.tmp 31), none⟩,
  ⟨some 33, .move (.tmp 0), none⟩,
  ⟨some 34, .nilCheck (.tmp 33), none⟩,
  ⟨some 35, .fieldAddr 100 1 (.tmp 34), none⟩,
  ⟨some 36, .load none (.tmp 35), none⟩,
  ⟨some 37, .bin .rem (.tmp 36) (.cst (.int .i64 8)), none⟩,
  ⟨some 38, .bin .mul (.cst (.int .i64 8)) (.tmp 37), none⟩,
  ⟨some 39, .bin .shr (.tmp 32) (.tmp 38), none⟩,
  ⟨some 40, .convInt .u8 (.tmp 39), none⟩,
  ⟨some 41, .indexAddr .slice none (.tmp 21) (.tmp 22), none⟩])
 (.reg [⟨none, .store 1 (.tmp 41) (.tmp 40), none⟩]))
 (.reg [⟨some 42, .move (.tmp 0), none⟩,
  ⟨some 43, .nilCheck (.tmp 42), none⟩,
  ⟨some 44, .fieldAddr 100 1 (.tmp 43), none⟩,
  ⟨some 45, .load none (.tmp 44), none⟩,
  ⟨some 46, .bin .add (.tmp 45) (.cst (.int .i64 1)), none⟩,
  ⟨some 47, .nilCheck (.tmp 42), none⟩,
  ⟨some 48, .fieldAddr 100 1 (.tmp 47), none⟩,
  ⟨none, .store 1 (.tmp 48) (.tmp 46), none⟩])))))
 (.reg [⟨some 49, .bin .add (.tmp 7) (.cst (.int .i64 1)), none⟩,
  ⟨some 7, .move (.tmp 49), none⟩])))
/- (*tollhouse/keccak.sponge).let -/
def F41 : AFn := ⟨50, false, 2, [], .seq
 (.reg [⟨some 5, .move (.tmp 1), none⟩,
  ⟨some 6, .len (.tmp 5), none⟩,
  ⟨some 7, .move (.cst (.int .i64 0)), none⟩])
 (.block 0
 (.loop [0, 1, 6, 7] true L41_0))⟩
theorem c41 : compF Try.prog gl false [] [([0, 1, 6, 7], true)] Try.f41 = some F41 := by kernel_rfl
def L43_0 : AC := .seq
 (.seq
 (.reg [⟨some 85, .move (.tmp 15), none⟩,
  ⟨some 86, .move (.tmp 1), none⟩,
  ⟨some 87, .bin .lss (.tmp 85) (.tmp 86), none⟩,
  ⟨some 88, .move (.tmp 87), none⟩,
  ⟨some 89, .move (.tmp 14), some (88, true)⟩,
  ⟨some 90, .len (.tmp 89), some (88, true)⟩,
  ⟨some 91, .move (.tmp 0), some (88, true)⟩,
  ⟨some 92, .bin .lss (.tmp 90) (.tmp 91), some (88, true)⟩,
  ⟨some 93, .pick (.tmp 88) (.tmp 92) (.cst (.bool false)), none⟩])
 (.cond (.tmp 93)
 (.skip)
 (.exit 8)))
 (.seq
 (.block 9
 (.reg [⟨some 96, .move (.tmp 14), none⟩,
  ⟨some 97, .move (.tmp 15), none⟩,
  ⟨some 98, .bin .quo (.tmp 97) (.cst (.int .i64 8)), none⟩,
  ⟨some 99, .indexAddr (.arr 25) none (.tmp 11) (.tmp 98), none⟩,
  ⟨some 100, .load none (.tmp 99), none⟩,
  ⟨some 101, .move (.tmp 15), none⟩,
  ⟨some 102, .bin .rem (.tmp 101) (.cst (.int .i64 8)), none⟩,
  ⟨some 103, .bin .mul (.cst (.int .i64 8)) (.tmp 102), none⟩,
  ⟨some 104, .bin .shr (.tmp 100) (.tmp 103), none⟩,
  ⟨some 105, .convInt .u8 (.tmp 104), none⟩,
  ⟨some 106, .buildSlice none (.int .u8 0) 1 [(0, (.tmp 105))], none⟩,
  ⟨some 107, .append none 1 (.tmp 96) (.tmp 106), none⟩,
  ⟨some 14, .move (.tmp 107), none⟩]))
 (.reg [⟨some 94, .move (.tmp 15), none⟩,
  ⟨some 95, .bin .add (.tmp 94) (.cst (.int .i64 1)), none⟩,
  ⟨some 15, .move (.tmp 95), none⟩]))
def L43_1 : AC := .seq
 (.seq
 (.reg [⟨some 76, .move (.tmp 14), none⟩,
  ⟨some 77, .len (.tmp 76), none⟩,
  ⟨some 78, .move (.tmp 0), none⟩,
  ⟨some 79, .bin .lss (.tmp 77) (.tmp 78), none⟩])
 (.cond (.tmp 79)
 (.skip)
 (.exit 6)))
 (.block 7
 (.seq
 (.seq
 (.reg [⟨some 80, .move (.tmp 14), none⟩,
  ⟨some 81, .len (.tmp 80), none⟩,
  ⟨some 82, .bin .gtr (.tmp 81) (.cst (.int .i64 0)), none⟩])
 (.cond (.tmp 82)
 (.reg [⟨some 83, .load (some 25) (.tmp 11), none⟩,
  ⟨some 84, .call (.cst (.func (.func 66) [] [])) [(.tmp 10), (.tmp 83)], none⟩,
  ⟨none, .store 25 (.tmp 11) (.tmp 84), none⟩])
 (.skip)))
 (.seq
 (.reg [⟨some 15, .move (.cst (.int .i64 0)), none⟩])
 (.block 8
 (.loop [0, 1, 10, 11, 14, 15] false L43_0)))))
def L43_2 : AC := .seq
 (.seq
 (.reg [⟨some 50, .move (.tmp 13), none⟩,
  ⟨some 51, .move (.tmp 1), none⟩,
  ⟨some 52, .bin .lss (.tmp 50) (.tmp 51), none⟩])
 (.cond (.tmp 52)
 (.skip)
 (.exit 4)))
 (.seq
 (.block 5
 (.seq
 (.regQ [⟨some 55, .move (.tmp 13), none⟩,
  ⟨some 56, .bin .quo (.tmp 55) (.cst (.int .i64 8)), none⟩,
  ⟨some 57, .move (.tmp 13), none⟩,
  ⟨some 58, .bin .quo (.tmp 57) (.cst (.int .i64 8)), none⟩,
  ⟨some 59, .indexAddr (.arr 25) none (.tmp 11) (.tmp 58), none⟩,
  ⟨some 60, .load none (.tmp 59), none⟩,
  ⟨some 61, .move (.tmp 9), none⟩,
  ⟨some 62, .move (.tmp 12), none⟩,
  ⟨some 63, .move (.tmp 13), none⟩,
  ⟨some 64, .bin .add (.tmp 62) (.tmp 63), none⟩,
  ⟨some 65, .indexAddr .slice none (.tmp 61) (.tmp 64), none⟩,
  ⟨some 66, .load none (.tmp 65), none⟩,
  ⟨some 67, .convInt .u64 (.tmp 66), none⟩,
  ⟨some 68, .move (.tmp 13), none⟩,
  ⟨some 69, .bin .rem (.tmp 68) (.cst (.int .i64 8)), none⟩,
  ⟨some 70, .bin .mul (.cst (.int .i64 8)) (.tmp 69), none⟩,
  ⟨some 71, .bin .shl (.tmp 67) (.tmp 70), none⟩,
  ⟨some 72, .bin .xor (.tmp 60) (.tmp 71), none⟩,
  ⟨some 73, .indexAddr (.arr 25) none (.tmp 11) (.tmp 56), none⟩])
 (.reg [⟨none, .store 1 (.tmp 73) (.tmp 72), none⟩])))
 (.reg [⟨some 53, .move (.tmp 13), none⟩,
  ⟨some 54, .bin .add (.tmp 53) (.cst (.int .i64 1)), none⟩,
  ⟨some 13, .move (.tmp 54), none⟩]))
def L43_3 : AC := .seq
 (.seq
 (.reg [⟨some 43, .move (.tmp 12), none⟩,
  ⟨some 44, .move (.tmp 9), none⟩,
  ⟨some 45, .len (.tmp 44), none⟩,
  ⟨some 46, .bin .lss (.tmp 43) (.tmp 45), none⟩])
 (.cond (.tmp 46)
 (.skip)
 (.exit 2)))
 (.seq
 (.block 3
 (.seq
 (.seq
 (.reg [⟨some 13, .move (.cst (.int .i64 0)), none⟩])
 (.block 4
 (.loop [0, 1, 9, 10, 11, 12, 13] false L43_2)))
 (.reg [⟨some 74, .load (some 25) (.tmp 11), none⟩,
  ⟨some 75, .call (.cst (.func (.func 66) [] [])) [(.tmp 10), (.tmp 74)], none⟩,
  ⟨none, .store 25 (.tmp 11) (.tmp 75), none⟩])))
 (.reg [⟨some 47, .move (.tmp 12), none⟩,
  ⟨some 48, .move (.tmp 1), none⟩,
  ⟨some 49, .bin .add (.tmp 47) (.tmp 48), none⟩,
  ⟨some 12, .move (.tmp 49), none⟩]))
def L43_4 : AC := .seq
 (.seq
 (.reg [⟨some 22, .move (.tmp 9), none⟩,
  ⟨some 23, .len (.tmp 22), none⟩,
  ⟨some 24, .move (.tmp 1), none⟩,
  ⟨some 25, .bin .rem (.tmp 23) (.tmp 24), none⟩,
  ⟨some 26, .bin .neq (.tmp 25) (.cst (.int .i64 0)), none⟩])
 (.cond (.tmp 26)
 (.skip)
 (.exit 0)))
 (.block 1
 (.reg [⟨some 27, .move (.tmp 9), none⟩,
  ⟨some 28, .buildSlice none (.int .u8 0) 1 [(0, (.cst (.int .u8 0)))], none⟩,
  ⟨some 29, .appendV none 1 (.tmp 27) (.tmp 28), none⟩,
  ⟨some 9, .move (.tmp 29), none⟩]))
/- tollhouse/tollhouseref03.Out -/
def F43 : AFn := ⟨109, true, 4, [.tmp 8], .seq
 (.reg [⟨some 8, .move (.cst .nil), none⟩])
 (.seq
 (.reg [⟨some 16, .buildSlice none (.int .u8 0) 0 [], none⟩,
  ⟨some 17, .move (.tmp 3), none⟩,
  ⟨some 18, .appendV none 1 (.tmp 16) (.tmp 17), none⟩,
  ⟨some 19, .move (.tmp 2), none⟩,
  ⟨some 20, .buildSlice none (.int .u8 0) 1 [(0, (.tmp 19))], none⟩,
  ⟨some 21, .appendV none 1 (.tmp 18) (.tmp 20), none⟩,
  ⟨some 9, .move (.tmp 21), none⟩])
 (.seq
 (.block 0
 (.loop [0, 1, 9] false L43_4))
 (.seq
 (.reg [⟨some 30, .move (.tmp 9), none⟩,
  ⟨some 31, .move (.tmp 9), none⟩,
  ⟨some 32, .len (.tmp 31), none⟩,
  ⟨some 33, .bin .sub (.tmp 32) (.cst (.int .i64 1)), none⟩,
  ⟨some 34, .move (.tmp 9), none⟩,
  ⟨some 35, .move (.tmp 9), none⟩,
  ⟨some 36, .len (.tmp 35), none⟩,
  ⟨some 37, .bin .sub (.tmp 36) (.cst (.int .i64 1)), none⟩,
  ⟨some 38, .indexAddr .slice none (.tmp 34) (.tmp 37), none⟩,
  ⟨some 39, .load none (.tmp 38), none⟩,
  ⟨some 40, .bin .xor (.tmp 39) (.cst (.int .u8 128)), none⟩,
  ⟨some 41, .indexAddr .slice none (.tmp 30) (.tmp 33), none⟩,
  ⟨none, .store 1 (.tmp 41) (.tmp 40), none⟩])
 (.seq
 (.reg [⟨some 42, .call (.cst (.func (.func 65) [] [])) [], none⟩,
  ⟨some 10, .alloc [(.int .i64 0), (.int .i64 0), (.int .i64 0), (.int .i64 0), (.int .i64 0), (.int .i64 0), (.int .i64 0), (.int .i64 0), (.int .i64 0), (.int .i64 0), (.int .i64 0), (.int .i64 0), (.int .i64 0), (.int .i64 0), (.int .i64 0), (.int .i64 0), (.int .i64 0), (.int .i64 0), (.int .i64 0), (.int .i64 0), (.int .i64 0), (.int .i64 0), (.int .i64 0), (.int .i64 0), (.int .i64 0), (.int .u64 0), (.int .u64 0), (.int .u64 0), (.int .u64 0), (.int .u64 0), (.int .u64 0), (.int .u64 0), (.int .u64 0), (.int .u64 0), (.int .u64 0), (.int .u64 0), (.int .u64 0), (.int .u64 0), (.int .u64 0), (.int .u64 0), (.int .u64 0), (.int .u64 0), (.int .u64 0), (.int .u64 0), (.int .u64 0), (.int .u64 0), (.int .u64 0), (.int .u64 0), (.int .u64 0)], none⟩,
  ⟨none, .store 49 (.tmp 10) (.tmp 42), none⟩])
 (.seq
 (.reg [⟨some 11, .alloc [(.int .u64 0), (.int .u64 0), (.int .u64 0), (.int .u64 0), (.int .u64 0), (.int .u64 0), (.int .u64 0), (.int .u64 0), (.int .u64 0), (.int .u64 0), (.int .u64 0), (.int .u64 0), (.int .u64 0), (.int .u64 0), (.int .u64 0), (.int .u64 0), (.int .u64 0), (.int .u64 0), (.int .u64 0), (.int .u64 0), (.int .u64 0), (.int .u64 0), (.int .u64 0), (.int .u64 0), (.int .u64 0)], none⟩])
 (.seq
 (.seq
 (.reg [⟨some 12, .move (.cst (.int .i64 0)), none⟩])
 (.block 2
 (.loop [0, 1, 9, 10, 11, 12] false L43_3)))
 (.seq
 (.reg [⟨some 14, .acc none (.cst .nil), none⟩])
 (.seq
 (.block 6
 (.loop [0, 1, 10, 11, 14] false L43_1))
 (.seq
 (.reg [⟨some 108, .move (.tmp 14), none⟩,
  ⟨some 8, .move (.tmp 108), none⟩])
 (.ret))))))))))⟩
theorem c43 : compF Try.prog gl true [(14, none), (18, (some 0)), (21, (some 0)), (29, (some 0))] [([0, 1, 9], false), ([0, 1, 9, 10, 11, 12], false), ([0, 1, 9, 10, 11, 12, 13], false), ([0, 1, 10, 11, 14], false), ([0, 1, 10, 11, 14, 15], false)] Try.f43 = some F43 := by kernel_rfl
def L44_0 : AC := .seq
 (.reg [⟨some 14, .bin .lss (.tmp 13) (.tmp 12), none⟩])
 (.seq
 (.cond (.tmp 14)
 (.skip)
 (.exit 0))
 (.seq
 (.block 1
 (.seq
 (.reg [⟨some 15, .move (.tmp 13), none⟩,
  ⟨some 5, .move (.tmp 15), none⟩])
 (.seq
 (.regQ [⟨some 16, .move (.tmp 0), none⟩,
  ⟨some 17, .move (.tmp 5), none⟩,
  ⟨some 18, .indexAddr .slice none (.tmp 16) (.tmp 17), none⟩,
  ⟨some 19, .load none (.tmp 18), none⟩,
  ⟨some 20, .move (.tmp 1), none⟩,
  ⟨some 21, .move (.tmp 5), none⟩,
  ⟨some 22, .indexAddr .slice none (.tmp 20) (.tmp 21), none⟩,
  ⟨some 23, .load none (.tmp 22), none⟩,
  ⟨some 24, .bin .neq (.tmp 19) (.tmp 23), none⟩])
 (.cond (.tmp 24)
 (.seq
 (.reg [⟨some 4, .move (.cst (.bool false)), none⟩])
 (.ret))
 (.skip)))))
 (.reg [⟨some 25, .bin .add (.tmp 13) (.cst (.int .i64 1)), none⟩,
  ⟨some 13, .move (.tmp 25), none⟩])))
/- slices.Equal[[]byte,byte] -/
def F44 : AFn := ⟨26, true, 2, [.tmp 4], .seq
 (.reg [⟨some 4, .move (.cst (.bool false)), none⟩])
 (.seq
 (.seq
 (.reg [⟨some 6, .move (.tmp 0), none⟩,
  ⟨some 7, .len (.tmp 6), none⟩,
  ⟨some 8, .move (.tmp 1), none⟩,
  ⟨some 9, .len (.tmp 8), none⟩,
  ⟨some 10, .bin .neq (.tmp 7) (.tmp 9), none⟩])
 (.cond (.tmp 10)
 (.seq
 (.reg [⟨some 4, .move (.cst (.bool false)), none⟩])
 (.ret))
 (.skip)))
 (.seq
 (.seq
 (.reg [⟨some 11, .move (.tmp 0), none⟩,
  ⟨some 12, .len (.tmp 11), none⟩,
  ⟨some 13, .move (.cst (.int .i64 0)), none⟩])
 (.block 0
 (.loop [0, 1, 12, 13] true L44_0)))
 (.seq
 (.reg [⟨some 4, .move (.cst (.bool true)), none⟩])
 (.ret))))⟩
theorem c44 : compF Try.prog gl true [] [([0, 1, 12, 13], true)] Try.f44 = some F44 := by kernel_rfl
/- (*tollhouse/files.Files).Read -/
def F45 : AFn := ⟨29, false, 2, [.tmp 4, .tmp 5], .seq
 (.reg [⟨some 4, .move (.cst .nil), none⟩,
  ⟨some 5, .move (.cst (.int .i64 0)), none⟩])
 (.seq
 (.seq
 (.reg [⟨some 9, .move (.tmp 0), none⟩,
  ⟨some 10, .move (.tmp 1), none⟩,
  ⟨some 11, .buildSlice none (.sc (.string (bs []))) 1 [(0, (.tmp 10))], none⟩,
  ⟨some 12, .call (.cst (.func (.func 52) [] [])) [(.tmp 9), (.tmp 11)], none⟩,
  ⟨some 6, .move (.tmp 12), none⟩])
 (.seq
 (.reg [⟨some 13, .move (.tmp 6), none⟩,
  ⟨some 14, .bin .neq (.tmp 13) (.cst (.int .i64 0)), none⟩])
 (.cond (.tmp 14)
 (.seq
 (.reg [⟨some 15, .move (.tmp 6), none⟩,
  ⟨some 4, .move (.cst .nil), none⟩,
  ⟨some 5, .move (.tmp 15), none⟩])
 (.ret))
 (.skip))))
 (.seq
 (.reg [⟨some 17, .move (.tmp 0), none⟩,
  ⟨some 18, .nilCheck (.tmp 17), none⟩,
  ⟨some 19, .fieldAddr 2 1 (.tmp 18), none⟩,
  ⟨some 20, .load none (.tmp 19), none⟩,
  ⟨some 21, .move (.tmp 1), none⟩,
  ⟨some 22, .lookup false [.str] (.agg [.nil, (.int .i64 0)]) true (.tmp 20) (.tmp 21), none⟩,
  ⟨some 16, .move (.tmp 22), none⟩,
  ⟨some 23, .extract (.tmp 16) 0, none⟩,
  ⟨some 24, .extract (.tmp 16) 1, none⟩,
  ⟨some 7, .alloc [.nil, (.int .i64 0)], none⟩,
  ⟨none, .store 2 (.tmp 7) (.tmp 23), none⟩,
  ⟨some 8, .move (.tmp 24), none⟩])
 (.seq
 (.seq
 (.reg [⟨some 25, .move (.tmp 8), none⟩,
  ⟨some 26, .un .not (.tmp 25), none⟩])
 (.cond (.tmp 26)
 (.seq
 (.reg [⟨some 4, .move (.cst .nil), none⟩,
  ⟨some 5, .move (.cst (.int .i64 4)), none⟩])
 (.ret))
 (.skip)))
 (.seq
 (.reg [⟨some 27, .load (some 2) (.tmp 7), none⟩,
  ⟨some 28, .call (.cst (.func (.func 67) [] [])) [(.tmp 27)], none⟩,
  ⟨some 4, .move (.tmp 28), none⟩,
  ⟨some 5, .move (.cst (.int .i64 0)), none⟩])
 (.ret)))))⟩
theorem c45 : compF Try.prog gl false [] [] Try.f45 = some F45 := by kernel_rfl
/- tollhouse/log.Open$1 -/
def F46 : AFn := ⟨18, false, 3, [.tmp 3], .seq
 (.reg [⟨some 3, .move (.cst (.int .i64 0)), none⟩])
 (.seq
 (.reg [⟨some 7, .load none (.tmp 0), none⟩,
  ⟨some 8, .load none (.tmp 1), none⟩,
  ⟨some 9, .bin .add (.tmp 8) (.cst (.sc (.string (bs [45, 110, 101, 119])))), none⟩,
  ⟨some 10, .call (.cst (.func (.func 35) [] [])) [(.tmp 7), (.tmp 9)], none⟩,
  ⟨some 6, .move (.tmp 10), none⟩,
  ⟨some 11, .extract (.tmp 6) 0, none⟩,
  ⟨some 12, .extract (.tmp 6) 1, none⟩,
  ⟨some 4, .move (.tmp 11), none⟩,
  ⟨some 5, .move (.tmp 12), none⟩])
 (.seq
 (.reg [⟨some 13, .load none (.tmp 2), none⟩,
  ⟨some 14, .move (.tmp 13), none⟩,
  ⟨some 15, .move (.tmp 4), some (14, false)⟩,
  ⟨some 16, .pick (.tmp 14) (.cst (.bool true)) (.tmp 15), none⟩,
  ⟨none, .store 1 (.tmp 2) (.tmp 16), none⟩])
 (.seq
 (.reg [⟨some 17, .move (.tmp 5), none⟩,
  ⟨some 3, .move (.tmp 17), none⟩])
 (.ret))))⟩
theorem c46 : compF Try.prog gl false [] [] Try.f46 = some F46 := by kernel_rfl
/- tollhouse/log.Open$2 -/
def F47 : AFn := ⟨13, false, 4, [.tmp 4], .seq
 (.reg [⟨some 4, .move (.cst (.int .i64 0)), none⟩])
 (.seq
 (.seq
 (.reg [⟨some 5, .load none (.tmp 0), none⟩,
  ⟨some 6, .load none (.tmp 1), none⟩,
  ⟨some 7, .len (.tmp 6), none⟩,
  ⟨some 8, .bin .eql (.tmp 5) (.tmp 7), none⟩])
 (.cond (.tmp 8)
 (.seq
 (.reg [⟨some 4, .move (.cst (.int .i64 0)), none⟩])
 (.ret))
 (.skip)))
 (.seq
 (.reg [⟨some 9, .load none (.tmp 2), none⟩,
  ⟨some 10, .load none (.tmp 3), none⟩,
  ⟨some 11, .load none (.tmp 0), none⟩,
  ⟨some 12, .call (.cst (.func (.func 48) [] [])) [(.tmp 9), (.tmp 10), (.tmp 11)], none⟩,
  ⟨some 4, .move (.tmp 12), none⟩])
 (.ret)))⟩
theorem c47 : compF Try.prog gl false [] [] Try.f47 = some F47 := by kernel_rfl
/- (*tollhouse/files.Files).Truncate -/
def F48 : AFn := ⟨29, false, 3, [.tmp 6], .seq
 (.reg [⟨some 4, .boxI (.tmp 1), none⟩,
  ⟨some 5, .boxI (.tmp 2), none⟩,
  ⟨some 6, .move (.cst (.int .i64 0)), none⟩])
 (.seq
 (.seq
 (.reg [⟨some 8, .move (.tmp 0), none⟩,
  ⟨some 9, .load none (.tmp 4), none⟩,
  ⟨some 10, .buildSlice none (.sc (.string (bs []))) 1 [(0, (.tmp 9))], none⟩,
  ⟨some 11, .call (.cst (.func (.func 52) [] [])) [(.tmp 8), (.tmp 10)], none⟩,
  ⟨some 7, .move (.tmp 11), none⟩])
 (.seq
 (.reg [⟨some 12, .move (.tmp 7), none⟩,
  ⟨some 13, .bin .eql (.tmp 12) (.cst (.int .i64 6)), none⟩,
  ⟨some 14, .move (.tmp 13), none⟩,
  ⟨some 15, .move (.tmp 7), some (14, false)⟩,
  ⟨some 16, .bin .eql (.tmp 15) (.cst (.int .i64 1)), some (14, false)⟩,
  ⟨some 17, .pick (.tmp 14) (.cst (.bool true)) (.tmp 16), none⟩])
 (.cond (.tmp 17)
 (.seq
 (.reg [⟨some 18, .move (.tmp 7), none⟩,
  ⟨some 6, .move (.tmp 18), none⟩])
 (.ret))
 (.skip))))
 (.seq
 (.block 0
 (.seq
 (.reg [⟨some 20, .load none (.tmp 5), none⟩,
  ⟨some 21, .bin .lss (.tmp 20) (.cst (.int .i64 0)), none⟩,
  ⟨some 19, .move (.tmp 21), none⟩])
 (.cond (.tmp 19)
 (.seq
 (.reg [⟨some 6, .move (.cst (.int .i64 1)), none⟩])
 (.ret))
 (.seq
 (.reg [⟨some 23, .move (.tmp 0), none⟩,
  ⟨some 24, .call (.cst (.func (.func 68) [] [])) [(.tmp 23)], none⟩,
  ⟨some 22, .move (.tmp 24), none⟩])
 (.cond (.tmp 22)
 (.seq
 (.reg [⟨some 6, .move (.cst (.int .i64 100)), none⟩])
 (.ret))
 (.skip))))))
 (.seq
 (.reg [⟨some 25, .move (.tmp 0), none⟩,
  ⟨some 26, .load none (.tmp 4), none⟩,
  ⟨some 27, .makeFunc (.func 69) [] [(.tmp 4), (.tmp 5)], none⟩,
  ⟨some 28, .call (.cst (.func (.func 59) [] [])) [(.tmp 25), (.tmp 26), (.tmp 27)], none⟩,
  ⟨some 6, .move (.tmp 28), none⟩])
 (.ret))))⟩
theorem c48 : compF Try.prog gl false [(4, (some 0)), (5, (some 0))] [] Try.f48 = some F48 := by kernel_rfl
/- tollhouse/log.Open$3 -/
def F49 : AFn := ⟨7, false, 2, [.tmp 2], .seq
 (.reg [⟨some 2, .move (.cst (.int .i64 0)), none⟩])
 (.seq
 (.seq
 (.reg [⟨some 3, .load none (.tmp 0), none⟩,
  ⟨some 4, .un .not (.tmp 3), none⟩])
 (.cond (.tmp 4)
 (.seq
 (.reg [⟨some 2, .move (.cst (.int .i64 0)), none⟩])
 (.ret))
 (.skip)))
 (.seq
 (.reg [⟨some 5, .load none (.tmp 1), none⟩,
  ⟨some 6, .call (.cst (.func (.func 31) [] [])) [(.tmp 5)], none⟩,
  ⟨some 2, .move (.tmp 6), none⟩])
 (.ret)))⟩
theorem c49 : compF Try.prog gl false [] [] Try.f49 = some F49 := by kernel_rfl
/- (*tollhouse/files.Files).made -/
def F50 : AFn := ⟨12, false, 1, [.tmp 2], .seq
 (.reg [⟨some 2, .move (.cst (.bool false)), none⟩])
 (.seq
 (.reg [⟨some 3, .move (.tmp 0), none⟩,
  ⟨some 4, .eqNil true .ptr (.tmp 3), none⟩,
  ⟨some 5, .move (.tmp 4), none⟩,
  ⟨some 6, .move (.tmp 0), some (5, true)⟩,
  ⟨some 7, .nilCheck (.tmp 6), some (5, true)⟩,
  ⟨some 8, .fieldAddr 2 1 (.tmp 7), some (5, true)⟩,
  ⟨some 9, .load none (.tmp 8), some (5, true)⟩,
  ⟨some 10, .eqNil true .map (.tmp 9), some (5, true)⟩,
  ⟨some 11, .pick (.tmp 5) (.tmp 10) (.cst (.bool false)), none⟩,
  ⟨some 2, .move (.tmp 11), none⟩])
 (.ret))⟩
theorem c50 : compF Try.prog gl false [] [] Try.f50 = some F50 := by kernel_rfl
/- (*tollhouse/files.Files).may -/
def F52 : AFn := ⟨15, false, 2, [.tmp 4], .seq
 (.reg [⟨some 4, .move (.cst (.int .i64 0)), none⟩])
 (.seq
 (.block 0
 (.seq
 (.reg [⟨some 6, .move (.tmp 0), none⟩,
  ⟨some 7, .call (.cst (.func (.func 50) [] [])) [(.tmp 6)], none⟩,
  ⟨some 8, .un .not (.tmp 7), none⟩,
  ⟨some 5, .move (.tmp 8), none⟩])
 (.cond (.tmp 5)
 (.seq
 (.reg [⟨some 4, .move (.cst (.int .i64 6)), none⟩])
 (.ret))
 (.seq
 (.reg [⟨some 10, .move (.tmp 1), none⟩,
  ⟨some 11, .call (.cst (.func (.func 71) [] [])) [(.tmp 10), (.cst (.func (.func 72) [] []))], none⟩,
  ⟨some 9, .move (.tmp 11), none⟩])
 (.cond (.tmp 9)
 (.seq
 (.reg [⟨some 4, .move (.cst (.int .i64 1)), none⟩])
 (.ret))
 (.seq
 (.reg [⟨some 13, .move (.tmp 0), none⟩,
  ⟨some 14, .call (.cst (.func (.func 68) [] [])) [(.tmp 13)], none⟩,
  ⟨some 12, .move (.tmp 14), none⟩])
 (.cond (.tmp 12)
 (.seq
 (.reg [⟨some 4, .move (.cst (.int .i64 100)), none⟩])
 (.ret))
 (.skip))))))))
 (.seq
 (.reg [⟨some 4, .move (.cst (.int .i64 0)), none⟩])
 (.ret)))⟩
theorem c52 : compF Try.prog gl false [] [] Try.f52 = some F52 := by kernel_rfl
/- (*tollhouse/files.Files).Append$1 -/
def F54 : AFn := ⟨15, false, 4, [], .regD [⟨some 6, .move (.tmp 0), none⟩,
  ⟨some 7, .load none (.tmp 2), none⟩,
  ⟨some 8, .move (.tmp 0), none⟩,
  ⟨some 9, .load none (.tmp 2), none⟩,
  ⟨some 10, .lookup false [.str] (.agg [.nil, (.int .i64 0)]) false (.tmp 8) (.tmp 9), none⟩,
  ⟨some 11, .load none (.tmp 3), none⟩,
  ⟨some 12, .move (.tmp 1), none⟩,
  ⟨some 13, .slice .slice none (.tmp 11) none (some (.tmp 12)) none, none⟩,
  ⟨some 14, .call (.cst (.func (.func 55) [] [])) [(.tmp 10), (.tmp 13)], none⟩,
  ⟨none, .mapSet false [.str] (.tmp 6) (.tmp 7) (.tmp 14), none⟩] [(0, 1), (0, 1), (0, 0), (0, 0), (0, 0), (0, 0), (0, 0), (0, 0), (0, 0), (1, 1)]⟩
theorem c54 : compF Try.prog gl false [] [] Try.f54 = some F54 := by kernel_rfl
/- (tollhouse/files.file).with -/
def F55 : AFn := ⟨17, true, 2, [.cell 4 (some 2)], .seq
 (.reg [⟨some 2, .box (.tmp 0), none⟩,
  ⟨some 4, .alloc [.nil, (.int .i64 0)], none⟩])
 (.seq
 (.regD [⟨some 5, .fieldAddr 0 1 (.tmp 2), none⟩,
  ⟨some 6, .load none (.tmp 5), none⟩,
  ⟨some 7, .call (.cst (.func (.func 74) [] [])) [(.tmp 6)], none⟩,
  ⟨some 8, .move (.tmp 1), none⟩,
  ⟨some 9, .buildSlice none .nil 1 [(0, (.tmp 8))], none⟩,
  ⟨some 10, .append none 24 (.tmp 7) (.tmp 9), none⟩,
  ⟨some 11, .fieldAddr 1 1 (.tmp 2), none⟩,
  ⟨some 12, .load none (.tmp 11), none⟩,
  ⟨some 13, .move (.tmp 1), none⟩,
  ⟨some 14, .len (.tmp 13), none⟩,
  ⟨some 15, .bin .add (.tmp 12) (.tmp 14), none⟩,
  ⟨some 16, .build [.nil, (.int .i64 0)] [(0, 1, (.tmp 10)), (1, 1, (.tmp 15))], none⟩,
  ⟨none, .store 2 (.tmp 4) (.tmp 16), none⟩] [(0, 0), (0, 0), (0, 0), (0, 1), (0, 1), (1, 1), (0, 2), (0, 2), (0, 2), (0, 2), (0, 2), (2, 2), (2, 2)])
 (.ret))⟩
theorem c55 : compF Try.prog gl true [] [] Try.f55 = some F55 := by kernel_rfl
/- (*tollhouse/files.Files).does -/
def F56 : AFn := ⟨26, false, 2, [.tmp 4], .seq
 (.reg [⟨some 3, .boxI (.tmp 1), none⟩,
  ⟨some 4, .move (.cst (.int .i64 0)), none⟩])
 (.seq
 (.regD [⟨some 5, .move (.tmp 0), none⟩,
  ⟨some 6, .move (.tmp 0), none⟩,
  ⟨some 7, .nilCheck (.tmp 6), none⟩,
  ⟨some 8, .fieldAddr 3 1 (.tmp 7), none⟩,
  ⟨some 9, .load none (.tmp 8), none⟩,
  ⟨some 10, .load (some 4) (.tmp 3), none⟩,
  ⟨some 11, .buildSlice (some 4) (.agg [(.sc .nilFunc), (.int .i64 0), (.bool false), (.sc (.string (bs [])))]) 1 [(0, (.tmp 10))], none⟩,
  ⟨some 12, .append (some 4) 40 (.tmp 9) (.tmp 11), none⟩,
  ⟨some 13, .nilCheck (.tmp 5), none⟩,
  ⟨some 14, .fieldAddr 3 1 (.tmp 13), none⟩,
  ⟨none, .store 1 (.tmp 14) (.tmp 12), none⟩] [(0, 1), (0, 0), (0, 0), (0, 0), (0, 0), (0, 0), (0, 0), (0, 0), (1, 1), (1, 1), (1, 1)])
 (.seq
 (.regD [⟨some 15, .fieldAddr 0 1 (.tmp 3), none⟩,
  ⟨some 16, .load none (.tmp 15), none⟩,
  ⟨some 17, .move (.tmp 0), none⟩,
  ⟨some 18, .nilCheck (.tmp 17), none⟩,
  ⟨some 19, .fieldAddr 2 1 (.tmp 18), none⟩,
  ⟨some 20, .load none (.tmp 19), none⟩,
  ⟨some 21, .fieldAddr 1 1 (.tmp 3), none⟩,
  ⟨some 22, .load none (.tmp 21), none⟩,
  ⟨some 23, .call (.tmp 16) [(.tmp 20), (.tmp 22)], none⟩] [(0, 0), (0, 0), (0, 0), (0, 0), (0, 0), (0, 0), (0, 0), (0, 0), (0, 0)])
 (.seq
 (.reg [⟨some 24, .move (.tmp 0), none⟩,
  ⟨some 25, .call (.cst (.func (.func 57) [] [])) [(.tmp 24)], none⟩,
  ⟨some 4, .move (.tmp 25), none⟩])
 (.ret))))⟩
theorem c56 : compF Try.prog gl false [(3, (some 0))] [] Try.f56 = some F56 := by kernel_rfl
/- (*tollhouse/files.Files).did -/
def F57 : AFn := ⟨15, false, 1, [.tmp 2], .seq
 (.reg [⟨some 2, .move (.cst (.int .i64 0)), none⟩])
 (.seq
 (.seq
 (.reg [⟨some 3, .move (.tmp 0), none⟩,
  ⟨some 4, .nilCheck (.tmp 3), none⟩,
  ⟨some 5, .fieldAddr 4 1 (.tmp 4), none⟩,
  ⟨some 6, .load none (.tmp 5), none⟩,
  ⟨some 7, .bin .gtr (.tmp 6) (.cst (.int .i64 0)), none⟩])
 (.cond (.tmp 7)
 (.reg [⟨some 8, .move (.tmp 0), none⟩,
  ⟨some 9, .nilCheck (.tmp 8), none⟩,
  ⟨some 10, .fieldAddr 4 1 (.tmp 9), none⟩,
  ⟨some 11, .load none (.tmp 10), none⟩,
  ⟨some 12, .bin .sub (.tmp 11) (.cst (.int .i64 1)), none⟩,
  ⟨some 13, .nilCheck (.tmp 8), none⟩,
  ⟨some 14, .fieldAddr 4 1 (.tmp 13), none⟩,
  ⟨none, .store 1 (.tmp 14) (.tmp 12), none⟩])
 (.skip)))
 (.seq
 (.reg [⟨some 2, .move (.cst (.int .i64 0)), none⟩])
 (.ret)))⟩
theorem c57 : compF Try.prog gl false [] [] Try.f57 = some F57 := by kernel_rfl
/- (*tollhouse/files.Files).Remove -/
def F58 : AFn := ⟨17, false, 2, [.tmp 4], .seq
 (.reg [⟨some 3, .boxI (.tmp 1), none⟩,
  ⟨some 4, .move (.cst (.int .i64 0)), none⟩])
 (.seq
 (.seq
 (.reg [⟨some 6, .move (.tmp 0), none⟩,
  ⟨some 7, .load none (.tmp 3), none⟩,
  ⟨some 8, .buildSlice none (.sc (.string (bs []))) 1 [(0, (.tmp 7))], none⟩,
  ⟨some 9, .call (.cst (.func (.func 52) [] [])) [(.tmp 6), (.tmp 8)], none⟩,
  ⟨some 5, .move (.tmp 9), none⟩])
 (.seq
 (.reg [⟨some 10, .move (.tmp 5), none⟩,
  ⟨some 11, .bin .neq (.tmp 10) (.cst (.int .i64 0)), none⟩])
 (.cond (.tmp 11)
 (.seq
 (.reg [⟨some 12, .move (.tmp 5), none⟩,
  ⟨some 4, .move (.tmp 12), none⟩])
 (.ret))
 (.skip))))
 (.seq
 (.reg [⟨some 13, .move (.tmp 0), none⟩,
  ⟨some 14, .load none (.tmp 3), none⟩,
  ⟨some 15, .makeFunc (.func 75) [] [(.tmp 3)], none⟩,
  ⟨some 16, .call (.cst (.func (.func 59) [] [])) [(.tmp 13), (.tmp 14), (.tmp 15)], none⟩,
  ⟨some 4, .move (.tmp 16), none⟩])
 (.ret)))⟩
theorem c58 : compF Try.prog gl false [(3, (some 0))] [] Try.f58 = some F58 := by kernel_rfl
/- (*tollhouse/files.Files).change -/
def F59 : AFn := ⟨24, false, 3, [.tmp 6], .seq
 (.reg [⟨some 5, .boxI (.tmp 2), none⟩,
  ⟨some 6, .move (.cst (.int .i64 0)), none⟩])
 (.seq
 (.seq
 (.reg [⟨some 10, .move (.tmp 0), none⟩,
  ⟨some 11, .nilCheck (.tmp 10), none⟩,
  ⟨some 12, .fieldAddr 2 1 (.tmp 11), none⟩,
  ⟨some 13, .load none (.tmp 12), none⟩,
  ⟨some 14, .move (.tmp 1), none⟩,
  ⟨some 15, .lookup false [.str] (.agg [.nil, (.int .i64 0)]) true (.tmp 13) (.tmp 14), none⟩,
  ⟨some 9, .move (.tmp 15), none⟩,
  ⟨some 16, .extract (.tmp 9) 0, none⟩,
  ⟨some 17, .extract (.tmp 9) 1, none⟩,
  ⟨some 7, .alloc [.nil, (.int .i64 0)], none⟩,
  ⟨none, .store 2 (.tmp 7) (.tmp 16), none⟩,
  ⟨some 8, .move (.tmp 17), none⟩])
 (.seq
 (.reg [⟨some 18, .move (.tmp 8), none⟩,
  ⟨some 19, .un .not (.tmp 18), none⟩])
 (.cond (.tmp 19)
 (.seq
 (.reg [⟨some 6, .move (.cst (.int .i64 4)), none⟩])
 (.ret))
 (.skip))))
 (.seq
 (.reg [⟨some 20, .move (.tmp 0), none⟩,
  ⟨some 21, .makeFunc (.func 76) [] [(.tmp 5)], none⟩,
  ⟨some 22, .build [(.sc .nilFunc), (.int .i64 0), (.bool false), (.sc (.string (bs [])))] [(0, 1, (.tmp 21))], none⟩,
  ⟨some 23, .call (.cst (.func (.func 56) [] [])) [(.tmp 20), (.tmp 22)], none⟩,
  ⟨some 6, .move (.tmp 23), none⟩])
 (.ret)))⟩
theorem c59 : compF Try.prog gl false [(5, (some 0))] [] Try.f59 = some F59 := by kernel_rfl
/- (*tollhouse/files.Files).Rename$1 -/
def F60 : AFn := ⟨13, false, 3, [], .seq
 (.reg [⟨some 5, .move (.tmp 0), none⟩,
  ⟨some 6, .load none (.tmp 1), none⟩,
  ⟨some 7, .lookup false [.str] (.agg [.nil, (.int .i64 0)]) false (.tmp 5) (.tmp 6), none⟩,
  ⟨some 4, .alloc [.nil, (.int .i64 0)], none⟩,
  ⟨none, .store 2 (.tmp 4) (.tmp 7), none⟩])
 (.seq
 (.reg [⟨some 8, .move (.tmp 0), none⟩,
  ⟨some 9, .load none (.tmp 1), none⟩,
  ⟨none, .mapDel false [.str] (.tmp 8) (.tmp 9), none⟩])
 (.reg [⟨some 10, .move (.tmp 0), none⟩,
  ⟨some 11, .load none (.tmp 2), none⟩,
  ⟨some 12, .load (some 2) (.tmp 4), none⟩,
  ⟨none, .mapSet false [.str] (.tmp 10) (.tmp 11) (.tmp 12), none⟩]))⟩
theorem c60 : compF Try.prog gl false [] [] Try.f60 = some F60 := by kernel_rfl
def L61_0 : AC := .seq
 (.reg [⟨some 5, .bin .lss (.tmp 4) (.cst (.int .i64 168)), none⟩])
 (.seq
 (.cond (.tmp 5)
 (.skip)
 (.exit 0))
 (.seq
 (.block 1
 (.seq
 (.reg [⟨some 6, .move (.tmp 4), none⟩,
  ⟨some 3, .move (.tmp 6), none⟩])
 (.seq
 (.seq
 (.regQ [⟨some 7, .move (.tmp 3), none⟩,
  ⟨some 8, .bin .quo (.tmp 7) (.cst (.int .i64 7)), none⟩,
  ⟨some 9, .indexAddr (.arr 24) none (.tmp 1) (.tmp 8), none⟩,
  ⟨some 10, .load none (.tmp 9), none⟩,
  ⟨some 11, .move (.tmp 2), none⟩,
  ⟨some 12, .bin .and (.tmp 11) (.cst (.int .u64 1)), none⟩,
  ⟨some 13, .move (.tmp 3), none⟩,
  ⟨some 14, .bin .rem (.tmp 13) (.cst (.int .i64 7)), none⟩,
  ⟨some 15, .bin .shl (.cst (.int .u64 1)) (.tmp 14), none⟩,
  ⟨some 16, .bin .sub (.tmp 15) (.cst (.int .u64 1)), none⟩,
  ⟨some 17, .bin .shl (.tmp 12) (.tmp 16), none⟩,
  ⟨some 18, .bin .or (.tmp 10) (.tmp 17), none⟩,
  ⟨some 19, .indexAddr (.arr 24) none (.tmp 1) (.tmp 8), none⟩])
 (.reg [⟨none, .store 1 (.tmp 19) (.tmp 18), none⟩]))
 (.seq
 (.reg [⟨some 20, .move (.tmp 2), none⟩,
  ⟨some 21, .bin .shl (.tmp 20) (.cst (.int .u64 1)), none⟩,
  ⟨some 2, .move (.tmp 21), none⟩])
 (.seq
 (.reg [⟨some 22, .move (.tmp 2), none⟩,
  ⟨some 23, .bin .gtr (.tmp 22) (.cst (.int .u64 255)), none⟩])
 (.cond (.tmp 23)
 (.reg [⟨some 24, .move (.tmp 2), none⟩,
  ⟨some 25, .bin .xor (.tmp 24) (.cst (.int .u64 369)), none⟩,
  ⟨some 2, .move (.tmp 25), none⟩])
 (.skip)))))))
 (.reg [⟨some 26, .bin .add (.tmp 4) (.cst (.int .i64 1)), none⟩,
  ⟨some 4, .move (.tmp 26), none⟩])))
/- tollhouse/keccak.constants -/
def F61 : AFn := ⟨28, true, 0, [.cell 0 (some 24)], .seq
 (.reg [⟨some 0, .alloc [(.int .u64 0), (.int .u64 0), (.int .u64 0), (.int .u64 0), (.int .u64 0), (.int .u64 0), (.int .u64 0), (.int .u64 0), (.int .u64 0), (.int .u64 0), (.int .u64 0), (.int .u64 0), (.int .u64 0), (.int .u64 0), (.int .u64 0), (.int .u64 0), (.int .u64 0), (.int .u64 0), (.int .u64 0), (.int .u64 0), (.int .u64 0), (.int .u64 0), (.int .u64 0), (.int .u64 0)], none⟩])
 (.seq
 (.reg [⟨some 1, .alloc [(.int .u64 0), (.int .u64 0), (.int .u64 0), (.int .u64 0), (.int .u64 0), (.int .u64 0), (.int .u64 0), (.int .u64 0), (.int .u64 0), (.int .u64 0), (.int .u64 0), (.int .u64 0), (.int .u64 0), (.int .u64 0), (.int .u64 0), (.int .u64 0), (.int .u64 0), (.int .u64 0), (.int .u64 0), (.int .u64 0), (.int .u64 0), (.int .u64 0), (.int .u64 0), (.int .u64 0)], none⟩])
 (.seq
 (.reg [⟨some 2, .move (.cst (.int .u64 1)), none⟩])
 (.seq
 (.seq
 (.reg [⟨some 4, .move (.cst (.int .i64 0)), none⟩])
 (.block 0
 (.loop [0, 1, 2, 4] true L61_0)))
 (.seq
 (.reg [⟨some 27, .load (some 24) (.tmp 1), none⟩,
  ⟨none, .store 24 (.tmp 0) (.tmp 27), none⟩])
 (.ret)))))⟩
theorem c61 : compF Try.prog gl true [] [([0, 1, 2, 4], true)] Try.f61 = some F61 := by kernel_rfl
def L62_0 : AC := .seq
 (.seq
 (.reg [⟨some 8, .move (.tmp 5), none⟩,
  ⟨some 9, .bin .leq (.tmp 8) (.cst (.int .i64 24)), none⟩])
 (.cond (.tmp 9)
 (.skip)
 (.exit 0)))
 (.seq
 (.block 1
 (.seq
 (.reg [⟨some 12, .move (.tmp 4), none⟩,
  ⟨some 13, .move (.tmp 5), none⟩,
  ⟨some 14, .bin .add (.tmp 12) (.tmp 13), none⟩,
  ⟨some 4, .move (.tmp 14), none⟩])
 (.seq
 (.reg [⟨some 16, .move (.tmp 2), none⟩,
  ⟨some 17, .move (.tmp 3), none⟩,
  ⟨some 18, .call (.cst (.func (.func 77) [] [])) [(.tmp 16), (.tmp 17)], none⟩,
  ⟨some 15, .move (.tmp 18), none⟩,
  ⟨some 19, .extract (.tmp 15) 0, none⟩,
  ⟨some 20, .extract (.tmp 15) 1, none⟩,
  ⟨some 6, .move (.tmp 19), none⟩,
  ⟨some 7, .move (.tmp 20), none⟩])
 (.seq
 (.reg [⟨some 21, .move (.tmp 3), none⟩,
  ⟨some 22, .bin .mul (.cst (.int .i64 5)) (.tmp 21), none⟩,
  ⟨some 23, .move (.tmp 2), none⟩,
  ⟨some 24, .bin .add (.tmp 22) (.tmp 23), none⟩,
  ⟨some 25, .move (.tmp 3), none⟩,
  ⟨some 26, .bin .mul (.cst (.int .i64 5)) (.tmp 25), none⟩,
  ⟨some 27, .move (.tmp 2), none⟩,
  ⟨some 28, .bin .add (.tmp 26) (.tmp 27), none⟩,
  ⟨some 29, .move (.tmp 4), none⟩,
  ⟨some 30, .bin .rem (.tmp 29) (.cst (.int .i64 64)), none⟩,
  ⟨some 31, .move (.tmp 7), none⟩,
  ⟨some 32, .bin .mul (.cst (.int .i64 5)) (.tmp 31), none⟩,
  ⟨some 33, .move (.tmp 6), none⟩,
  ⟨some 34, .bin .add (.tmp 32) (.tmp 33), none⟩,
  ⟨some 35, .indexAddr (.arr 25) none (.tmp 0) (.tmp 24), none⟩,
  ⟨none, .store 1 (.tmp 35) (.tmp 30), none⟩,
  ⟨some 36, .indexAddr (.arr 25) none (.tmp 1) (.tmp 28), none⟩,
  ⟨none, .store 1 (.tmp 36) (.tmp 34), none⟩])
 (.reg [⟨some 37, .move (.tmp 6), none⟩,
  ⟨some 38, .move (.tmp 7), none⟩,
  ⟨some 2, .move (.tmp 37), none⟩,
  ⟨some 3, .move (.tmp 38), none⟩])))))
 (.reg [⟨some 10, .move (.tmp 5), none⟩,
  ⟨some 11, .bin .add (.tmp 10) (.cst (.int .i64 1)), none⟩,
  ⟨some 5, .move (.tmp 11), none⟩]))
/- tollhouse/keccak.turns -/
def F62 : AFn := ⟨41, true, 0, [.cell 0 (some 25), .cell 1 (some 25)], .seq
 (.reg [⟨some 0, .alloc [(.int .i64 0), (.int .i64 0), (.int .i64 0), (.int .i64 0), (.int .i64 0), (.int .i64 0), (.int .i64 0), (.int .i64 0), (.int .i64 0), (.int .i64 0), (.int .i64 0), (.int .i64 0), (.int .i64 0), (.int .i64 0), (.int .i64 0), (.int .i64 0), (.int .i64 0), (.int .i64 0), (.int .i64 0), (.int .i64 0), (.int .i64 0), (.int .i64 0), (.int .i64 0), (.int .i64 0), (.int .i64 0)], none⟩,
  ⟨some 1, .alloc [(.int .i64 0), (.int .i64 0), (.int .i64 0), (.int .i64 0), (.int .i64 0), (.int .i64 0), (.int .i64 0), (.int .i64 0), (.int .i64 0), (.int .i64 0), (.int .i64 0), (.int .i64 0), (.int .i64 0), (.int .i64 0), (.int .i64 0), (.int .i64 0), (.int .i64 0), (.int .i64 0), (.int .i64 0), (.int .i64 0), (.int .i64 0), (.int .i64 0), (.int .i64 0), (.int .i64 0), (.int .i64 0)], none⟩])
 (.seq
 (.reg [⟨some 2, .move (.cst (.int .i64 1)), none⟩,
  ⟨some 3, .move (.cst (.int .i64 0)), none⟩,
  ⟨some 4, .move (.cst (.int .i64 0)), none⟩])
 (.seq
 (.seq
 (.reg [⟨some 5, .move (.cst (.int .i64 1)), none⟩])
 (.block 0
 (.loop [0, 1, 2, 3, 4, 5] true L62_0)))
 (.seq
 (.regD [⟨some 39, .load (some 25) (.tmp 0), none⟩,
  ⟨some 40, .load (some 25) (.tmp 1), none⟩,
  ⟨none, .store 25 (.tmp 0) (.tmp 39), none⟩,
  ⟨none, .store 25 (.tmp 1) (.tmp 40), none⟩] [(0, 0), (0, 1), (0, 0), (1, 1)])
 (.ret))))⟩
theorem c62 : compF Try.prog gl true [] [([0, 1, 2, 3, 4, 5], true)] Try.f62 = some F62 := by kernel_rfl
/- (*tollhouse/keccak.sponge).add -/
def F63 : AFn := ⟨23, false, 3, [], .seq
 (.regQ [⟨some 6, .move (.tmp 0), none⟩,
  ⟨some 7, .move (.tmp 1), none⟩,
  ⟨some 8, .bin .quo (.tmp 7) (.cst (.int .i64 8)), none⟩,
  ⟨some 9, .nilCheck (.tmp 6), none⟩,
  ⟨some 10, .fieldAddr 0 25 (.tmp 9), none⟩,
  ⟨some 11, .indexAddr (.arr 25) none (.tmp 10) (.tmp 8), none⟩,
  ⟨some 12, .load none (.tmp 11), none⟩,
  ⟨some 13, .move (.tmp 2), none⟩,
  ⟨some 14, .convInt .u64 (.tmp 13), none⟩,
  ⟨some 15, .move (.tmp 1), none⟩,
  ⟨some 16, .bin .rem (.tmp 15) (.cst (.int .i64 8)), none⟩,
  ⟨some 17, .bin .mul (.cst (.int .i64 8)) (.tmp 16), none⟩,
  ⟨some 18, .bin .shl (.tmp 14) (.tmp 17), none⟩,
  ⟨some 19, .bin .xor (.tmp 12) (.tmp 18), none⟩,
  ⟨some 20, .nilCheck (.tmp 6), none⟩,
  ⟨some 21, .fieldAddr 0 25 (.tmp 20), none⟩,
  ⟨some 22, .indexAddr (.arr 25) none (.tmp 21) (.tmp 8), none⟩])
 (.reg [⟨none, .store 1 (.tmp 22) (.tmp 19), none⟩])⟩
theorem c63 : compF Try.prog gl false [] [] Try.f63 = some F63 := by kernel_rfl
def L64_0 : AC := .seq
 (.reg [⟨some 9, .bin .lss (.tmp 8) (.cst (.int .i64 24)), none⟩])
 (.seq
 (.cond (.tmp 9)
 (.skip)
 (.exit 0))
 (.seq
 (.block 1
 (.seq
 (.reg [⟨some 10, .index none 24 (.tmp 7) (.tmp 8), none⟩,
  ⟨some 3, .move (.tmp 10), none⟩])
 (.seq
 (.regQ [⟨some 11, .move (.tmp 0), none⟩,
  ⟨some 12, .nilCheck (.tmp 11), none⟩,
  ⟨some 13, .fieldAddr 0 25 (.tmp 12), none⟩,
  ⟨some 14, .move (.tmp 0), none⟩,
  ⟨some 15, .nilCheck (.tmp 14), none⟩,
  ⟨some 16, .fieldAddr 25 25 (.tmp 15), none⟩,
  ⟨some 17, .move (.tmp 0), none⟩,
  ⟨some 18, .nilCheck (.tmp 17), none⟩,
  ⟨some 19, .fieldAddr 50 25 (.tmp 18), none⟩,
  ⟨some 20, .move (.tmp 3), none⟩])
 (.reg [⟨some 21, .call (.cst (.func (.func 78) [] [])) [(.tmp 13), (.tmp 16), (.tmp 19), (.tmp 20)], none⟩]))))
 (.reg [⟨some 22, .bin .add (.tmp 8) (.cst (.int .i64 1)), none⟩,
  ⟨some 8, .move (.tmp 22), none⟩])))
/- (*tollhouse/keccak.sponge).all -/
def F64 : AFn := ⟨26, false, 1, [], .seq
 (.seq
 (.reg [⟨some 4, .move (.tmp 0), none⟩,
  ⟨some 5, .nilCheck (.tmp 4), none⟩,
  ⟨some 6, .fieldAddr 75 24 (.tmp 5), none⟩,
  ⟨some 7, .load (some 24) (.tmp 6), none⟩,
  ⟨some 8, .move (.cst (.int .i64 0)), none⟩])
 (.block 0
 (.loop [0, 7, 8] true L64_0)))
 (.reg [⟨some 23, .move (.tmp 0), none⟩,
  ⟨some 24, .nilCheck (.tmp 23), none⟩,
  ⟨some 25, .fieldAddr 100 1 (.tmp 24), none⟩,
  ⟨none, .store 1 (.tmp 25) (.cst (.int .i64 0)), none⟩])⟩
theorem c64 : compF Try.prog gl false [] [([0, 7, 8], true)] Try.f64 = some F64 := by kernel_rfl
def L65_0 : AC := .seq
 (.seq
 (.reg [⟨some 32, .move (.tmp 6), none⟩,
  ⟨some 33, .bin .lss (.tmp 32) (.cst (.int .i64 168)), none⟩])
 (.cond (.tmp 33)
 (.skip)
 (.exit 2)))
 (.seq
 (.block 3
 (.seq
 (.seq
 (.reg [⟨some 36, .move (.tmp 5), none⟩,
  ⟨some 37, .bin .rem (.tmp 36) (.cst (.int .i64 2)), none⟩,
  ⟨some 38, .bin .eql (.tmp 37) (.cst (.int .i64 1)), none⟩])
 (.cond (.tmp 38)
 (.seq
 (.regQ [⟨some 39, .move (.tmp 6), none⟩,
  ⟨some 40, .bin .quo (.tmp 39) (.cst (.int .i64 7)), none⟩,
  ⟨some 41, .move (.tmp 6), none⟩,
  ⟨some 42, .bin .quo (.tmp 41) (.cst (.int .i64 7)), none⟩,
  ⟨some 43, .fieldAddr 25 24 (.tmp 1), none⟩,
  ⟨some 44, .indexAddr (.arr 24) none (.tmp 43) (.tmp 42), none⟩,
  ⟨some 45, .load none (.tmp 44), none⟩,
  ⟨some 46, .move (.tmp 6), none⟩,
  ⟨some 47, .bin .rem (.tmp 46) (.cst (.int .i64 7)), none⟩,
  ⟨some 48, .bin .shl (.cst (.int .u64 1)) (.tmp 47), none⟩,
  ⟨some 49, .bin .sub (.tmp 48) (.cst (.int .u64 1)), none⟩,
  ⟨some 50, .bin .shl (.cst (.int .u64 1)) (.tmp 49), none⟩,
  ⟨some 51, .bin .or (.tmp 45) (.tmp 50), none⟩,
  ⟨some 52, .fieldAddr 25 24 (.tmp 1), none⟩,
  ⟨some 53, .indexAddr (.arr 24) none (.tmp 52) (.tmp 40), none⟩])
 (.reg [⟨none, .store 1 (.tmp 53) (.tmp 51), none⟩]))
 (.skip)))
 (.seq
 (.reg [⟨some 54, .move (.tmp 5), none⟩,
  ⟨some 55, .bin .mul (.cst (.int .i64 2)) (.tmp 54), none⟩,
  ⟨some 5, .move (.tmp 55), none⟩])
 (.seq
 (.reg [⟨some 56, .move (.tmp 5), none⟩,
  ⟨some 57, .bin .gtr (.tmp 56) (.cst (.int .i64 255)), none⟩])
 (.cond (.tmp 57)
 (.reg [⟨some 58, .move (.tmp 5), none⟩,
  ⟨some 59, .bin .sub (.tmp 58) (.cst (.int .i64 256)), none⟩,
  ⟨some 60, .bin .xor (.tmp 59) (.cst (.int .i64 113)), none⟩,
  ⟨some 5, .move (.tmp 60), none⟩])
 (.skip))))))
 (.reg [⟨some 34, .move (.tmp 6), none⟩,
  ⟨some 35, .bin .add (.tmp 34) (.cst (.int .i64 1)), none⟩,
  ⟨some 6, .move (.tmp 35), none⟩]))
def L65_1 : AC := .seq
 (.seq
 (.reg [⟨some 8, .move (.tmp 4), none⟩,
  ⟨some 9, .bin .lss (.tmp 8) (.cst (.int .i64 24)), none⟩])
 (.cond (.tmp 9)
 (.skip)
 (.exit 0)))
 (.seq
 (.block 1
 (.seq
 (.reg [⟨some 12, .move (.tmp 3), none⟩,
  ⟨some 13, .bin .mul (.cst (.int .i64 5)) (.tmp 12), none⟩,
  ⟨some 14, .move (.tmp 2), none⟩,
  ⟨some 15, .bin .add (.tmp 13) (.tmp 14), none⟩,
  ⟨some 16, .move (.tmp 4), none⟩,
  ⟨some 17, .bin .add (.tmp 16) (.cst (.int .i64 1)), none⟩,
  ⟨some 18, .move (.tmp 4), none⟩,
  ⟨some 19, .bin .add (.tmp 18) (.cst (.int .i64 2)), none⟩,
  ⟨some 20, .bin .mul (.tmp 17) (.tmp 19), none⟩,
  ⟨some 21, .bin .quo (.tmp 20) (.cst (.int .i64 2)), none⟩,
  ⟨some 22, .bin .rem (.tmp 21) (.cst (.int .i64 64)), none⟩,
  ⟨some 23, .fieldAddr 0 25 (.tmp 1), none⟩,
  ⟨some 24, .indexAddr (.arr 25) none (.tmp 23) (.tmp 15), none⟩,
  ⟨none, .store 1 (.tmp 24) (.tmp 22), none⟩])
 (.reg [⟨some 25, .move (.tmp 3), none⟩,
  ⟨some 26, .move (.tmp 2), none⟩,
  ⟨some 27, .bin .mul (.cst (.int .i64 2)) (.tmp 26), none⟩,
  ⟨some 28, .move (.tmp 3), none⟩,
  ⟨some 29, .bin .mul (.cst (.int .i64 3)) (.tmp 28), none⟩,
  ⟨some 30, .bin .add (.tmp 27) (.tmp 29), none⟩,
  ⟨some 31, .bin .rem (.tmp 30) (.cst (.int .i64 5)), none⟩,
  ⟨some 2, .move (.tmp 25), none⟩,
  ⟨some 3, .move (.tmp 31), none⟩])))
 (.reg [⟨some 10, .move (.tmp 4), none⟩,
  ⟨some 11, .bin .add (.tmp 10) (.cst (.int .i64 1)), none⟩,
  ⟨some 4, .move (.tmp 11), none⟩]))
/- tollhouse/tollhouseref03.All -/
def F65 : AFn := ⟨62, true, 0, [.cell 0 (some 49)], .seq
 (.reg [⟨some 0, .alloc [(.int .i64 0), (.int .i64 0), (.int .i64 0), (.int .i64 0), (.int .i64 0), (.int .i64 0), (.int .i64 0), (.int .i64 0), (.int .i64 0), (.int .i64 0), (.int .i64 0), (.int .i64 0), (.int .i64 0), (.int .i64 0), (.int .i64 0), (.int .i64 0), (.int .i64 0), (.int .i64 0), (.int .i64 0), (.int .i64 0), (.int .i64 0), (.int .i64 0), (.int .i64 0), (.int .i64 0), (.int .i64 0), (.int .u64 0), (.int .u64 0), (.int .u64 0), (.int .u64 0), (.int .u64 0), (.int .u64 0), (.int .u64 0), (.int .u64 0), (.int .u64 0), (.int .u64 0), (.int .u64 0), (.int .u64 0), (.int .u64 0), (.int .u64 0), (.int .u64 0), (.int .u64 0), (.int .u64 0), (.int .u64 0), (.int .u64 0), (.int .u64 0), (.int .u64 0), (.int .u64 0), (.int .u64 0), (.int .u64 0)], none⟩])
 (.seq
 (.reg [⟨some 7, .build [(.int .i64 0), (.int .i64 0), (.int .i64 0), (.int .i64 0), (.int .i64 0), (.int .i64 0), (.int .i64 0), (.int .i64 0), (.int .i64 0), (.int .i64 0), (.int .i64 0), (.int .i64 0), (.int .i64 0), (.int .i64 0), (.int .i64 0), (.int .i64 0), (.int .i64 0), (.int .i64 0), (.int .i64 0), (.int .i64 0), (.int .i64 0), (.int .i64 0), (.int .i64 0), (.int .i64 0), (.int .i64 0), (.int .u64 0), (.int .u64 0), (.int .u64 0), (.int .u64 0), (.int .u64 0), (.int .u64 0), (.int .u64 0), (.int .u64 0), (.int .u64 0), (.int .u64 0), (.int .u64 0), (.int .u64 0), (.int .u64 0), (.int .u64 0), (.int .u64 0), (.int .u64 0), (.int .u64 0), (.int .u64 0), (.int .u64 0), (.int .u64 0), (.int .u64 0), (.int .u64 0), (.int .u64 0), (.int .u64 0)] [], none⟩,
  ⟨some 1, .alloc [(.int .i64 0), (.int .i64 0), (.int .i64 0), (.int .i64 0), (.int .i64 0), (.int .i64 0), (.int .i64 0), (.int .i64 0), (.int .i64 0), (.int .i64 0), (.int .i64 0), (.int .i64 0), (.int .i64 0), (.int .i64 0), (.int .i64 0), (.int .i64 0), (.int .i64 0), (.int .i64 0), (.int .i64 0), (.int .i64 0), (.int .i64 0), (.int .i64 0), (.int .i64 0), (.int .i64 0), (.int .i64 0), (.int .u64 0), (.int .u64 0), (.int .u64 0), (.int .u64 0), (.int .u64 0), (.int .u64 0), (.int .u64 0), (.int .u64 0), (.int .u64 0), (.int .u64 0), (.int .u64 0), (.int .u64 0), (.int .u64 0), (.int .u64 0), (.int .u64 0), (.int .u64 0), (.int .u64 0), (.int .u64 0), (.int .u64 0), (.int .u64 0), (.int .u64 0), (.int .u64 0), (.int .u64 0), (.int .u64 0)], none⟩,
  ⟨none, .store 49 (.tmp 1) (.tmp 7), none⟩])
 (.seq
 (.reg [⟨some 2, .move (.cst (.int .i64 1)), none⟩,
  ⟨some 3, .move (.cst (.int .i64 0)), none⟩])
 (.seq
 (.seq
 (.reg [⟨some 4, .move (.cst (.int .i64 0)), none⟩])
 (.block 0
 (.loop [0, 1, 2, 3, 4] true L65_1)))
 (.seq
 (.reg [⟨some 5, .move (.cst (.int .i64 1)), none⟩])
 (.seq
 (.seq
 (.reg [⟨some 6, .move (.cst (.int .i64 0)), none⟩])
 (.block 2
 (.loop [0, 1, 5, 6] true L65_0)))
 (.seq
 (.reg [⟨some 61, .load (some 49) (.tmp 1), none⟩,
  ⟨none, .store 49 (.tmp 0) (.tmp 61), none⟩])
 (.ret)))))))⟩
theorem c65 : compF Try.prog gl true [] [([0, 1, 2, 3, 4], true), ([0, 1, 5, 6], true)] Try.f65 = some F65 := by kernel_rfl
def L66_0 : AC := .seq
 (.seq
 (.reg [⟨some 6, .move (.tmp 5), none⟩,
  ⟨some 7, .bin .lss (.tmp 6) (.cst (.int .i64 24)), none⟩])
 (.cond (.tmp 7)
 (.skip)
 (.exit 0)))
 (.seq
 (.block 1
 (.reg [⟨some 10, .move (.tmp 0), none⟩,
  ⟨some 11, .load (some 25) (.tmp 3), none⟩,
  ⟨some 12, .move (.tmp 5), none⟩,
  ⟨some 13, .call (.cst (.func (.func 79) [] [])) [(.tmp 10), (.tmp 11), (.tmp 12)], none⟩,
  ⟨none, .store 25 (.tmp 3) (.tmp 13), none⟩]))
 (.reg [⟨some 8, .move (.tmp 5), none⟩,
  ⟨some 9, .bin .add (.tmp 8) (.cst (.int .i64 1)), none⟩,
  ⟨some 5, .move (.tmp 9), none⟩]))
/- (*tollhouse/tollhouseref03.Table).rounds -/
def F66 : AFn := ⟨15, true, 2, [.cell 4 (some 25)], .seq
 (.reg [⟨some 3, .box (.tmp 1), none⟩,
  ⟨some 4, .alloc [(.int .u64 0), (.int .u64 0), (.int .u64 0), (.int .u64 0), (.int .u64 0), (.int .u64 0), (.int .u64 0), (.int .u64 0), (.int .u64 0), (.int .u64 0), (.int .u64 0), (.int .u64 0), (.int .u64 0), (.int .u64 0), (.int .u64 0), (.int .u64 0), (.int .u64 0), (.int .u64 0), (.int .u64 0), (.int .u64 0), (.int .u64 0), (.int .u64 0), (.int .u64 0), (.int .u64 0), (.int .u64 0)], none⟩])
 (.seq
 (.seq
 (.reg [⟨some 5, .move (.cst (.int .i64 0)), none⟩])
 (.block 0
 (.loop [0, 3, 4, 5] true L66_0)))
 (.seq
 (.reg [⟨some 14, .load (some 25) (.tmp 3), none⟩,
  ⟨none, .store 25 (.tmp 4) (.tmp 14), none⟩])
 (.ret)))⟩
theorem c66 : compF Try.prog gl true [] [([0, 3, 4, 5], true)] Try.f66 = some F66 := by kernel_rfl
/- (tollhouse/files.file).bytes -/
def F67 : AFn := ⟨6, true, 1, [.tmp 2], .seq
 (.reg [⟨some 1, .box (.tmp 0), none⟩,
  ⟨some 2, .move (.cst .nil), none⟩])
 (.seq
 (.reg [⟨some 3, .fieldAddr 0 1 (.tmp 1), none⟩,
  ⟨some 4, .load none (.tmp 3), none⟩,
  ⟨some 5, .call (.cst (.func (.func 19) [] [])) [(.tmp 4)], none⟩,
  ⟨some 2, .move (.tmp 5), none⟩])
 (.ret))⟩
theorem c67 : compF Try.prog gl true [] [] Try.f67 = some F67 := by kernel_rfl
/- (*tollhouse/files.Files).Off -/
def F68 : AFn := ⟨12, false, 1, [.tmp 2], .seq
 (.reg [⟨some 2, .move (.cst (.bool false)), none⟩])
 (.seq
 (.reg [⟨some 3, .move (.tmp 0), none⟩,
  ⟨some 4, .call (.cst (.func (.func 50) [] [])) [(.tmp 3)], none⟩,
  ⟨some 5, .move (.tmp 4), none⟩,
  ⟨some 6, .move (.tmp 0), some (5, true)⟩,
  ⟨some 7, .nilCheck (.tmp 6), some (5, true)⟩,
  ⟨some 8, .fieldAddr 4 1 (.tmp 7), some (5, true)⟩,
  ⟨some 9, .load none (.tmp 8), some (5, true)⟩,
  ⟨some 10, .bin .eql (.tmp 9) (.cst (.int .i64 0)), some (5, true)⟩,
  ⟨some 11, .pick (.tmp 5) (.tmp 10) (.cst (.bool false)), none⟩,
  ⟨some 2, .move (.tmp 11), none⟩])
 (.ret))⟩
theorem c68 : compF Try.prog gl false [] [] Try.f68 = some F68 := by kernel_rfl
/- (*tollhouse/files.Files).Truncate$1 -/
def F69 : AFn := ⟨19, false, 3, [], .seq
 (.reg [⟨some 5, .move (.tmp 0), none⟩,
  ⟨some 6, .load none (.tmp 1), none⟩,
  ⟨some 7, .lookup false [.str] (.agg [.nil, (.int .i64 0)]) false (.tmp 5) (.tmp 6), none⟩,
  ⟨some 8, .call (.cst (.func (.func 67) [] [])) [(.tmp 7)], none⟩,
  ⟨some 4, .move (.tmp 8), none⟩])
 (.regD [⟨some 9, .move (.tmp 0), none⟩,
  ⟨some 10, .load none (.tmp 1), none⟩,
  ⟨some 11, .build [.nil, (.int .i64 0)] [], none⟩,
  ⟨some 12, .move (.tmp 4), none⟩,
  ⟨some 13, .load none (.tmp 2), none⟩,
  ⟨some 14, .move (.tmp 4), none⟩,
  ⟨some 15, .len (.tmp 14), none⟩,
  ⟨some 16, .minmax false (.tmp 13) (.tmp 15), none⟩,
  ⟨some 17, .slice .slice none (.tmp 12) none (some (.tmp 16)) none, none⟩,
  ⟨some 18, .call (.cst (.func (.func 55) [] [])) [(.tmp 11), (.tmp 17)], none⟩,
  ⟨none, .mapSet false [.str] (.tmp 9) (.tmp 10) (.tmp 18), none⟩] [(0, 1), (0, 1), (0, 0), (0, 0), (0, 0), (0, 0), (0, 0), (0, 0), (0, 0), (0, 0), (1, 1)])⟩
theorem c69 : compF Try.prog gl false [] [] Try.f69 = some F69 := by kernel_rfl
/- slices.ContainsFunc[[]string,string] -/
def F71 : AFn := ⟨9, false, 2, [.tmp 4], .seq
 (.reg [⟨some 4, .move (.cst (.bool false)), none⟩])
 (.seq
 (.reg [⟨some 5, .move (.tmp 0), none⟩,
  ⟨some 6, .move (.tmp 1), none⟩,
  ⟨some 7, .call (.cst (.func (.func 80) [] [])) [(.tmp 5), (.tmp 6)], none⟩,
  ⟨some 8, .bin .geq (.tmp 7) (.cst (.int .i64 0)), none⟩,
  ⟨some 4, .move (.tmp 8), none⟩])
 (.ret))⟩
theorem c71 : compF Try.prog gl false [] [] Try.f71 = some F71 := by kernel_rfl
/- (*tollhouse/files.Files).may$1 -/
def F72 : AFn := ⟨6, true, 1, [.tmp 2], .seq
 (.reg [⟨some 2, .move (.cst (.bool false)), none⟩])
 (.seq
 (.reg [⟨some 3, .move (.tmp 0), none⟩,
  ⟨some 4, .call (.cst (.func (.func 73) [] [])) [(.tmp 3)], none⟩,
  ⟨some 5, .un .not (.tmp 4), none⟩,
  ⟨some 2, .move (.tmp 5), none⟩])
 (.ret))⟩
theorem c72 : compF Try.prog gl true [] [] Try.f72 = some F72 := by kernel_rfl
def L73_0 : AC := .seq
 (.reg [⟨some 7, .next true (.tmp 6), none⟩,
  ⟨some 8, .extract (.tmp 7) 0, none⟩])
 (.seq
 (.cond (.tmp 8)
 (.skip)
 (.exit 0))
 (.block 1
 (.seq
 (.reg [⟨some 9, .extract (.tmp 7) 2, none⟩,
  ⟨some 4, .move (.tmp 9), none⟩])
 (.seq
 (.reg [⟨some 10, .move (.tmp 4), none⟩,
  ⟨some 11, .bin .lss (.tmp 10) (.cst (.int .i32 97)), none⟩,
  ⟨some 12, .move (.tmp 11), none⟩,
  ⟨some 13, .move (.tmp 4), some (12, false)⟩,
  ⟨some 14, .bin .gtr (.tmp 13) (.cst (.int .i32 122)), some (12, false)⟩,
  ⟨some 15, .pick (.tmp 12) (.cst (.bool true)) (.tmp 14), none⟩,
  ⟨some 16, .move (.tmp 15), none⟩,
  ⟨some 17, .move (.tmp 4), some (16, true)⟩,
  ⟨some 18, .bin .lss (.tmp 17) (.cst (.int .i32 48)), some (16, true)⟩,
  ⟨some 19, .move (.tmp 18), some (16, true)⟩,
  ⟨some 20, .move (.tmp 4), some (19, false)⟩,
  ⟨some 21, .bin .gtr (.tmp 20) (.cst (.int .i32 57)), some (19, false)⟩,
  ⟨some 22, .pick (.tmp 19) (.cst (.bool true)) (.tmp 21), some (16, true)⟩,
  ⟨some 23, .pick (.tmp 16) (.tmp 22) (.cst (.bool false)), none⟩,
  ⟨some 24, .move (.tmp 23), none⟩,
  ⟨some 25, .move (.tmp 4), some (24, true)⟩,
  ⟨some 26, .bin .neq (.tmp 25) (.cst (.int .i32 45)), some (24, true)⟩,
  ⟨some 27, .pick (.tmp 24) (.tmp 26) (.cst (.bool false)), none⟩])
 (.cond (.tmp 27)
 (.seq
 (.reg [⟨some 2, .move (.cst (.bool false)), none⟩])
 (.ret))
 (.skip))))))
/- tollhouse/files.right -/
def F73 : AFn := ⟨36, true, 1, [.tmp 2], .seq
 (.reg [⟨some 2, .move (.cst (.bool false)), none⟩])
 (.seq
 (.seq
 (.reg [⟨some 5, .move (.tmp 0), none⟩,
  ⟨some 6, .range true (.tmp 5), none⟩])
 (.block 0
 (.loop [0, 6] true L73_0)))
 (.seq
 (.reg [⟨some 28, .move (.tmp 0), none⟩,
  ⟨some 29, .lenT (.tmp 28), none⟩,
  ⟨some 30, .bin .geq (.tmp 29) (.cst (.int .i64 1)), none⟩,
  ⟨some 31, .move (.tmp 30), none⟩,
  ⟨some 32, .move (.tmp 0), some (31, true)⟩,
  ⟨some 33, .lenT (.tmp 32), some (31, true)⟩,
  ⟨some 34, .bin .leq (.tmp 33) (.cst (.int .i64 32)), some (31, true)⟩,
  ⟨some 35, .pick (.tmp 31) (.tmp 34) (.cst (.bool false)), none⟩,
  ⟨some 2, .move (.tmp 35), none⟩])
 (.ret)))⟩
theorem c73 : compF Try.prog gl true [] [([0, 6], true)] Try.f73 = some F73 := by kernel_rfl
/- slices.Clip[[][]byte,[]byte] -/
def F74 : AFn := ⟨9, true, 1, [.tmp 2], .seq
 (.reg [⟨some 2, .move (.cst .nil), none⟩])
 (.seq
 (.reg [⟨some 3, .move (.tmp 0), none⟩,
  ⟨some 4, .move (.tmp 0), none⟩,
  ⟨some 5, .len (.tmp 4), none⟩,
  ⟨some 6, .move (.tmp 0), none⟩,
  ⟨some 7, .len (.tmp 6), none⟩,
  ⟨some 8, .slice .slice none (.tmp 3) none (some (.tmp 5)) (some (.tmp 7)), none⟩,
  ⟨some 2, .move (.tmp 8), none⟩])
 (.ret))⟩
theorem c74 : compF Try.prog gl true [] [] Try.f74 = some F74 := by kernel_rfl
/- (*tollhouse/files.Files).Remove$1 -/
def F75 : AFn := ⟨5, false, 2, [], .reg [⟨some 3, .move (.tmp 0), none⟩,
  ⟨some 4, .load none (.tmp 1), none⟩,
  ⟨none, .mapDel false [.str] (.tmp 3) (.tmp 4), none⟩]⟩
theorem c75 : compF Try.prog gl false [] [] Try.f75 = some F75 := by kernel_rfl
/- (*tollhouse/files.Files).change$1 -/
def F76 : AFn := ⟨8, false, 3, [], .reg [⟨some 5, .load none (.tmp 2), none⟩,
  ⟨some 6, .move (.tmp 0), none⟩,
  ⟨some 7, .call (.tmp 5) [(.tmp 6)], none⟩]⟩
theorem c76 : compF Try.prog gl false [] [] Try.f76 = some F76 := by kernel_rfl
/- tollhouse/keccak.next -/
def F77 : AFn := ⟨15, true, 2, [.tmp 4, .tmp 5], .seq
 (.reg [⟨some 4, .move (.cst (.int .i64 0)), none⟩,
  ⟨some 5, .move (.cst (.int .i64 0)), none⟩])
 (.seq
 (.reg [⟨some 6, .move (.tmp 1), none⟩,
  ⟨some 7, .move (.tmp 0), none⟩,
  ⟨some 8, .bin .mul (.cst (.int .i64 2)) (.tmp 7), none⟩,
  ⟨some 9, .bin .add (.tmp 8) (.cst (.int .i64 5)), none⟩,
  ⟨some 10, .move (.tmp 1), none⟩,
  ⟨some 11, .bin .mul (.cst (.int .i64 2)) (.tmp 10), none⟩,
  ⟨some 12, .bin .sub (.tmp 9) (.tmp 11), none⟩,
  ⟨some 13, .bin .add (.tmp 12) (.cst (.int .i64 5)), none⟩,
  ⟨some 14, .bin .rem (.tmp 13) (.cst (.int .i64 5)), none⟩,
  ⟨some 4, .move (.tmp 6), none⟩,
  ⟨some 5, .move (.tmp 14), none⟩])
 (.ret))⟩
theorem c77 : compF Try.prog gl true [] [] Try.f77 = some F77 := by kernel_rfl
def L78_0 : AC := .seq
 (.reg [⟨some 106, .bin .lss (.tmp 105) (.cst (.int .i64 5)), none⟩])
 (.seq
 (.cond (.tmp 106)
 (.skip)
 (.exit 8))
 (.seq
 (.block 9
 (.seq
 (.reg [⟨some 107, .move (.tmp 105), none⟩,
  ⟨some 16, .move (.tmp 107), none⟩])
 (.seq
 (.regQ [⟨some 108, .move (.tmp 0), none⟩,
  ⟨some 109, .move (.tmp 14), none⟩,
  ⟨some 110, .move (.tmp 16), none⟩,
  ⟨some 111, .bin .add (.tmp 109) (.tmp 110), none⟩,
  ⟨some 112, .move (.tmp 16), none⟩,
  ⟨some 113, .indexAddr (.arr 5) none (.tmp 15) (.tmp 112), none⟩,
  ⟨some 114, .load none (.tmp 113), none⟩,
  ⟨some 115, .move (.tmp 16), none⟩,
  ⟨some 116, .bin .add (.tmp 115) (.cst (.int .i64 2)), none⟩,
  ⟨some 117, .bin .rem (.tmp 116) (.cst (.int .i64 5)), none⟩,
  ⟨some 118, .indexAddr (.arr 5) none (.tmp 15) (.tmp 117), none⟩,
  ⟨some 119, .load none (.tmp 118), none⟩,
  ⟨some 120, .move (.tmp 16), none⟩,
  ⟨some 121, .bin .add (.tmp 120) (.cst (.int .i64 1)), none⟩,
  ⟨some 122, .bin .rem (.tmp 121) (.cst (.int .i64 5)), none⟩,
  ⟨some 123, .indexAddr (.arr 5) none (.tmp 15) (.tmp 122), none⟩,
  ⟨some 124, .load none (.tmp 123), none⟩,
  ⟨some 125, .bin .andNot (.tmp 119) (.tmp 124), none⟩,
  ⟨some 126, .bin .xor (.tmp 114) (.tmp 125), none⟩,
  ⟨some 127, .nilCheck (.tmp 108), none⟩,
  ⟨some 128, .indexAddr (.arr 25) none (.tmp 127) (.tmp 111), none⟩])
 (.reg [⟨none, .store 1 (.tmp 128) (.tmp 126), none⟩]))))
 (.reg [⟨some 129, .bin .add (.tmp 105) (.cst (.int .i64 1)), none⟩,
  ⟨some 105, .move (.tmp 129), none⟩])))
def L78_1 : AC := .seq
 (.seq
 (.reg [⟨some 97, .move (.tmp 14), none⟩,
  ⟨some 98, .bin .lss (.tmp 97) (.cst (.int .i64 25)), none⟩])
 (.cond (.tmp 98)
 (.skip)
 (.exit 6)))
 (.seq
 (.block 7
 (.seq
 (.reg [⟨some 101, .move (.tmp 14), none⟩,
  ⟨some 102, .slice (.arr 25) none (.tmp 10) (some (.tmp 101)) none none, none⟩,
  ⟨some 103, .toArr 5 (.tmp 102), none⟩,
  ⟨some 104, .load (some 5) (.tmp 103), none⟩,
  ⟨some 15, .alloc [(.int .u64 0), (.int .u64 0), (.int .u64 0), (.int .u64 0), (.int .u64 0)], none⟩,
  ⟨none, .store 5 (.tmp 15) (.tmp 104), none⟩])
 (.seq
 (.reg [⟨some 105, .move (.cst (.int .i64 0)), none⟩])
 (.block 8
 (.loop [0, 3, 10, 14, 15, 105] true L78_0)))))
 (.reg [⟨some 99, .move (.tmp 14), none⟩,
  ⟨some 100, .bin .add (.tmp 99) (.cst (.int .i64 5)), none⟩,
  ⟨some 14, .move (.tmp 100), none⟩]))
def L78_2 : AC := .seq
 (.seq
 (.reg [⟨some 73, .move (.tmp 13), none⟩,
  ⟨some 74, .bin .lss (.tmp 73) (.cst (.int .i64 25)), none⟩])
 (.cond (.tmp 74)
 (.skip)
 (.exit 4)))
 (.seq
 (.block 5
 (.seq
 (.regQ [⟨some 77, .move (.tmp 2), none⟩,
  ⟨some 78, .move (.tmp 13), none⟩,
  ⟨some 79, .nilCheck (.tmp 77), none⟩,
  ⟨some 80, .indexAddr (.arr 25) none (.tmp 79) (.tmp 78), none⟩,
  ⟨some 81, .load none (.tmp 80), none⟩,
  ⟨some 82, .move (.tmp 0), none⟩,
  ⟨some 83, .move (.tmp 13), none⟩,
  ⟨some 84, .nilCheck (.tmp 82), none⟩,
  ⟨some 85, .indexAddr (.arr 25) none (.tmp 84) (.tmp 83), none⟩,
  ⟨some 86, .load none (.tmp 85), none⟩,
  ⟨some 87, .move (.tmp 12), none⟩,
  ⟨some 88, .bin .xor (.tmp 86) (.tmp 87), none⟩,
  ⟨some 89, .move (.tmp 1), none⟩,
  ⟨some 90, .move (.tmp 13), none⟩,
  ⟨some 91, .nilCheck (.tmp 89), none⟩,
  ⟨some 92, .indexAddr (.arr 25) none (.tmp 91) (.tmp 90), none⟩,
  ⟨some 93, .load none (.tmp 92), none⟩,
  ⟨some 94, .call (.cst (.func (.func 81) [] [])) [(.tmp 88), (.tmp 93)], none⟩,
  ⟨some 95, .indexAddr (.arr 25) none (.tmp 10) (.tmp 81), none⟩])
 (.reg [⟨none, .store 1 (.tmp 95) (.tmp 94), none⟩])))
 (.reg [⟨some 75, .move (.tmp 13), none⟩,
  ⟨some 76, .bin .add (.tmp 75) (.cst (.int .i64 5)), none⟩,
  ⟨some 13, .move (.tmp 76), none⟩]))
def L78_3 : AC := .seq
 (.reg [⟨some 57, .bin .lss (.tmp 56) (.cst (.int .i64 5)), none⟩])
 (.seq
 (.cond (.tmp 57)
 (.skip)
 (.exit 2))
 (.seq
 (.block 3
 (.seq
 (.reg [⟨some 58, .move (.tmp 56), none⟩,
  ⟨some 11, .move (.tmp 58), none⟩])
 (.seq
 (.regQ [⟨some 59, .move (.tmp 11), none⟩,
  ⟨some 60, .bin .add (.tmp 59) (.cst (.int .i64 5)), none⟩,
  ⟨some 61, .bin .sub (.tmp 60) (.cst (.int .i64 1)), none⟩,
  ⟨some 62, .bin .rem (.tmp 61) (.cst (.int .i64 5)), none⟩,
  ⟨some 63, .indexAddr (.arr 5) none (.tmp 8) (.tmp 62), none⟩,
  ⟨some 64, .load none (.tmp 63), none⟩,
  ⟨some 65, .move (.tmp 11), none⟩,
  ⟨some 66, .bin .add (.tmp 65) (.cst (.int .i64 1)), none⟩,
  ⟨some 67, .bin .rem (.tmp 66) (.cst (.int .i64 5)), none⟩,
  ⟨some 68, .indexAddr (.arr 5) none (.tmp 8) (.tmp 67), none⟩,
  ⟨some 69, .load none (.tmp 68), none⟩,
  ⟨some 70, .call (.cst (.func (.func 81) [] [])) [(.tmp 69), (.cst (.int .i64 1))], none⟩,
  ⟨some 71, .bin .xor (.tmp 64) (.tmp 70), none⟩,
  ⟨some 12, .move (.tmp 71), none⟩])
 (.seq
 (.reg [⟨some 72, .move (.tmp 11), none⟩,
  ⟨some 13, .move (.tmp 72), none⟩])
 (.block 4
 (.loop [0, 1, 2, 3, 8, 10, 12, 13, 56] true L78_2))))))
 (.reg [⟨some 96, .bin .add (.tmp 56) (.cst (.int .i64 1)), none⟩,
  ⟨some 56, .move (.tmp 96), none⟩])))
def L78_4 : AC := .seq
 (.reg [⟨some 18, .bin .lss (.tmp 17) (.cst (.int .i64 5)), none⟩])
 (.seq
 (.cond (.tmp 18)
 (.skip)
 (.exit 0))
 (.seq
 (.block 1
 (.seq
 (.reg [⟨some 19, .move (.tmp 17), none⟩,
  ⟨some 9, .move (.tmp 19), none⟩])
 (.seq
 (.regQ [⟨some 20, .move (.tmp 9), none⟩,
  ⟨some 21, .move (.tmp 0), none⟩,
  ⟨some 22, .move (.tmp 9), none⟩,
  ⟨some 23, .nilCheck (.tmp 21), none⟩,
  ⟨some 24, .indexAddr (.arr 25) none (.tmp 23) (.tmp 22), none⟩,
  ⟨some 25, .load none (.tmp 24), none⟩,
  ⟨some 26, .move (.tmp 0), none⟩,
  ⟨some 27, .move (.tmp 9), none⟩,
  ⟨some 28, .bin .add (.tmp 27) (.cst (.int .i64 5)), none⟩,
  ⟨some 29, .nilCheck (.tmp 26), none⟩,
  ⟨some 30, .indexAddr (.arr 25) none (.tmp 29) (.tmp 28), none⟩,
  ⟨some 31, .load none (.tmp 30), none⟩,
  ⟨some 32, .bin .xor (.tmp 25) (.tmp 31), none⟩,
  ⟨some 33, .move (.tmp 0), none⟩,
  ⟨some 34, .move (.tmp 9), none⟩,
  ⟨some 35, .bin .add (.tmp 34) (.cst (.int .i64 10)), none⟩,
  ⟨some 36, .nilCheck (.tmp 33), none⟩,
  ⟨some 37, .indexAddr (.arr 25) none (.tmp 36) (.tmp 35), none⟩,
  ⟨some 38, .load none (.tmp 37), none⟩,
  ⟨some 39, .bin .xor (.tmp 32) (.tmp 38), none⟩,
  ⟨some 40, .move (.tmp 0), none⟩,
  ⟨some 41, .move (.tmp 9), none⟩,
  ⟨some 42, .bin .add (.tmp 41) (.cst (.int .i64 15)), none⟩,
  ⟨some 43, .nilCheck (.tmp 40), none⟩,
  ⟨some 44, .indexAddr (.arr 25) none (.tmp 43) (.tmp 42), none⟩,
  ⟨some 45, .load none (.tmp 44), none⟩,
  ⟨some 46, .bin .xor (.tmp 39) (.tmp 45), none⟩,
  ⟨some 47, .move (.tmp 0), none⟩,
  ⟨some 48, .move (.tmp 9), none⟩,
  ⟨some 49, .bin .add (.tmp 48) (.cst (.int .i64 20)), none⟩,
  ⟨some 50, .nilCheck (.tmp 47), none⟩,
  ⟨some 51, .indexAddr (.arr 25) none (.tmp 50) (.tmp 49), none⟩,
  ⟨some 52, .load none (.tmp 51), none⟩,
  ⟨some 53, .bin .xor (.tmp 46) (.tmp 52), none⟩,
  ⟨some 54, .indexAddr (.arr 5) none (.tmp 8) (.tmp 20), none⟩])
 (.reg [⟨none, .store 1 (.tmp 54) (.tmp 53), none⟩]))))
 (.reg [⟨some 55, .bin .add (.tmp 17) (.cst (.int .i64 1)), none⟩,
  ⟨some 17, .move (.tmp 55), none⟩])))
/- tollhouse/keccak.mix -/
def F78 : AFn := ⟨138, false, 4, [], .seq
 (.reg [⟨some 8, .alloc [(.int .u64 0), (.int .u64 0), (.int .u64 0), (.int .u64 0), (.int .u64 0)], none⟩])
 (.seq
 (.seq
 (.reg [⟨some 17, .move (.cst (.int .i64 0)), none⟩])
 (.block 0
 (.loop [0, 1, 2, 3, 8, 17] true L78_4)))
 (.seq
 (.reg [⟨some 10, .alloc [(.int .u64 0), (.int .u64 0), (.int .u64 0), (.int .u64 0), (.int .u64 0), (.int .u64 0), (.int .u64 0), (.int .u64 0), (.int .u64 0), (.int .u64 0), (.int .u64 0), (.int .u64 0), (.int .u64 0), (.int .u64 0), (.int .u64 0), (.int .u64 0), (.int .u64 0), (.int .u64 0), (.int .u64 0), (.int .u64 0), (.int .u64 0), (.int .u64 0), (.int .u64 0), (.int .u64 0), (.int .u64 0)], none⟩])
 (.seq
 (.seq
 (.reg [⟨some 56, .move (.cst (.int .i64 0)), none⟩])
 (.block 2
 (.loop [0, 1, 2, 3, 8, 10, 56] true L78_3)))
 (.seq
 (.seq
 (.reg [⟨some 14, .move (.cst (.int .i64 0)), none⟩])
 (.block 6
 (.loop [0, 3, 10, 14] true L78_1)))
 (.seq
 (.regQ [⟨some 130, .move (.tmp 0), none⟩,
  ⟨some 131, .nilCheck (.tmp 130), none⟩,
  ⟨some 132, .indexAddr (.arr 25) none (.tmp 131) (.cst (.int .i64 0)), none⟩,
  ⟨some 133, .load none (.tmp 132), none⟩,
  ⟨some 134, .move (.tmp 3), none⟩,
  ⟨some 135, .bin .xor (.tmp 133) (.tmp 134), none⟩,
  ⟨some 136, .nilCheck (.tmp 130), none⟩,
  ⟨some 137, .indexAddr (.arr 25) none (.tmp 136) (.cst (.int .i64 0)), none⟩])
 (.reg [⟨none, .store 1 (.tmp 137) (.tmp 135), none⟩]))))))⟩
theorem c78 : compF Try.prog gl false [] [([0, 1, 2, 3, 8, 17], true), ([0, 1, 2, 3, 8, 10, 56], true), ([0, 1, 2, 3, 8, 10, 12, 13, 56], true), ([0, 3, 10, 14], true), ([0, 3, 10, 14, 15, 105], true)] Try.f78 = some F78 := by kernel_rfl
def L79_0 : AC := .seq
 (.seq
 (.reg [⟨some 106, .move (.tmp 16), none⟩,
  ⟨some 107, .bin .lss (.tmp 106) (.cst (.int .i64 5)), none⟩])
 (.cond (.tmp 107)
 (.skip)
 (.exit 10)))
 (.seq
 (.block 11
 (.seq
 (.regQ [⟨some 110, .move (.tmp 16), none⟩,
  ⟨some 111, .bin .mul (.cst (.int .i64 5)) (.tmp 110), none⟩,
  ⟨some 112, .move (.tmp 15), none⟩,
  ⟨some 113, .bin .add (.tmp 111) (.tmp 112), none⟩,
  ⟨some 114, .move (.tmp 16), none⟩,
  ⟨some 115, .bin .mul (.cst (.int .i64 5)) (.tmp 114), none⟩,
  ⟨some 116, .move (.tmp 15), none⟩,
  ⟨some 117, .bin .add (.tmp 115) (.tmp 116), none⟩,
  ⟨some 118, .indexAddr (.arr 25) none (.tmp 11) (.tmp 117), none⟩,
  ⟨some 119, .load none (.tmp 118), none⟩,
  ⟨some 120, .move (.tmp 16), none⟩,
  ⟨some 121, .bin .mul (.cst (.int .i64 5)) (.tmp 120), none⟩,
  ⟨some 122, .move (.tmp 15), none⟩,
  ⟨some 123, .bin .add (.tmp 122) (.cst (.int .i64 1)), none⟩,
  ⟨some 124, .bin .rem (.tmp 123) (.cst (.int .i64 5)), none⟩,
  ⟨some 125, .bin .add (.tmp 121) (.tmp 124), none⟩,
  ⟨some 126, .indexAddr (.arr 25) none (.tmp 11) (.tmp 125), none⟩,
  ⟨some 127, .load none (.tmp 126), none⟩,
  ⟨some 128, .un .xor (.tmp 127), none⟩,
  ⟨some 129, .move (.tmp 16), none⟩,
  ⟨some 130, .bin .mul (.cst (.int .i64 5)) (.tmp 129), none⟩,
  ⟨some 131, .move (.tmp 15), none⟩,
  ⟨some 132, .bin .add (.tmp 131) (.cst (.int .i64 2)), none⟩,
  ⟨some 133, .bin .rem (.tmp 132) (.cst (.int .i64 5)), none⟩,
  ⟨some 134, .bin .add (.tmp 130) (.tmp 133), none⟩,
  ⟨some 135, .indexAddr (.arr 25) none (.tmp 11) (.tmp 134), none⟩,
  ⟨some 136, .load none (.tmp 135), none⟩,
  ⟨some 137, .bin .and (.tmp 128) (.tmp 136), none⟩,
  ⟨some 138, .bin .xor (.tmp 119) (.tmp 137), none⟩,
  ⟨some 139, .indexAddr (.arr 25) none (.tmp 12) (.tmp 113), none⟩])
 (.reg [⟨none, .store 1 (.tmp 139) (.tmp 138), none⟩])))
 (.reg [⟨some 108, .move (.tmp 16), none⟩,
  ⟨some 109, .bin .add (.tmp 108) (.cst (.int .i64 1)), none⟩,
  ⟨some 16, .move (.tmp 109), none⟩]))
def L79_1 : AC := .seq
 (.seq
 (.reg [⟨some 102, .move (.tmp 15), none⟩,
  ⟨some 103, .bin .lss (.tmp 102) (.cst (.int .i64 5)), none⟩])
 (.cond (.tmp 103)
 (.skip)
 (.exit 8)))
 (.seq
 (.block 9
 (.seq
 (.reg [⟨some 16, .move (.cst (.int .i64 0)), none⟩])
 (.block 10
 (.loop [0, 2, 6, 11, 12, 15, 16] true L79_0))))
 (.reg [⟨some 104, .move (.tmp 15), none⟩,
  ⟨some 105, .bin .add (.tmp 104) (.cst (.int .i64 1)), none⟩,
  ⟨some 15, .move (.tmp 105), none⟩]))
def L79_2 : AC := .seq
 (.seq
 (.reg [⟨some 68, .move (.tmp 14), none⟩,
  ⟨some 69, .bin .lss (.tmp 68) (.cst (.int .i64 5)), none⟩])
 (.cond (.tmp 69)
 (.skip)
 (.exit 6)))
 (.seq
 (.block 7
 (.seq
 (.regQ [⟨some 72, .move (.tmp 13), none⟩,
  ⟨some 73, .bin .mul (.cst (.int .i64 2)) (.tmp 72), none⟩,
  ⟨some 74, .move (.tmp 14), none⟩,
  ⟨some 75, .bin .mul (.cst (.int .i64 3)) (.tmp 74), none⟩,
  ⟨some 76, .bin .add (.tmp 73) (.tmp 75), none⟩,
  ⟨some 77, .bin .rem (.tmp 76) (.cst (.int .i64 5)), none⟩,
  ⟨some 78, .bin .mul (.cst (.int .i64 5)) (.tmp 77), none⟩,
  ⟨some 79, .move (.tmp 14), none⟩,
  ⟨some 80, .bin .add (.tmp 78) (.tmp 79), none⟩,
  ⟨some 81, .move (.tmp 0), none⟩,
  ⟨some 82, .move (.tmp 14), none⟩,
  ⟨some 83, .bin .mul (.cst (.int .i64 5)) (.tmp 82), none⟩,
  ⟨some 84, .move (.tmp 13), none⟩,
  ⟨some 85, .bin .add (.tmp 83) (.tmp 84), none⟩,
  ⟨some 86, .nilCheck (.tmp 81), none⟩,
  ⟨some 87, .fieldAddr 0 25 (.tmp 86), none⟩,
  ⟨some 88, .indexAddr (.arr 25) none (.tmp 87) (.tmp 85), none⟩,
  ⟨some 89, .load none (.tmp 88), none⟩,
  ⟨some 90, .move (.tmp 14), none⟩,
  ⟨some 91, .bin .mul (.cst (.int .i64 5)) (.tmp 90), none⟩,
  ⟨some 92, .move (.tmp 13), none⟩,
  ⟨some 93, .bin .add (.tmp 91) (.tmp 92), none⟩,
  ⟨some 94, .indexAddr (.arr 25) none (.tmp 4) (.tmp 93), none⟩,
  ⟨some 95, .load none (.tmp 94), none⟩,
  ⟨some 96, .move (.tmp 13), none⟩,
  ⟨some 97, .indexAddr (.arr 5) none (.tmp 8) (.tmp 96), none⟩,
  ⟨some 98, .load none (.tmp 97), none⟩,
  ⟨some 99, .bin .xor (.tmp 95) (.tmp 98), none⟩,
  ⟨some 100, .call (.cst (.func (.func 82) [] [])) [(.tmp 89), (.tmp 99)], none⟩,
  ⟨some 101, .indexAddr (.arr 25) none (.tmp 11) (.tmp 80), none⟩])
 (.reg [⟨none, .store 1 (.tmp 101) (.tmp 100), none⟩])))
 (.reg [⟨some 70, .move (.tmp 14), none⟩,
  ⟨some 71, .bin .add (.tmp 70) (.cst (.int .i64 1)), none⟩,
  ⟨some 14, .move (.tmp 71), none⟩]))
def L79_3 : AC := .seq
 (.seq
 (.reg [⟨some 64, .move (.tmp 13), none⟩,
  ⟨some 65, .bin .lss (.tmp 64) (.cst (.int .i64 5)), none⟩])
 (.cond (.tmp 65)
 (.skip)
 (.exit 4)))
 (.seq
 (.block 5
 (.seq
 (.reg [⟨some 14, .move (.cst (.int .i64 0)), none⟩])
 (.block 6
 (.loop [0, 2, 4, 6, 8, 11, 12, 13, 14] true L79_2))))
 (.reg [⟨some 66, .move (.tmp 13), none⟩,
  ⟨some 67, .bin .add (.tmp 66) (.cst (.int .i64 1)), none⟩,
  ⟨some 13, .move (.tmp 67), none⟩]))
def L79_4 : AC := .seq
 (.seq
 (.reg [⟨some 46, .move (.tmp 10), none⟩,
  ⟨some 47, .bin .lss (.tmp 46) (.cst (.int .i64 5)), none⟩])
 (.cond (.tmp 47)
 (.skip)
 (.exit 2)))
 (.seq
 (.block 3
 (.seq
 (.regQ [⟨some 50, .move (.tmp 10), none⟩,
  ⟨some 51, .move (.tmp 10), none⟩,
  ⟨some 52, .bin .add (.tmp 51) (.cst (.int .i64 4)), none⟩,
  ⟨some 53, .bin .rem (.tmp 52) (.cst (.int .i64 5)), none⟩,
  ⟨some 54, .indexAddr (.arr 5) none (.tmp 7) (.tmp 53), none⟩,
  ⟨some 55, .load none (.tmp 54), none⟩,
  ⟨some 56, .move (.tmp 10), none⟩,
  ⟨some 57, .bin .add (.tmp 56) (.cst (.int .i64 1)), none⟩,
  ⟨some 58, .bin .rem (.tmp 57) (.cst (.int .i64 5)), none⟩,
  ⟨some 59, .indexAddr (.arr 5) none (.tmp 7) (.tmp 58), none⟩,
  ⟨some 60, .load none (.tmp 59), none⟩,
  ⟨some 61, .call (.cst (.func (.func 82) [] [])) [(.cst (.int .i64 1)), (.tmp 60)], none⟩,
  ⟨some 62, .bin .xor (.tmp 55) (.tmp 61), none⟩,
  ⟨some 63, .indexAddr (.arr 5) none (.tmp 8) (.tmp 50), none⟩])
 (.reg [⟨none, .store 1 (.tmp 63) (.tmp 62), none⟩])))
 (.reg [⟨some 48, .move (.tmp 10), none⟩,
  ⟨some 49, .bin .add (.tmp 48) (.cst (.int .i64 1)), none⟩,
  ⟨some 10, .move (.tmp 49), none⟩]))
def L79_5 : AC := .seq
 (.seq
 (.reg [⟨some 17, .move (.tmp 9), none⟩,
  ⟨some 18, .bin .lss (.tmp 17) (.cst (.int .i64 5)), none⟩])
 (.cond (.tmp 18)
 (.skip)
 (.exit 0)))
 (.seq
 (.block 1
 (.seq
 (.regQ [⟨some 21, .move (.tmp 9), none⟩,
  ⟨some 22, .move (.tmp 9), none⟩,
  ⟨some 23, .indexAddr (.arr 25) none (.tmp 4) (.tmp 22), none⟩,
  ⟨some 24, .load none (.tmp 23), none⟩,
  ⟨some 25, .move (.tmp 9), none⟩,
  ⟨some 26, .bin .add (.cst (.int .i64 5)) (.tmp 25), none⟩,
  ⟨some 27, .indexAddr (.arr 25) none (.tmp 4) (.tmp 26), none⟩,
  ⟨some 28, .load none (.tmp 27), none⟩,
  ⟨some 29, .bin .xor (.tmp 24) (.tmp 28), none⟩,
  ⟨some 30, .move (.tmp 9), none⟩,
  ⟨some 31, .bin .add (.cst (.int .i64 10)) (.tmp 30), none⟩,
  ⟨some 32, .indexAddr (.arr 25) none (.tmp 4) (.tmp 31), none⟩,
  ⟨some 33, .load none (.tmp 32), none⟩,
  ⟨some 34, .bin .xor (.tmp 29) (.tmp 33), none⟩,
  ⟨some 35, .move (.tmp 9), none⟩,
  ⟨some 36, .bin .add (.cst (.int .i64 15)) (.tmp 35), none⟩,
  ⟨some 37, .indexAddr (.arr 25) none (.tmp 4) (.tmp 36), none⟩,
  ⟨some 38, .load none (.tmp 37), none⟩,
  ⟨some 39, .bin .xor (.tmp 34) (.tmp 38), none⟩,
  ⟨some 40, .move (.tmp 9), none⟩,
  ⟨some 41, .bin .add (.cst (.int .i64 20)) (.tmp 40), none⟩,
  ⟨some 42, .indexAddr (.arr 25) none (.tmp 4) (.tmp 41), none⟩,
  ⟨some 43, .load none (.tmp 42), none⟩,
  ⟨some 44, .bin .xor (.tmp 39) (.tmp 43), none⟩,
  ⟨some 45, .indexAddr (.arr 5) none (.tmp 7) (.tmp 21), none⟩])
 (.reg [⟨none, .store 1 (.tmp 45) (.tmp 44), none⟩])))
 (.reg [⟨some 19, .move (.tmp 9), none⟩,
  ⟨some 20, .bin .add (.tmp 19) (.cst (.int .i64 1)), none⟩,
  ⟨some 9, .move (.tmp 20), none⟩]))
/- (*tollhouse/tollhouseref03.Table).round -/
def F79 : AFn := ⟨151, true, 3, [.cell 6 (some 25)], .seq
 (.reg [⟨some 4, .box (.tmp 1), none⟩,
  ⟨some 6, .alloc [(.int .u64 0), (.int .u64 0), (.int .u64 0), (.int .u64 0), (.int .u64 0), (.int .u64 0), (.int .u64 0), (.int .u64 0), (.int .u64 0), (.int .u64 0), (.int .u64 0), (.int .u64 0), (.int .u64 0), (.int .u64 0), (.int .u64 0), (.int .u64 0), (.int .u64 0), (.int .u64 0), (.int .u64 0), (.int .u64 0), (.int .u64 0), (.int .u64 0), (.int .u64 0), (.int .u64 0), (.int .u64 0)], none⟩])
 (.seq
 (.reg [⟨some 7, .alloc [(.int .u64 0), (.int .u64 0), (.int .u64 0), (.int .u64 0), (.int .u64 0)], none⟩,
  ⟨some 8, .alloc [(.int .u64 0), (.int .u64 0), (.int .u64 0), (.int .u64 0), (.int .u64 0)], none⟩])
 (.seq
 (.seq
 (.reg [⟨some 9, .move (.cst (.int .i64 0)), none⟩])
 (.block 0
 (.loop [0, 2, 4, 6, 7, 8, 9] true L79_5)))
 (.seq
 (.seq
 (.reg [⟨some 10, .move (.cst (.int .i64 0)), none⟩])
 (.block 2
 (.loop [0, 2, 4, 6, 7, 8, 10] true L79_4)))
 (.seq
 (.reg [⟨some 11, .alloc [(.int .u64 0), (.int .u64 0), (.int .u64 0), (.int .u64 0), (.int .u64 0), (.int .u64 0), (.int .u64 0), (.int .u64 0), (.int .u64 0), (.int .u64 0), (.int .u64 0), (.int .u64 0), (.int .u64 0), (.int .u64 0), (.int .u64 0), (.int .u64 0), (.int .u64 0), (.int .u64 0), (.int .u64 0), (.int .u64 0), (.int .u64 0), (.int .u64 0), (.int .u64 0), (.int .u64 0), (.int .u64 0)], none⟩,
  ⟨some 12, .alloc [(.int .u64 0), (.int .u64 0), (.int .u64 0), (.int .u64 0), (.int .u64 0), (.int .u64 0), (.int .u64 0), (.int .u64 0), (.int .u64 0), (.int .u64 0), (.int .u64 0), (.int .u64 0), (.int .u64 0), (.int .u64 0), (.int .u64 0), (.int .u64 0), (.int .u64 0), (.int .u64 0), (.int .u64 0), (.int .u64 0), (.int .u64 0), (.int .u64 0), (.int .u64 0), (.int .u64 0), (.int .u64 0)], none⟩])
 (.seq
 (.seq
 (.reg [⟨some 13, .move (.cst (.int .i64 0)), none⟩])
 (.block 4
 (.loop [0, 2, 4, 6, 8, 11, 12, 13] true L79_3)))
 (.seq
 (.seq
 (.reg [⟨some 15, .move (.cst (.int .i64 0)), none⟩])
 (.block 8
 (.loop [0, 2, 6, 11, 12, 15] true L79_1)))
 (.seq
 (.seq
 (.regQ [⟨some 140, .indexAddr (.arr 25) none (.tmp 12) (.cst (.int .i64 0)), none⟩,
  ⟨some 141, .load none (.tmp 140), none⟩,
  ⟨some 142, .move (.tmp 0), none⟩,
  ⟨some 143, .move (.tmp 2), none⟩,
  ⟨some 144, .nilCheck (.tmp 142), none⟩,
  ⟨some 145, .fieldAddr 25 24 (.tmp 144), none⟩,
  ⟨some 146, .indexAddr (.arr 24) none (.tmp 145) (.tmp 143), none⟩,
  ⟨some 147, .load none (.tmp 146), none⟩,
  ⟨some 148, .bin .xor (.tmp 141) (.tmp 147), none⟩,
  ⟨some 149, .indexAddr (.arr 25) none (.tmp 12) (.cst (.int .i64 0)), none⟩])
 (.reg [⟨none, .store 1 (.tmp 149) (.tmp 148), none⟩]))
 (.seq
 (.reg [⟨some 150, .load (some 25) (.tmp 12), none⟩,
  ⟨none, .store 25 (.tmp 6) (.tmp 150), none⟩])
 (.ret)))))))))⟩
theorem c79 : compF Try.prog gl true [] [([0, 2, 4, 6, 7, 8, 9], true), ([0, 2, 4, 6, 7, 8, 10], true), ([0, 2, 4, 6, 8, 11, 12, 13], true), ([0, 2, 4, 6, 8, 11, 12, 13, 14], true), ([0, 2, 6, 11, 12, 15], true), ([0, 2, 6, 11, 12, 15, 16], true)] Try.f79 = some F79 := by kernel_rfl
def L80_0 : AC := .seq
 (.reg [⟨some 9, .bin .lss (.tmp 8) (.tmp 7), none⟩])
 (.seq
 (.cond (.tmp 9)
 (.skip)
 (.exit 0))
 (.seq
 (.block 1
 (.seq
 (.reg [⟨some 10, .move (.tmp 8), none⟩,
  ⟨some 5, .move (.tmp 10), none⟩])
 (.seq
 (.reg [⟨some 11, .move (.tmp 1), none⟩,
  ⟨some 12, .move (.tmp 0), none⟩,
  ⟨some 13, .move (.tmp 5), none⟩,
  ⟨some 14, .indexAddr .slice none (.tmp 12) (.tmp 13), none⟩,
  ⟨some 15, .load none (.tmp 14), none⟩,
  ⟨some 16, .call (.tmp 11) [(.tmp 15)], none⟩])
 (.cond (.tmp 16)
 (.seq
 (.reg [⟨some 17, .move (.tmp 5), none⟩,
  ⟨some 4, .move (.tmp 17), none⟩])
 (.ret))
 (.skip)))))
 (.reg [⟨some 18, .bin .add (.tmp 8) (.cst (.int .i64 1)), none⟩,
  ⟨some 8, .move (.tmp 18), none⟩])))
/- slices.IndexFunc[[]string,string] -/
def F80 : AFn := ⟨19, false, 2, [.tmp 4], .seq
 (.reg [⟨some 4, .move (.cst (.int .i64 0)), none⟩])
 (.seq
 (.seq
 (.reg [⟨some 6, .move (.tmp 0), none⟩,
  ⟨some 7, .len (.tmp 6), none⟩,
  ⟨some 8, .move (.cst (.int .i64 0)), none⟩])
 (.block 0
 (.loop [0, 1, 7, 8] true L80_0)))
 (.seq
 (.reg [⟨some 4, .move (.cst (.int .i64 (-1))), none⟩])
 (.ret)))⟩
theorem c80 : compF Try.prog gl false [] [([0, 1, 7, 8], true)] Try.f80 = some F80 := by kernel_rfl
/- math/bits.RotateLeft64 -/
def F81 : AFn := ⟨17, true, 2, [.tmp 4], .seq
 (.reg [⟨some 4, .move (.cst (.int .u64 0)), none⟩])
 (.seq
 (.reg [⟨some 6, .move (.tmp 1), none⟩,
  ⟨some 7, .convInt .u64 (.tmp 6), none⟩,
  ⟨some 8, .bin .and (.tmp 7) (.cst (.int .u64 63)), none⟩,
  ⟨some 5, .move (.tmp 8), none⟩])
 (.seq
 (.reg [⟨some 9, .move (.tmp 0), none⟩,
  ⟨some 10, .move (.tmp 5), none⟩,
  ⟨some 11, .bin .shl (.tmp 9) (.tmp 10), none⟩,
  ⟨some 12, .move (.tmp 0), none⟩,
  ⟨some 13, .move (.tmp 5), none⟩,
  ⟨some 14, .bin .sub (.cst (.int .u64 64)) (.tmp 13), none⟩,
  ⟨some 15, .bin .shr (.tmp 12) (.tmp 14), none⟩,
  ⟨some 16, .bin .or (.tmp 11) (.tmp 15), none⟩,
  ⟨some 4, .move (.tmp 16), none⟩])
 (.ret)))⟩
theorem c81 : compF Try.prog gl true [] [] Try.f81 = some F81 := by kernel_rfl
/- tollhouse/tollhouseref03.left -/
def F82 : AFn := ⟨13, true, 2, [.tmp 4], .seq
 (.reg [⟨some 4, .move (.cst (.int .u64 0)), none⟩])
 (.seq
 (.regQ [⟨some 5, .move (.tmp 1), none⟩,
  ⟨some 6, .move (.tmp 0), none⟩,
  ⟨some 7, .bin .shl (.tmp 5) (.tmp 6), none⟩,
  ⟨some 8, .move (.tmp 1), none⟩,
  ⟨some 9, .move (.tmp 0), none⟩,
  ⟨some 10, .bin .sub (.cst (.int .i64 64)) (.tmp 9), none⟩,
  ⟨some 11, .bin .shr (.tmp 8) (.tmp 10), none⟩,
  ⟨some 12, .bin .or (.tmp 7) (.tmp 11), none⟩,
  ⟨some 4, .move (.tmp 12), none⟩])
 (.ret))⟩
theorem c82 : compF Try.prog gl true [] [] Try.f82 = some F82 := by kernel_rfl
def fns : List (Nat × AFn) := [(3, F3), (4, F4), (5, F5), (6, F6), (7, F7), (8, F8), (9, F9), (10, F10), (11, F11), (12, F12), (13, F13), (14, F14), (15, F15), (16, F16), (17, F17), (18, F18), (19, F19), (20, F20), (21, F21), (22, F22), (23, F23), (24, F24), (25, F25), (26, F26), (27, F27), (28, F28), (29, F29), (30, F30), (31, F31), (32, F32), (33, F33), (34, F34), (35, F35), (36, F36), (37, F37), (38, F38), (39, F39), (40, F40), (41, F41), (43, F43), (44, F44), (45, F45), (46, F46), (47, F47), (48, F48), (49, F49), (50, F50), (52, F52), (54, F54), (55, F55), (56, F56), (57, F57), (58, F58), (59, F59), (60, F60), (61, F61), (62, F62), (63, F63), (64, F64), (65, F65), (66, F66), (67, F67), (68, F68), (69, F69), (71, F71), (72, F72), (73, F73), (74, F74), (75, F75), (76, F76), (77, F77), (78, F78), (79, F79), (80, F80), (81, F81), (82, F82)]
def nats : List (Nat × (List AV → Heap → Option (AV × Heap))) := [(42, growG), (51, cloneM51), (53, leftN)]
def exts : List (Nat × (List AV → Option AV)) := [(23, cloneE none 1)]
def T : Tab := ⟨fun n => exts.lookup n, fun n => fns.lookup n, fun n => nats.lookup n⟩
theorem lookup_mem {α : Type} {f : Nat} {F : α} : ∀ {l : List (Nat × α)}, l.lookup f = some F → (f, F) ∈ l
  | [], h => by cases h
  | (g, G) :: r, h => by
    rw [List.lookup_cons] at h
    split at h
    · rename_i hb; cases h; rw [eq_of_beq hb]; exact List.mem_cons_self
    · exact List.mem_cons_of_mem _ (lookup_mem h)
theorem fnsOK : ∀ p ∈ fns, FnOK Try.prog gl p.1 p.2 := by
  intro p hp
  simp only [fns, List.mem_cons, List.not_mem_nil, or_false] at hp
  rcases hp with rfl | rfl | rfl | rfl | rfl | rfl | rfl | rfl | rfl | rfl | rfl | rfl | rfl | rfl | rfl | rfl | rfl | rfl | rfl | rfl | rfl | rfl | rfl | rfl | rfl | rfl | rfl | rfl | rfl | rfl | rfl | rfl | rfl | rfl | rfl | rfl | rfl | rfl | rfl | rfl | rfl | rfl | rfl | rfl | rfl | rfl | rfl | rfl | rfl | rfl | rfl | rfl | rfl | rfl | rfl | rfl | rfl | rfl | rfl | rfl | rfl | rfl | rfl | rfl | rfl | rfl | rfl | rfl | rfl | rfl | rfl | rfl | rfl | rfl | rfl | rfl
  · exact ⟨_, _, _, _, Try.func3, c3⟩
  · exact ⟨_, _, _, _, Try.func4, c4⟩
  · exact ⟨_, _, _, _, Try.func5, c5⟩
  · exact ⟨_, _, _, _, Try.func6, c6⟩
  · exact ⟨_, _, _, _, Try.func7, c7⟩
  · exact ⟨_, _, _, _, Try.func8, c8⟩
  · exact ⟨_, _, _, _, Try.func9, c9⟩
  · exact ⟨_, _, _, _, Try.func10, c10⟩
  · exact ⟨_, _, _, _, Try.func11, c11⟩
  · exact ⟨_, _, _, _, Try.func12, c12⟩
  · exact ⟨_, _, _, _, Try.func13, c13⟩
  · exact ⟨_, _, _, _, Try.func14, c14⟩
  · exact ⟨_, _, _, _, Try.func15, c15⟩
  · exact ⟨_, _, _, _, Try.func16, c16⟩
  · exact ⟨_, _, _, _, Try.func17, c17⟩
  · exact ⟨_, _, _, _, Try.func18, c18⟩
  · exact ⟨_, _, _, _, Try.func19, c19⟩
  · exact ⟨_, _, _, _, Try.func20, c20⟩
  · exact ⟨_, _, _, _, Try.func21, c21⟩
  · exact ⟨_, _, _, _, Try.func22, c22⟩
  · exact ⟨_, _, _, _, Try.func23, c23⟩
  · exact ⟨_, _, _, _, Try.func24, c24⟩
  · exact ⟨_, _, _, _, Try.func25, c25⟩
  · exact ⟨_, _, _, _, Try.func26, c26⟩
  · exact ⟨_, _, _, _, Try.func27, c27⟩
  · exact ⟨_, _, _, _, Try.func28, c28⟩
  · exact ⟨_, _, _, _, Try.func29, c29⟩
  · exact ⟨_, _, _, _, Try.func30, c30⟩
  · exact ⟨_, _, _, _, Try.func31, c31⟩
  · exact ⟨_, _, _, _, Try.func32, c32⟩
  · exact ⟨_, _, _, _, Try.func33, c33⟩
  · exact ⟨_, _, _, _, Try.func34, c34⟩
  · exact ⟨_, _, _, _, Try.func35, c35⟩
  · exact ⟨_, _, _, _, Try.func36, c36⟩
  · exact ⟨_, _, _, _, Try.func37, c37⟩
  · exact ⟨_, _, _, _, Try.func38, c38⟩
  · exact ⟨_, _, _, _, Try.func39, c39⟩
  · exact ⟨_, _, _, _, Try.func40, c40⟩
  · exact ⟨_, _, _, _, Try.func41, c41⟩
  · exact ⟨_, _, _, _, Try.func43, c43⟩
  · exact ⟨_, _, _, _, Try.func44, c44⟩
  · exact ⟨_, _, _, _, Try.func45, c45⟩
  · exact ⟨_, _, _, _, Try.func46, c46⟩
  · exact ⟨_, _, _, _, Try.func47, c47⟩
  · exact ⟨_, _, _, _, Try.func48, c48⟩
  · exact ⟨_, _, _, _, Try.func49, c49⟩
  · exact ⟨_, _, _, _, Try.func50, c50⟩
  · exact ⟨_, _, _, _, Try.func52, c52⟩
  · exact ⟨_, _, _, _, Try.func54, c54⟩
  · exact ⟨_, _, _, _, Try.func55, c55⟩
  · exact ⟨_, _, _, _, Try.func56, c56⟩
  · exact ⟨_, _, _, _, Try.func57, c57⟩
  · exact ⟨_, _, _, _, Try.func58, c58⟩
  · exact ⟨_, _, _, _, Try.func59, c59⟩
  · exact ⟨_, _, _, _, Try.func60, c60⟩
  · exact ⟨_, _, _, _, Try.func61, c61⟩
  · exact ⟨_, _, _, _, Try.func62, c62⟩
  · exact ⟨_, _, _, _, Try.func63, c63⟩
  · exact ⟨_, _, _, _, Try.func64, c64⟩
  · exact ⟨_, _, _, _, Try.func65, c65⟩
  · exact ⟨_, _, _, _, Try.func66, c66⟩
  · exact ⟨_, _, _, _, Try.func67, c67⟩
  · exact ⟨_, _, _, _, Try.func68, c68⟩
  · exact ⟨_, _, _, _, Try.func69, c69⟩
  · exact ⟨_, _, _, _, Try.func71, c71⟩
  · exact ⟨_, _, _, _, Try.func72, c72⟩
  · exact ⟨_, _, _, _, Try.func73, c73⟩
  · exact ⟨_, _, _, _, Try.func74, c74⟩
  · exact ⟨_, _, _, _, Try.func75, c75⟩
  · exact ⟨_, _, _, _, Try.func76, c76⟩
  · exact ⟨_, _, _, _, Try.func77, c77⟩
  · exact ⟨_, _, _, _, Try.func78, c78⟩
  · exact ⟨_, _, _, _, Try.func79, c79⟩
  · exact ⟨_, _, _, _, Try.func80, c80⟩
  · exact ⟨_, _, _, _, Try.func81, c81⟩
  · exact ⟨_, _, _, _, Try.func82, c82⟩
theorem natsOK : ∀ p ∈ nats, Callable Try.prog p.1 ∧ ∀ (args : List AV) (h : Heap) (v : AV) (h2 : Heap), p.2 args h = some (v, h2) → ∀ (S : St) (B : Nat) (W : World) (cargs : Array Value), Rel S h B W → VL S args cargs.toList → GlobOK gl S.imm → Calls Try.prog p.1 cargs W (GPost S h2 v B W) := by
  intro p hp
  simp only [nats, List.mem_cons, List.not_mem_nil, or_false] at hp
  rcases hp with rfl | rfl | rfl
  · exact ⟨grow_nat.1, fun args h v h2 hx S B W cargs r hv hg => grow_nat.2 args h v h2 hx gl S B W cargs r hv hg⟩
  · exact ⟨cloneM_ok51.1, fun args h v h2 hx S B W cargs r hv hg => cloneM_ok51.2 args h v h2 hx gl S B W cargs r hv hg⟩
  · exact ⟨leftN_ok.1, fun args h v h2 hx S B W cargs r hv hg => leftN_ok.2 args h v h2 hx gl S B W cargs r hv hg⟩
theorem mixed : Try.prog.follows .mixedOrders = true := by kernel_rfl
theorem x23 : PSound Try.prog gl 23 (cloneE none 1) := by
  refine clone_PSound mixed ⟨_, _, _, _, Try.func23, c23⟩ rfl (fun o els ho he hc hf => ?_) (fun a cap => ?_) (fun cap => ?_)
  · obtain ⟨y, ys, rfl⟩ := List.exists_cons_of_ne_nil he
    have hf' : fitsB (0 + (y :: ys).length) 1 = true := by rw [Nat.zero_add]; exact hf
    rcases ho with rfl | rfl
    all_goals
      refine WP_eq (prun_wp ?_)
      simp -implicitDefEqProofs (disch := omega) only [F23, isNil, elemsOf, setEls, aappend, List.replicate_zero, hf', initE, ax_seq, ax_skip, ax_ret, ax_exit, ax_scope, ax_regK, ax_regQK, ax_condK, ax_blockK, condK_t, condK_f, blkR_normal, blkR_ret, blkR_if, norR_eq, norQ_eq, nextR_normal, nextR_ret, nextR_exit, aops_nil, aops_none, aops_some, opsK_some, opsG_tt, opsG_ft, opsG_tf, opsG_ff, aopsQ_nil, aopsQ_none, aopsQ_some, quiK_some, quiG_tt, quiG_ft, quiG_tf, quiG_ff, aop, evO_tmp, evO_cst, getE_cons, setE_some, setE_none, bin_leq, bin_geq, bin_lss, bin_gtr, bin_eql, bin_neq, bin_add, bin_sub, bin_mul, Option.bind_some, Option.map_some, Option.bind_none, Option.map_none, Nat.reduceEqDiff, ↓reduceIte, Nat.reduceAdd, finish, resOf, tupOf, frz_eq, AM.freeze, freezeL, closed, nam, namL, if_true, if_false, Bool.false_eq_true, Bool.true_and, Bool.false_and, Bool.and_true, Bool.and_false, cellsOf, deref, boxAt, exAt, ldCells, oneL, oneCell, one, List.length_nil, List.nil_append, List.cons_append, List.getElem?_cons_zero, List.getElem?_cons_succ, List.drop_zero, List.drop_succ_cons, List.take_succ_cons, List.take_zero, Nat.reduceLeDiff, Nat.le_refl, evL, List.map_cons, List.map_nil, List.append_nil, adopt, bin_quo, bin_rem, rigK_sc, rigK_agg, rigK_tup, fstV_eq, quiet_load, quiet_convStr, quiet_call, rigid, rigidL, trim, Nat.lt_irrefl, and_false, false_and, Int.reduceEq, decide_true, decide_false, Int.reduceMod, Int.reduceDiv, Int.mul_zero, Int.add_zero, ax_loop, quiet_move, quiet_pick, quiet_build, quiet_nilCheck, quiet_bin, quiet_eqBool, quiet_eqArr, quiet_eqAgg, quiet_eqNil, quiet_un, quiet_convInt, quiet_makeFunc, quiet_slice, quiet_toArr, quiet_fieldAddr, quiet_field, quiet_indexAddr, quiet_index, quiet_indexStr, quiet_extract, quiet_len, quiet_lenT, quiet_convSS, quiet_minmax, opsG_undef, quiG_undef, fin_ret, fin_normal, WP_some, WP_bind, WP_map, WP_ite, WP_opsK_ite, WP_quiK_ite, BQ_eq, MQ_eq, LQ_normal, LQ_exit, LQ_ret, if_pos, if_neg, Bool.not_true, Bool.not_false, asI, elCells, kz_some, kz_none, Nat.mul_one, Nat.zero_add, Int.toNat_natCast, lenOf, List.length_map, true_and, and_true, trim_off, forall_const, implies_true, and_self, aun_not, decide_eq_true, decide_eq_false, IntWalk.i64_in, IntWalk.u64_in, cast_succ', List.set_cons_zero, List.set_cons_succ, List.length_set, List.length_append, List.length_replicate, Int.natCast_nonneg, flat_one', List.getElem?_drop, Nat.add_zero, ax_regD, runD_nil, runD_none, runD_some, dK_some, dG_tt, dG_ft, dG_tf, dG_ff, dG_undef, WP_dK_ite, chkR_eq, chkD, chkO, chkW, chkV_some, chkV_off, grow_eq, effB, reB, beqV, beqVL, vEq, wantE_none, wantE_some, beq_self_eq_true, Nat.reduceSub, Nat.reduceLT, strip, stripO, storeB_K, stB_eq, splice_nil, splice_one, splice_more, setParts_nil, setParts_K, spK_eq, nxE_some, nxE_none, bne_ff, bne_tf, bne_ft, bne_tt, beq_ff, beq_tf, beq_ft, beq_tt, bne_f, bne_t, fits_of, Int.reduceSub, Int.reduceAdd, Int.reduceMul, Int.reduceLT, Int.reduceLE, Int.reduceToNat, optI, aslice, cutSl, cutMs, cutStr, cutOwn, Option.getD_some, Option.getD_none, get_app, get_app0, set_app, set_app0, tn_pred, convS]
      simp [freeze1, hc, WP]
  · refine WP_eq (prun_wp ?_)
    simp -implicitDefEqProofs (disch := omega) only [F23, isNil, elemsOf, setEls, aappend, List.replicate_zero, show fitsB 0 1 = true from rfl, initE, ax_seq, ax_skip, ax_ret, ax_exit, ax_scope, ax_regK, ax_regQK, ax_condK, ax_blockK, condK_t, condK_f, blkR_normal, blkR_ret, blkR_if, norR_eq, norQ_eq, nextR_normal, nextR_ret, nextR_exit, aops_nil, aops_none, aops_some, opsK_some, opsG_tt, opsG_ft, opsG_tf, opsG_ff, aopsQ_nil, aopsQ_none, aopsQ_some, quiK_some, quiG_tt, quiG_ft, quiG_tf, quiG_ff, aop, evO_tmp, evO_cst, getE_cons, setE_some, setE_none, bin_leq, bin_geq, bin_lss, bin_gtr, bin_eql, bin_neq, bin_add, bin_sub, bin_mul, Option.bind_some, Option.map_some, Option.bind_none, Option.map_none, Nat.reduceEqDiff, ↓reduceIte, Nat.reduceAdd, finish, resOf, tupOf, frz_eq, AM.freeze, freezeL, closed, nam, namL, if_true, if_false, Bool.false_eq_true, Bool.true_and, Bool.false_and, Bool.and_true, Bool.and_false, cellsOf, deref, boxAt, exAt, ldCells, oneL, oneCell, one, List.length_cons, List.length_nil, List.nil_append, List.cons_append, List.getElem?_cons_zero, List.getElem?_cons_succ, List.drop_zero, List.drop_succ_cons, List.take_succ_cons, List.take_zero, Nat.reduceLeDiff, Nat.le_refl, evL, List.map_cons, List.map_nil, List.append_nil, adopt, bin_quo, bin_rem, rigK_sc, rigK_agg, rigK_tup, fstV_eq, quiet_load, quiet_convStr, quiet_call, rigid, rigidL, trim, Nat.lt_irrefl, and_false, false_and, Int.reduceEq, decide_true, decide_false, Int.reduceMod, Int.reduceDiv, Int.mul_zero, Int.add_zero, ax_loop, quiet_move, quiet_pick, quiet_build, quiet_nilCheck, quiet_bin, quiet_eqBool, quiet_eqArr, quiet_eqAgg, quiet_eqNil, quiet_un, quiet_convInt, quiet_makeFunc, quiet_slice, quiet_toArr, quiet_fieldAddr, quiet_field, quiet_indexAddr, quiet_index, quiet_indexStr, quiet_extract, quiet_len, quiet_lenT, quiet_convSS, quiet_minmax, opsG_undef, quiG_undef, fin_ret, fin_normal, WP_some, WP_bind, WP_map, WP_ite, WP_opsK_ite, WP_quiK_ite, BQ_eq, MQ_eq, LQ_normal, LQ_exit, LQ_ret, if_pos, if_neg, Bool.not_true, Bool.not_false, asI, elCells, kz_some, kz_none, Nat.mul_one, Nat.zero_add, Int.toNat_natCast, lenOf, List.length_map, true_and, and_true, trim_off, forall_const, implies_true, and_self, aun_not, decide_eq_true, decide_eq_false, IntWalk.i64_in, IntWalk.u64_in, cast_succ', List.set_cons_zero, List.set_cons_succ, List.length_set, List.length_append, List.length_replicate, Int.natCast_nonneg, flat_one', List.getElem?_drop, Nat.add_zero, ax_regD, runD_nil, runD_none, runD_some, dK_some, dG_tt, dG_ft, dG_tf, dG_ff, dG_undef, WP_dK_ite, chkR_eq, chkD, chkO, chkW, chkV_some, chkV_off, grow_eq, effB, reB, beqV, beqVL, vEq, wantE_none, wantE_some, beq_self_eq_true, Nat.reduceSub, Nat.reduceLT, strip, stripO, storeB_K, stB_eq, splice_nil, splice_one, splice_more, setParts_nil, setParts_K, spK_eq, nxE_some, nxE_none, bne_ff, bne_tf, bne_ft, bne_tt, beq_ff, beq_tf, beq_ft, beq_tt, bne_f, bne_t, fits_of, Int.reduceSub, Int.reduceAdd, Int.reduceMul, Int.reduceLT, Int.reduceLE, Int.reduceToNat, optI, aslice, cutSl, cutMs, cutStr, cutOwn, Option.getD_some, Option.getD_none, get_app, get_app0, set_app, set_app0, tn_pred, convS]
    simp [freeze1, closed, closedL, namL, WP]
  · refine WP_eq (prun_wp ?_)
    simp -implicitDefEqProofs (disch := omega) only [F23, isNil, initE, ax_seq, ax_skip, ax_ret, ax_exit, ax_scope, ax_regK, ax_regQK, ax_condK, ax_blockK, condK_t, condK_f, blkR_normal, blkR_ret, blkR_if, norR_eq, norQ_eq, nextR_normal, nextR_ret, nextR_exit, aops_nil, aops_none, aops_some, opsK_some, opsG_tt, opsG_ft, opsG_tf, opsG_ff, aopsQ_nil, aopsQ_none, aopsQ_some, quiK_some, quiG_tt, quiG_ft, quiG_tf, quiG_ff, aop, evO_tmp, evO_cst, getE_cons, setE_some, setE_none, bin_leq, bin_geq, bin_lss, bin_gtr, bin_eql, bin_neq, bin_add, bin_sub, bin_mul, Option.bind_some, Option.map_some, Option.bind_none, Option.map_none, Nat.reduceEqDiff, ↓reduceIte, Nat.reduceAdd, finish, resOf, tupOf, frz_eq, AM.freeze, freeze1, freezeL, closed, nam, namL, if_true, if_false, Bool.false_eq_true, Bool.true_and, Bool.false_and, Bool.and_true, Bool.and_false, cellsOf, deref, boxAt, exAt, ldCells, oneL, oneCell, one, List.length_cons, List.length_nil, List.nil_append, List.cons_append, List.getElem?_cons_zero, List.getElem?_cons_succ, List.drop_zero, List.drop_succ_cons, List.take_succ_cons, List.take_zero, Nat.reduceLeDiff, Nat.le_refl, evL, List.map_cons, List.map_nil, List.append_nil, adopt, bin_quo, bin_rem, rigK_sc, rigK_agg, rigK_tup, fstV_eq, quiet_load, quiet_convStr, quiet_call, rigid, rigidL, trim, Nat.lt_irrefl, and_false, false_and, Int.reduceEq, decide_true, decide_false, Int.reduceMod, Int.reduceDiv, Int.mul_zero, Int.add_zero, ax_loop, quiet_move, quiet_pick, quiet_build, quiet_nilCheck, quiet_bin, quiet_eqBool, quiet_eqArr, quiet_eqAgg, quiet_eqNil, quiet_un, quiet_convInt, quiet_makeFunc, quiet_slice, quiet_toArr, quiet_fieldAddr, quiet_field, quiet_indexAddr, quiet_index, quiet_indexStr, quiet_extract, quiet_len, quiet_lenT, quiet_convSS, quiet_minmax, opsG_undef, quiG_undef, fin_ret, fin_normal, WP_some, WP_bind, WP_map, WP_ite, WP_opsK_ite, WP_quiK_ite, BQ_eq, MQ_eq, LQ_normal, LQ_exit, LQ_ret, if_pos, if_neg, Bool.not_true, Bool.not_false, asI, elCells, kz_some, kz_none, Nat.mul_one, Nat.zero_add, Int.toNat_natCast, lenOf, List.length_map, true_and, and_true, trim_off, forall_const, implies_true, and_self, aun_not, decide_eq_true, decide_eq_false, IntWalk.i64_in, IntWalk.u64_in, cast_succ', List.set_cons_zero, List.set_cons_succ, List.length_set, List.length_append, List.length_replicate, Int.natCast_nonneg, flat_one', List.getElem?_drop, Nat.add_zero, ax_regD, runD_nil, runD_none, runD_some, dK_some, dG_tt, dG_ft, dG_tf, dG_ff, dG_undef, WP_dK_ite, chkR_eq, chkD, chkO, chkW, chkV_some, chkV_off, grow_eq, effB, reB, beqV, beqVL, vEq, wantE_none, wantE_some, beq_self_eq_true, Nat.reduceSub, Nat.reduceLT, strip, stripO, storeB_K, stB_eq, splice_nil, splice_one, splice_more, setParts_nil, setParts_K, spK_eq, nxE_some, nxE_none, bne_ff, bne_tf, bne_ft, bne_tt, beq_ff, beq_tf, beq_ft, beq_tt, bne_f, bne_t, fits_of, Int.reduceSub, Int.reduceAdd, Int.reduceMul, Int.reduceLT, Int.reduceLE, Int.reduceToNat, optI, aslice, cutSl, cutMs, cutStr, cutOwn, Option.getD_some, Option.getD_none, get_app, get_app0, set_app, set_app0, tn_pred, convS]
theorem extsOK : ∀ p ∈ exts, Callable Try.prog p.1 ∧ PSound Try.prog gl p.1 p.2 := by
  intro p hp
  simp only [exts, List.mem_cons, List.not_mem_nil, or_false] at hp
  rcases hp with rfl
  · exact ⟨(fnsOK (23, F23) (lookup_mem (l := fns) (f := 23) rfl)).callable, x23⟩
theorem e23 : T.ext 23 = some (cloneE none 1) := rfl
theorem tabOK : TabOK Try.prog gl T := ⟨fun f g h => extsOK (f, g) (lookup_mem h), fun f F h => fnsOK (f, F) (lookup_mem h), fun f g h => natsOK (f, g) (lookup_mem h)⟩
theorem n42 : T.nat 42 = some growG := rfl
theorem nf42 : T.fn 42 = none := rfl
theorem n51 : T.nat 51 = some cloneM51 := rfl
theorem nf51 : T.fn 51 = none := rfl
theorem n53 : T.nat 53 = some leftN := rfl
theorem nf53 : T.fn 53 = none := rfl
theorem t3 : T.fn 3 = some F3 := rfl
theorem t4 : T.fn 4 = some F4 := rfl
theorem t5 : T.fn 5 = some F5 := rfl
theorem t6 : T.fn 6 = some F6 := rfl
theorem t7 : T.fn 7 = some F7 := rfl
theorem t8 : T.fn 8 = some F8 := rfl
theorem t9 : T.fn 9 = some F9 := rfl
theorem t10 : T.fn 10 = some F10 := rfl
theorem t11 : T.fn 11 = some F11 := rfl
theorem t12 : T.fn 12 = some F12 := rfl
theorem t13 : T.fn 13 = some F13 := rfl
theorem t14 : T.fn 14 = some F14 := rfl
theorem t15 : T.fn 15 = some F15 := rfl
theorem t16 : T.fn 16 = some F16 := rfl
theorem t17 : T.fn 17 = some F17 := rfl
theorem t18 : T.fn 18 = some F18 := rfl
theorem t19 : T.fn 19 = some F19 := rfl
theorem t20 : T.fn 20 = some F20 := rfl
theorem t21 : T.fn 21 = some F21 := rfl
theorem t22 : T.fn 22 = some F22 := rfl
theorem t23 : T.fn 23 = some F23 := rfl
theorem t24 : T.fn 24 = some F24 := rfl
theorem t25 : T.fn 25 = some F25 := rfl
theorem t26 : T.fn 26 = some F26 := rfl
theorem t27 : T.fn 27 = some F27 := rfl
theorem t28 : T.fn 28 = some F28 := rfl
theorem t29 : T.fn 29 = some F29 := rfl
theorem t30 : T.fn 30 = some F30 := rfl
theorem t31 : T.fn 31 = some F31 := rfl
theorem t32 : T.fn 32 = some F32 := rfl
theorem t33 : T.fn 33 = some F33 := rfl
theorem t34 : T.fn 34 = some F34 := rfl
theorem t35 : T.fn 35 = some F35 := rfl
theorem t36 : T.fn 36 = some F36 := rfl
theorem t37 : T.fn 37 = some F37 := rfl
theorem t38 : T.fn 38 = some F38 := rfl
theorem t39 : T.fn 39 = some F39 := rfl
theorem t40 : T.fn 40 = some F40 := rfl
theorem t41 : T.fn 41 = some F41 := rfl
theorem t43 : T.fn 43 = some F43 := rfl
theorem t44 : T.fn 44 = some F44 := rfl
theorem t45 : T.fn 45 = some F45 := rfl
theorem t46 : T.fn 46 = some F46 := rfl
theorem t47 : T.fn 47 = some F47 := rfl
theorem t48 : T.fn 48 = some F48 := rfl
theorem t49 : T.fn 49 = some F49 := rfl
theorem t50 : T.fn 50 = some F50 := rfl
theorem t52 : T.fn 52 = some F52 := rfl
theorem t54 : T.fn 54 = some F54 := rfl
theorem t55 : T.fn 55 = some F55 := rfl
theorem t56 : T.fn 56 = some F56 := rfl
theorem t57 : T.fn 57 = some F57 := rfl
theorem t58 : T.fn 58 = some F58 := rfl
theorem t59 : T.fn 59 = some F59 := rfl
theorem t60 : T.fn 60 = some F60 := rfl
theorem t61 : T.fn 61 = some F61 := rfl
theorem t62 : T.fn 62 = some F62 := rfl
theorem t63 : T.fn 63 = some F63 := rfl
theorem t64 : T.fn 64 = some F64 := rfl
theorem t65 : T.fn 65 = some F65 := rfl
theorem t66 : T.fn 66 = some F66 := rfl
theorem t67 : T.fn 67 = some F67 := rfl
theorem t68 : T.fn 68 = some F68 := rfl
theorem t69 : T.fn 69 = some F69 := rfl
theorem t71 : T.fn 71 = some F71 := rfl
theorem t72 : T.fn 72 = some F72 := rfl
theorem t73 : T.fn 73 = some F73 := rfl
theorem t74 : T.fn 74 = some F74 := rfl
theorem t75 : T.fn 75 = some F75 := rfl
theorem t76 : T.fn 76 = some F76 := rfl
theorem t77 : T.fn 77 = some F77 := rfl
theorem t78 : T.fn 78 = some F78 := rfl
theorem t79 : T.fn 79 = some F79 := rfl
theorem t80 : T.fn 80 = some F80 := rfl
theorem t81 : T.fn 81 = some F81 := rfl
theorem t82 : T.fn 82 = some F82 := rfl
theorem p3 : T.pure 3 = true := rfl
theorem p4 : T.pure 4 = true := rfl
theorem p5 : T.pure 5 = true := rfl
theorem p6 : T.pure 6 = true := rfl
theorem p7 : T.pure 7 = true := rfl
theorem p8 : T.pure 8 = true := rfl
theorem p9 : T.pure 9 = true := rfl
theorem p10 : T.pure 10 = true := rfl
theorem p11 : T.pure 11 = true := rfl
theorem p17 : T.pure 17 = true := rfl
theorem p18 : T.pure 18 = true := rfl
theorem p20 : T.pure 20 = true := rfl
theorem p21 : T.pure 21 = true := rfl
theorem p22 : T.pure 22 = true := rfl
theorem p23 : T.pure 23 = true := rfl
theorem p43 : T.pure 43 = true := rfl
theorem p44 : T.pure 44 = true := rfl
theorem p55 : T.pure 55 = true := rfl
theorem p61 : T.pure 61 = true := rfl
theorem p62 : T.pure 62 = true := rfl
theorem p65 : T.pure 65 = true := rfl
theorem p66 : T.pure 66 = true := rfl
theorem p67 : T.pure 67 = true := rfl
theorem p72 : T.pure 72 = true := rfl
theorem p73 : T.pure 73 = true := rfl
theorem p74 : T.pure 74 = true := rfl
theorem p77 : T.pure 77 = true := rfl
theorem p79 : T.pure 79 = true := rfl
theorem p81 : T.pure 81 = true := rfl
theorem p82 : T.pure 82 = true := rfl
end Go.Proofs.Ytipbmacpenmgoaa.AM

/- Bytes and numbers, in plain Lean. -/
namespace Go.Proofs.Ytipbmacpenmgoaa.AM
open Go
set_option linter.unusedVariables false
set_option linter.unusedSimpArgs false
section
variable {k : IntKind} {n : Int} {b : Bool} {s : ByteArray} {o o2 : AOwn} {q q2 : Option Nat} {l l2 : List AV} {i j i2 j2 n2 n3 : Nat} {f : Fn} {v v2 : Value} {h : Heap} {x x2 : AV}
theorem cellsOf_int : cellsOf (.sc (.int k n)) = some [.sc (.int k n)] := rfl
theorem one_int : one (.sc (.int k n)) = true := rfl
theorem cellsOf_bool : cellsOf (.sc (.bool b)) = some [.sc (.bool b)] := rfl
theorem one_bool : one (.sc (.bool b)) = true := rfl
theorem cellsOf_str : cellsOf (.sc (.string s)) = some [.sc (.string s)] := rfl
theorem one_str : one (.sc (.string s)) = true := rfl
theorem cellsOf_nil : cellsOf (.sc (.slice none 0 0)) = some [.sc (.slice none 0 0)] := rfl
theorem one_nil : one (.sc (.slice none 0 0)) = true := rfl
theorem cellsOf_nilp : cellsOf (.sc (.pointer none)) = some [.sc (.pointer none)] := rfl
theorem one_nilp : one (.sc (.pointer none)) = true := rfl
theorem cellsOf_nilm : cellsOf (.sc (.map none)) = some [.sc (.map none)] := rfl
theorem one_nilm : one (.sc (.map none)) = true := rfl
theorem cellsOf_nilf : cellsOf (.sc .nilFunc) = some [.sc .nilFunc] := rfl
theorem one_nilf : one (.sc .nilFunc) = true := rfl
theorem cellsOf_slice : cellsOf (.slice o q l) = some [.slice o q l] := rfl
theorem one_slice : one (.slice o q l) = true := rfl
theorem cellsOf_ptr : cellsOf (.ptr i j) = some [.ptr i j] := rfl
theorem one_ptr : one (.ptr i j) = true := rfl
theorem cellsOf_ref : cellsOf (.ref l) = some [.ref l] := rfl
theorem one_ref : one (.ref l) = true := rfl
theorem cellsOf_ms : cellsOf (.ms i j q n2) = some [.ms i j q n2] := rfl
theorem one_ms : one (.ms i j q n2) = true := rfl
theorem cellsOf_func : cellsOf (.func f l l2) = some [.func f l l2] := rfl
theorem one_func : one (.func f l l2) = true := rfl
theorem cellsOf_agg : cellsOf (.agg l) = some l := rfl
theorem one_agg : one (.agg l) = false := rfl
theorem strip_sc : strip (.sc v) = .sc v := rfl
theorem strip_slice : strip (.slice o q l) = .slice (stripO o) q l := rfl
theorem strip_ptr : strip (.ptr i j) = .ptr i j := rfl
theorem strip_ref : strip (.ref l) = .ref l := rfl
theorem strip_ms : strip (.ms i j q n2) = .ms i j q n2 := rfl
theorem strip_func : strip (.func f l l2) = .func f l l2 := rfl
theorem strip_agg : strip (.agg l) = .agg l := rfl
theorem strip_tup : strip (.tup l) = .tup l := rfl
theorem lenOf_slice : lenOf (.slice o q l) = some l.length := rfl
theorem lenOf_ms : lenOf (.ms i j q n2) = some n2 := rfl
theorem lenOf_nil : lenOf (.sc (.slice none 0 0)) = some 0 := rfl
theorem elems_slice : elemsOf h q (.slice o q l) = some l := if_pos rfl
theorem elems_ms : elemsOf h q (.ms i j q n2) = msEls h i j q n2 := if_pos rfl
theorem elems_nil : elemsOf h q (.sc (.slice none 0 0)) = some [] := rfl
theorem elems_str : elemsOf h none (.sc (.string s)) = some (strEls s) := rfl
theorem convS_slice : convS h (.slice o none l) = (byteEls l).map fun r => .str (strOfNums r) := by simp [convS, elemsOf]
theorem convS_nil : convS h (.sc (.slice none 0 0)) = some (.str (strOfNums [])) := rfl
theorem convS_ms : convS h (.ms i j none n2) = ((msEls h i j none n2).bind byteEls).map fun r => .str (strOfNums r) := by simp [convS, elemsOf]
theorem stripO_none : stripO .none = .none := rfl
theorem stripO_full : stripO .full = .full := rfl
theorem stripO_tok : stripO (.tok i) = .none := rfl
theorem stripO_fresh : stripO .fresh = .none := rfl
theorem isNil_pn : isNil .ptr (.sc (.pointer none)) = some true := rfl
theorem isNil_pp : isNil .ptr (.ptr i j) = some false := rfl
theorem isNil_pr : isNil .ptr (.ref l) = some false := rfl
theorem isNil_sn : isNil .slice (.sc (.slice none 0 0)) = some true := rfl
theorem isNil_sc : isNil .slice (.slice o q (x :: l)) = some false := rfl
theorem isNil_ms : isNil .slice (.ms i j q n2) = some false := rfl
theorem elC_agg : elCells (.agg l) = l := rfl
theorem elC_int : elCells (.sc v) = [.sc v] := rfl
theorem elC_slice : elCells (.slice o q l) = [.slice o q l] := rfl
theorem elC_ref : elCells (.ref l) = [.ref l] := rfl
theorem elC_ptr : elCells (.ptr i j) = [.ptr i j] := rfl
theorem elC_ms : elCells (.ms i j q n2) = [.ms i j q n2] := rfl
theorem stripEl_agg : stripEl (.agg l) = .agg (l.map strip) := rfl
theorem stripEl_sc : stripEl (.sc v) = .sc v := rfl
theorem stripEl_slice : stripEl (.slice o q l) = .slice (stripO o) q l := rfl
theorem elFits_agg : elFits q (.agg l) = (q == some l.length && oneL l) := rfl
theorem elFits_sc : elFits q (.sc v) = (one (.sc v) && q == none) := rfl
theorem elFits_slice : elFits q (.slice o q2 l) = (one (.slice o q2 l) && q == none) := rfl
theorem beqV_ref : beqV (.ref l) (.ref l2) = beqVL l l2 := rfl
theorem beqV_agg : beqV (.agg l) (.agg l2) = beqVL l l2 := rfl
theorem beqV_slice : beqV (.slice o q l) (.slice o2 q2 l2) = (o == o2 && q == q2 && beqVL l l2) := rfl
theorem beqV_ptr : beqV (.ptr i j) (.ptr i2 j2) = (i == i2 && j == j2) := rfl
theorem beqV_ms : beqV (.ms i j q n2) (.ms i2 j2 q2 n3) = (i == i2 && j == j2 && q == q2 && n2 == n3) := rfl
theorem beqV_tup : beqV (.tup l) (.tup l2) = beqVL l l2 := rfl
theorem beqV_sc : beqV (.sc v) (.sc v2) = vEq v v2 := rfl
theorem beqVL_nil : beqVL [] [] = true := rfl
theorem beqVL_cons : beqVL (x :: l) (x2 :: l2) = (beqV x x2 && beqVL l l2) := rfl
end
abbrev i64 (x : Int) : AV := .int .i64 x
abbrev u8 (x : Int) : AV := .int .u8 x
abbrev u64 (x : Int) : AV := .int .u64 x
def I64 (x : Int) : Prop := -9223372036854775808 ≤ x ∧ x ≤ 9223372036854775807
def U64 (x : Int) : Prop := 0 ≤ x ∧ x ≤ 18446744073709551615
def be (l : List Int) : Int := l.foldl (fun x c => x * 256 + c) 0
def Bytes (l : List Int) : Prop := ∀ c ∈ l, 0 ≤ c ∧ c ≤ 255
def wideS (b : Int) : Nat := if b = 253 then 2 else if b = 254 then 4 else 8
def sizeS (x : Int) : Int := if x < 253 then 1 else if x ≤ 65535 then 3 else if x ≤ 4294967295 then 5 else 9
/-- the number with which bytes begin -/
def readS : List Int → Int × Int × Int
  | [] => (0, 0, 10)
  | b :: r => if b < 253 then (b, 1, 0) else if r.length < wideS b then (0, 0, 10) else if sizeS (be (r.take (wideS b))) = wideS b + 1 then (be (r.take (wideS b)), wideS b + 1, 0) else (0, 0, 10)
def tailS : Nat → Int → List Int
  | 0, _ => []
  | j + 1, x => (x / 256 ^ j % 256) :: tailS j x
/-- a number's bytes -/
def numS (x : Int) : List Int := if x < 253 then [x] else if x ≤ 65535 then 253 :: tailS 2 x else if x ≤ 4294967295 then 254 :: tailS 4 x else 255 :: tailS 8 x
def firstS (x : Int) : Int := if x < 253 then 0 else if x ≤ 65535 then 253 else if x ≤ 4294967295 then 254 else 255
def widthS (x : Int) : Nat := if x < 253 then 0 else if x ≤ 65535 then 2 else if x ≤ 4294967295 then 4 else 8
theorem be_snoc (l : List Int) (c : Int) : be (l ++ [c]) = be l * 256 + c := by unfold be; rw [List.foldl_append]; rfl
theorem be_from (l : List Int) (h : Bytes l) : ∀ x : Int, 0 ≤ x → 0 ≤ l.foldl (fun x c => x * 256 + c) x ∧ l.foldl (fun x c => x * 256 + c) x < (x + 1) * 256 ^ l.length := by
  induction l with
  | nil => intro x hx; simp; omega
  | cons c l ih =>
    intro x hx
    have hc := h c List.mem_cons_self
    have hz := ih (fun y hy => h y (List.mem_cons_of_mem _ hy)) (x * 256 + c) (by omega)
    refine ⟨hz.1, Int.lt_of_lt_of_le hz.2 ?_⟩
    rw [List.length_cons, Int.pow_succ, Int.mul_comm (256 ^ l.length) 256, ← Int.mul_assoc]
    exact Int.mul_le_mul_of_nonneg_right (by omega) (Int.le_of_lt (Int.pow_pos (by omega)))
theorem be_bound (l : List Int) (h : Bytes l) : 0 ≤ be l ∧ be l < 256 ^ l.length := by
  have := be_from l h 0 (by omega)
  rw [Int.zero_add, Int.one_mul] at this
  exact this
theorem take_bytes {l : List Int} (h : Bytes l) (n : Nat) : Bytes (l.take n) := fun c hc => h c (List.mem_of_mem_take hc)
theorem drop_bytes {l : List Int} (h : Bytes l) (n : Nat) : Bytes (l.drop n) := fun c hc => h c (List.mem_of_mem_drop hc)
theorem sizeS_le (x : Int) : 0 ≤ sizeS x ∧ sizeS x ≤ 9 := by
  unfold sizeS
  split
  · omega
  · split
    · omega
    · split <;> omega
theorem tailS_len (n : Nat) (x : Int) : (tailS n x).length = n := by
  induction n with
  | zero => rfl
  | succ n ih => unfold tailS; rw [List.length_cons, ih]
theorem numS_eq (x : Int) (h : ¬ x < 253) : numS x = firstS x :: tailS (widthS x) x := by
  unfold numS firstS widthS
  rw [if_neg h, if_neg h, if_neg h]
  split
  · rfl
  · split <;> rfl
theorem readS_cons (b : Int) (r : List Int) : readS (b :: r) = if b < 253 then (b, 1, 0) else if r.length < wideS b then (0, 0, 10) else if sizeS (be (r.take (wideS b))) = wideS b + 1 then (be (r.take (wideS b)), (wideS b : Int) + 1, 0) else (0, 0, 10) := rfl
theorem emod_split (x : Int) (h : 0 ≤ x) (j : Nat) : x % 256 ^ (j + 1) = x / 256 ^ j % 256 * 256 ^ j + x % 256 ^ j := by
  obtain ⟨n, rfl⟩ := Int.eq_ofNat_of_zero_le h
  have := @Nat.mod_mul (256 ^ j) 256 n
  rw [← Nat.pow_succ] at this
  have z : ((n % 256 ^ (j + 1) : Nat) : Int) = ((n % 256 ^ j + 256 ^ j * (n / 256 ^ j % 256) : Nat) : Int) := by rw [this]
  rw [Int.natCast_add, Int.natCast_mul, Int.natCast_emod, Int.natCast_emod, Int.natCast_emod, Int.natCast_ediv, Int.natCast_pow, Int.natCast_pow] at z
  show (n : Int) % ((256 : Nat) : Int) ^ (j + 1) = _
  rw [z, Int.mul_comm, Int.add_comm]; rfl
theorem be_tail (x : Int) (h : 0 ≤ x) : ∀ (n : Nat) (a : Int), (tailS n x).foldl (fun x c => x * 256 + c) a = a * 256 ^ n + x % 256 ^ n
  | 0, a => by simp [tailS]
  | n + 1, a => by
    unfold tailS
    rw [List.foldl_cons, be_tail x h n, emod_split x h n, Int.pow_succ, Int.add_mul, Int.mul_assoc, Int.mul_comm 256, Int.add_assoc]
theorem be_tailS (x : Int) (h : 0 ≤ x) (n : Nat) (hx : x < 256 ^ n) : be (tailS n x) = x := by
  unfold be
  rw [be_tail x h, Int.zero_mul, Int.zero_add, Int.emod_eq_of_lt h hx]
theorem tailS_bytes (x : Int) (h : 0 ≤ x) (n : Nat) : Bytes (tailS n x) := by
  induction n with
  | zero => intro c hc; simp [tailS] at hc
  | succ n ih =>
    intro c hc
    unfold tailS at hc
    rcases List.mem_cons.1 hc with rfl | hc
    · omega
    · exact ih c hc
theorem numS_bytes (x : Int) (h : 0 ≤ x) : Bytes (numS x) := by
  unfold numS
  split
  · intro c hc; simp at hc; omega
  · split
    · intro c hc; rcases List.mem_cons.1 hc with rfl | hc; (· omega); exact tailS_bytes x h _ c hc
    · split
      · intro c hc; rcases List.mem_cons.1 hc with rfl | hc; (· omega); exact tailS_bytes x h _ c hc
      · intro c hc; rcases List.mem_cons.1 hc with rfl | hc; (· omega); exact tailS_bytes x h _ c hc
theorem numS_len (x : Int) : ((numS x).length : Int) = sizeS x := by
  unfold numS sizeS
  split
  · rfl
  · split
    · rw [List.length_cons, tailS_len]; rfl
    · split <;> (rw [List.length_cons, tailS_len]; rfl)
theorem readS_num (x : Int) (h : 0 ≤ x) (h1 : x ≤ 18446744073709551615) (t : List Int) : readS (numS x ++ t) = (x, ((numS x).length : Int), 0) := by
  rw [numS_len]
  have key : ∀ (b : Int) (n : Nat), ¬ b < 253 → wideS b = n → x < 256 ^ n → sizeS x = n + 1 → readS (b :: tailS n x ++ t) = (x, sizeS x, 0) := by
    intro b n hb hw hx hs
    rw [List.cons_append, readS_cons]
    have ht : (tailS n x ++ t).take n = tailS n x := by
      have := @List.take_left _ (tailS n x) t
      rwa [tailS_len] at this
    have hl : ¬ (tailS n x ++ t).length < n := by rw [List.length_append, tailS_len]; omega
    rw [if_neg hb, hw, if_neg hl, ht, be_tailS x h n hx, if_pos hs, hs]
  unfold numS
  split
  · rename_i h2
    simp [readS, sizeS, h2]
  · rename_i h2
    split
    · rename_i h3
      exact key 253 2 (by omega) rfl (by omega) (by unfold sizeS; rw [if_neg h2, if_pos h3]; rfl)
    · rename_i h3
      split
      · rename_i h4
        exact key 254 4 (by omega) rfl (by omega) (by unfold sizeS; rw [if_neg h2, if_neg h3, if_pos h4]; rfl)
      · rename_i h4
        exact key 255 8 (by omega) rfl (by omega) (by unfold sizeS; rw [if_neg h2, if_neg h3, if_neg h4]; rfl)
theorem wideS_le (b : Int) : wideS b ≤ 8 := by unfold wideS; split; (· omega); split <;> omega
theorem str_append (a b : List Int) : strOfNums a ++ strOfNums b = strOfNums (a ++ b) := by
  apply ByteArray.ext
  simp [strOfNums]
theorem str_inj {a b : List Int} (ha : Bytes a) (hb : Bytes b) (h : (strOfNums a).toList = (strOfNums b).toList) : a = b := by
  rw [ByteArray.toList_eq, ByteArray.toList_eq, strOfNums_data, strOfNums_data] at h
  induction a generalizing b with
  | nil => cases b with | nil => rfl | cons _ _ => simp at h
  | cons x a ih =>
    cases b with
    | nil => simp at h
    | cons y b =>
      simp only [List.map_cons, List.cons.injEq] at h
      have hx := ha x List.mem_cons_self
      have hy := hb y List.mem_cons_self
      have e : x = y := by
        have := congrArg UInt8.toNat h.1
        simp [UInt8.toNat_ofNat'] at this
        omega
      rw [e, ih (fun c hc => ha c (List.mem_cons_of_mem _ hc)) (fun c hc => hb c (List.mem_cons_of_mem _ hc)) h.2]
theorem bytes_append {a b : List Int} (ha : Bytes a) (hb : Bytes b) : Bytes (a ++ b) := fun c hc => by
  rcases List.mem_append.1 hc with h | h
  · exact ha c h
  · exact hb c h
theorem readS_fine (l : List Int) (h : Bytes l) : (0 ≤ (readS l).1 ∧ (readS l).1 ≤ 18446744073709551615) ∧ (0 ≤ (readS l).2.1 ∧ (readS l).2.1 ≤ l.length) ∧ ((readS l).2.2 = 0 ∨ (readS l).2.2 = 10) ∧ ((readS l).2.2 = 0 → 1 ≤ (readS l).2.1) := by
  cases l with
  | nil => simp [readS]
  | cons b r =>
    have hb := h b List.mem_cons_self
    have hr : Bytes r := fun c hc => h c (List.mem_cons_of_mem _ hc)
    rw [readS_cons]
    split
    · simp; omega
    · split
      · simp; omega
      · rename_i h1 h2
        have hw := wideS_le b
        have hbd := be_bound (r.take (wideS b)) (take_bytes hr _)
        have hlen : (r.take (wideS b)).length = wideS b := by rw [List.length_take]; omega
        rw [hlen] at hbd
        have hp : (256 : Int) ^ wideS b ≤ 256 ^ 8 := by
          have z : ((256 ^ wideS b : Nat) : Int) ≤ ((256 ^ 8 : Nat) : Int) := Int.ofNat_le.2 (Nat.pow_le_pow_right (by omega) hw)
          simpa using z
        split
        · rw [List.length_cons]; refine ⟨⟨hbd.1, by show be (r.take (wideS b)) ≤ _; omega⟩, ⟨by show 0 ≤ (wideS b : Int) + 1; omega, by show (wideS b : Int) + 1 ≤ _; omega⟩, Or.inl rfl, fun _ => by show (1 : Int) ≤ (wideS b : Int) + 1; omega⟩
        · simp; omega
theorem size_mono (x y : Int) (h : x ≤ y) : sizeS x ≤ sizeS y := by
  unfold sizeS
  repeat' split
  all_goals omega
theorem num_inj {x y : Int} (hx : 0 ≤ x) (hx1 : x ≤ 18446744073709551615) (hy : 0 ≤ y) (hy1 : y ≤ 18446744073709551615) (h : numS x = numS y) : x = y := by
  have a := readS_num x hx hx1 []
  have b := readS_num y hy hy1 []
  rw [h, b] at a
  exact (congrArg Prod.fst a).symm
theorem u8_closed : ∀ (l : List Int), closedL (l.map u8) = true
  | [] => rfl
  | x :: l => by
    have := u8_closed l
    simp only [closedL, List.map_cons, namL, nam, Bool.true_and] at this ⊢
    exact this
theorem byteEls_u8 : ∀ (l : List Int), byteEls (l.map u8) = some l
  | [] => rfl
  | x :: l => by simp only [List.map_cons, byteEls, byteEls_u8 l, Option.map_some]
theorem get_u8 {l : List Int} {i : Nat} (h : i < l.length) : (l.map u8)[i]? = some (u8 l[i]) := by rw [List.getElem?_map, List.getElem?_eq_getElem h]; rfl
theorem bytes_get {l : List Int} (h : Bytes l) {i : Nat} (hi : i < l.length) : 0 ≤ l[i] ∧ l[i] ≤ 255 := h _ (List.getElem_mem hi)
theorem w_u8 (x : Int) : IntKind.u8.wrap x = x % 256 := IntKind.wrap_u8 x
theorem shl_c (k k2 : IntKind) (x : Int) (n : Nat) (hn : n ≤ k.bits) : abin .shl (.int k x) (.int k2 (n : Int)) = some (.int k (k.wrap (x * 2 ^ n))) := by
  simp only [abin, ashift, if_neg (show ¬ (n : Int) < 0 by omega), Int.toNat_natCast, Nat.min_eq_left hn]
theorem shr_c (k k2 : IntKind) (x : Int) (n : Nat) (hn : n ≤ k.bits) : abin .shr (.int k x) (.int k2 (n : Int)) = some (.int k (x.fdiv (2 ^ n))) := by
  simp only [abin, ashift, if_neg (show ¬ (n : Int) < 0 by omega), Int.toNat_natCast, Nat.min_eq_left hn]
theorem or_byte (x c : Int) (h0 : 0 ≤ x) (h1 : x * 256 + 255 ≤ 18446744073709551615) (c0 : 0 ≤ c) (c1 : c ≤ 255) : abin .or (.int .u64 (x * 256)) (.int .u64 c) = some (.int .u64 (x * 256 + c)) := by
  obtain ⟨a, rfl⟩ := Int.eq_ofNat_of_zero_le h0
  obtain ⟨b, rfl⟩ := Int.eq_ofNat_of_zero_le c0
  simp only [abin, aint, abit, if_true, Option.map_some, Option.some.injEq, Value.int.injEq, true_and]
  have e : (BitVec.ofInt IntKind.u64.bits ((a : Int) * 256) ||| BitVec.ofInt IntKind.u64.bits (b : Int)).toNat = a * 256 + b := by
    show (BitVec.ofInt 64 ((a : Int) * 256) ||| BitVec.ofInt 64 (b : Int)).toNat = _
    rw [BitVec.toNat_or, BitVec.toNat_ofInt, BitVec.toNat_ofInt]
    have e1 : (((a : Int) * 256) % (2 ^ 64 : Nat)).toNat = a <<< 8 := by
      rw [Nat.shiftLeft_eq]
      omega
    have e2 : ((b : Int) % (2 ^ 64 : Nat)).toNat = b := by omega
    rw [e1, e2, ← Nat.shiftLeft_add_eq_or_of_lt (show b < 2 ^ 8 by omega), Nat.shiftLeft_eq]
  rw [e, IntKind.wrap_u64]
  omega
end Go.Proofs.Ytipbmacpenmgoaa.AM

/- The sets for runs, each as one fact. -/
namespace Go.Proofs.Ytipbmacpenmgoaa.AM
open Go
set_option maxRecDepth 100000
set_option maxHeartbeats 4000000
set_option linter.defProp false
def wC := (And.intro (And.intro (And.intro (And.intro (And.intro (And.intro (And.intro @ax_seq (And.intro @ax_skip @ax_ret)) (And.intro @ax_exit (And.intro @ax_scope @ax_regK))) (And.intro (And.intro @ax_regQK (And.intro @ax_condK @ax_blockK)) (And.intro @condK_t (And.intro @condK_f @blkR_normal)))) (And.intro (And.intro (And.intro @blkR_ret (And.intro @blkR_if @norR_eq)) (And.intro @norQ_eq (And.intro @nextR_normal @nextR_ret))) (And.intro (And.intro @nextR_exit (And.intro @aops_nil @aops_none)) (And.intro (And.intro @aops_some @opsK_some) (And.intro @opsG_tt @opsG_ft))))) (And.intro (And.intro (And.intro (And.intro @opsG_tf (And.intro @opsG_ff @aopsQ_nil)) (And.intro @aopsQ_none (And.intro @aopsQ_some @quiK_some))) (And.intro (And.intro @quiG_tt (And.intro @quiG_ft @quiG_tf)) (And.intro @quiG_ff (And.intro @evO_tmp @evO_cst)))) (And.intro (And.intro (And.intro @getE_cons (And.intro @setE_some @setE_none)) (And.intro @bin_leq (And.intro @bin_geq @bin_lss))) (And.intro (And.intro @bin_gtr (And.intro @bin_eql @bin_neq)) (And.intro (And.intro @bin_add @bin_sub) (And.intro @bin_mul @Option.bind_some.{0, 0})))))) (And.intro (And.intro (And.intro (And.intro (And.intro @Option.map_some.{0, 0} (And.intro @Option.bind_none.{0, 0} @Option.map_none.{0, 0})) (And.intro @frz_eq (And.intro @Bool.false_eq_true @Bool.true_and))) (And.intro (And.intro @Bool.false_and (And.intro @Bool.and_true @Bool.and_false)) (And.intro @List.length_cons.{0} (And.intro @List.length_nil.{0} @List.nil_append.{0})))) (And.intro (And.intro (And.intro @List.cons_append.{0} (And.intro @List.getElem?_cons_zero.{0} @List.getElem?_cons_succ.{0})) (And.intro @List.drop_zero.{0} (And.intro @List.drop_succ_cons.{0} @List.take_succ_cons.{0}))) (And.intro (And.intro @List.take_zero.{0} (And.intro @Nat.le_refl @List.map_cons.{0, 0})) (And.intro (And.intro @List.map_nil.{0, 0} @List.append_nil.{0}) (And.intro @bin_quo @bin_rem))))) (And.intro (And.intro (And.intro (And.intro @rigK_sc (And.intro @rigK_agg @rigK_tup)) (And.intro @fstV_eq (And.intro @quiet_load @quiet_convStr))) (And.intro (And.intro @quiet_call (And.intro @Nat.lt_irrefl @and_false)) (And.intro @false_and (And.intro @decide_true @decide_false)))) (And.intro (And.intro (And.intro @Int.mul_zero (And.intro @Int.add_zero @ax_loop)) (And.intro @quiet_move (And.intro @quiet_pick @quiet_build))) (And.intro (And.intro @quiet_nilCheck (And.intro @quiet_bin @quiet_eqBool)) (And.intro (And.intro @quiet_eqArr @quiet_eqNil) (And.intro @quiet_un @quiet_convInt))))))) (And.intro (And.intro (And.intro (And.intro (And.intro (And.intro @quiet_makeFunc (And.intro @quiet_slice @quiet_toArr)) (And.intro @quiet_fieldAddr (And.intro @quiet_field @quiet_indexAddr))) (And.intro (And.intro @quiet_index (And.intro @quiet_indexStr @quiet_extract)) (And.intro @quiet_len (And.intro @quiet_lenT @quiet_convSS)))) (And.intro (And.intro (And.intro @quiet_minmax (And.intro @opsG_undef @quiG_undef)) (And.intro @fin_ret (And.intro @fin_normal @WP_some))) (And.intro (And.intro @WP_bind (And.intro @WP_map @WP_ite)) (And.intro (And.intro @WP_opsK_ite @WP_quiK_ite) (And.intro @BQ_eq @MQ_eq))))) (And.intro (And.intro (And.intro (And.intro @LQ_normal (And.intro @LQ_exit @LQ_ret)) (And.intro @Bool.not_true (And.intro @Bool.not_false @kz_some))) (And.intro (And.intro @kz_none (And.intro @Nat.mul_one @Nat.zero_add)) (And.intro @Int.toNat_natCast (And.intro @List.length_map.{0, 0} @true_and)))) (And.intro (And.intro (And.intro @and_true (And.intro @trim_off @and_self)) (And.intro @aun_not (And.intro @decide_eq_true @decide_eq_false))) (And.intro (And.intro @IntWalk.i64_in (And.intro @IntWalk.u64_in @cast_succ')) (And.intro (And.intro @List.set_cons_zero.{0} @List.set_cons_succ.{0}) (And.intro @List.length_set.{0} @List.length_append.{0})))))) (And.intro (And.intro (And.intro (And.intro (And.intro @List.length_replicate.{0} (And.intro @Int.natCast_nonneg @flat_one')) (And.intro @List.getElem?_drop.{0} (And.intro @Nat.add_zero @ax_regD))) (And.intro (And.intro @runD_nil (And.intro @runD_none @runD_some)) (And.intro @dK_some (And.intro @dG_tt @dG_ft)))) (And.intro (And.intro (And.intro @dG_tf (And.intro @dG_ff @dG_undef)) (And.intro @WP_dK_ite (And.intro @chkR_eq @chkV_some))) (And.intro (And.intro @chkV_off (And.intro @grow_eq @wantE_none)) (And.intro (And.intro @wantE_some @storeB_K) (And.intro @stB_eq @splice_nil))))) (And.intro (And.intro (And.intro (And.intro @splice_one (And.intro @splice_more @setParts_nil)) (And.intro @setParts_K (And.intro @spK_eq @nxE_some))) (And.intro (And.intro @nxE_none (And.intro @bne_ff @bne_tf)) (And.intro @bne_ft (And.intro @bne_tt @beq_ff)))) (And.intro (And.intro (And.intro @beq_tf (And.intro @beq_ft @beq_tt)) (And.intro @bne_f (And.intro @bne_t @fits_of))) (And.intro (And.intro @Option.getD_some.{0} (And.intro @Option.getD_none.{0} @get_app)) (And.intro (And.intro @get_app0 @set_app) (And.intro @set_app0 @tn_pred))))))))
def wO := (And.intro (And.intro (And.intro (And.intro (And.intro (And.intro @cellsOf_int @one_int) (And.intro @cellsOf_bool @one_bool)) (And.intro (And.intro @cellsOf_str @one_str) (And.intro @cellsOf_nil (And.intro @one_nil @cellsOf_nilp)))) (And.intro (And.intro (And.intro @one_nilp @cellsOf_nilm) (And.intro @one_nilm @cellsOf_nilf)) (And.intro (And.intro @one_nilf @cellsOf_slice) (And.intro @one_slice (And.intro @cellsOf_ptr @one_ptr))))) (And.intro (And.intro (And.intro (And.intro @cellsOf_ref @one_ref) (And.intro @cellsOf_ms @one_ms)) (And.intro (And.intro @cellsOf_func @one_func) (And.intro @cellsOf_agg (And.intro @one_agg @strip_sc)))) (And.intro (And.intro (And.intro @strip_slice @strip_ptr) (And.intro @strip_ref (And.intro @strip_ms @strip_func))) (And.intro (And.intro @strip_agg @strip_tup) (And.intro @lenOf_slice (And.intro @lenOf_ms @lenOf_nil)))))) (And.intro (And.intro (And.intro (And.intro (And.intro @elems_slice @elems_ms) (And.intro @elems_nil @elems_str)) (And.intro (And.intro @stripO_none @stripO_full) (And.intro @stripO_tok (And.intro @stripO_fresh @isNil_pn)))) (And.intro (And.intro (And.intro @isNil_pp @isNil_pr) (And.intro @isNil_sn (And.intro @isNil_sc @isNil_ms))) (And.intro (And.intro @elC_agg @elC_int) (And.intro @elC_slice (And.intro @elC_ref @elC_ptr))))) (And.intro (And.intro (And.intro (And.intro @elC_ms @stripEl_agg) (And.intro @stripEl_sc @stripEl_slice)) (And.intro (And.intro @elFits_agg @elFits_sc) (And.intro @elFits_slice (And.intro @beqV_ref @beqV_agg)))) (And.intro (And.intro (And.intro @beqV_slice @beqV_ptr) (And.intro @beqV_ms (And.intro @beqV_tup @beqV_sc))) (And.intro (And.intro @beqVL_nil @beqVL_cons) (And.intro @convS_slice (And.intro @convS_nil @convS_ms)))))))
theorem dq1 {p : Prop} [Decidable p] (h : decide p = true) : p := of_decide_eq_true h
theorem dq2 {p : Prop} [Decidable p] (h : decide p = false) : ¬p := of_decide_eq_false h
theorem dq3 {p : Prop} [Decidable p] (h : (!decide p) = true) : ¬p := of_decide_eq_false ((Bool.not_eq_true' _).mp h)
theorem dq4 {p : Prop} [Decidable p] (h : (!decide p) = false) : p := of_decide_eq_true ((Bool.not_eq_false' _).mp h)
end Go.Proofs.Ytipbmacpenmgoaa.AM

/- The digest, in plain Lean: words, rounds, bytes. -/
namespace Go.Proofs.Ytipbmacpenmgoaa.AM
open Go
set_option linter.unusedVariables false
set_option linter.unusedSimpArgs false
abbrev Wd := BitVec 64
def nw (l : List Wd) (i : Nat) : Wd := l.getD i 0#64
def nn (l : List Nat) (i : Nat) : Nat := l.getD i 0
/-- a word turned to the left -/
def rl (n : Nat) (w : Wd) : Wd := (w <<< n) ||| (w >>> (64 - n))
def kBy : List Nat := [0, 1, 62, 28, 27, 36, 44, 6, 55, 20, 3, 10, 43, 25, 39, 41, 45, 15, 21, 8, 18, 2, 61, 56, 14]
def kTo : List Nat := [0, 10, 20, 5, 15, 16, 1, 11, 21, 6, 7, 17, 2, 12, 22, 23, 8, 18, 3, 13, 14, 24, 9, 19, 4]
def kFrom : List Nat := [0, 6, 12, 18, 24, 3, 9, 10, 16, 22, 1, 7, 13, 19, 20, 4, 5, 11, 17, 23, 2, 8, 14, 15, 21]
def kCon : List Nat := [1, 32898, 9223372036854808714, 9223372039002292224, 32907, 2147483649, 9223372039002292353, 9223372036854808585, 138, 136, 2147516425, 2147483658, 2147516555, 9223372036854775947, 9223372036854808713, 9223372036854808579, 9223372036854808578, 9223372036854775936, 32778, 9223372039002259466, 9223372039002292353, 9223372036854808704, 2147483649, 9223372039002292232]
def k5 : List Nat := [0, 1, 2, 3, 4]
def k25 : List Nat := [0, 1, 2, 3, 4, 5, 6, 7, 8, 9, 10, 11, 12, 13, 14, 15, 16, 17, 18, 19, 20, 21, 22, 23, 24]
def k32 : List Nat := [0, 1, 2, 3, 4, 5, 6, 7, 8, 9, 10, 11, 12, 13, 14, 15, 16, 17, 18, 19, 20, 21, 22, 23, 24, 25, 26, 27, 28, 29, 30, 31]
def kCols (s : List Wd) : List Wd := k5.map fun x => nw s x ^^^ nw s (x + 5) ^^^ nw s (x + 10) ^^^ nw s (x + 15) ^^^ nw s (x + 20)
def kSums (c : List Wd) : List Wd := k5.map fun x => nw c ((x + 4) % 5) ^^^ rl 1 (nw c ((x + 1) % 5))
def kTurned (s d : List Wd) : List Wd := k25.map fun j => rl (nn kBy (nn kFrom j)) (nw s (nn kFrom j) ^^^ nw d (nn kFrom j % 5))
def kRows (b : List Wd) : List Wd := k25.map fun j => nw b j ^^^ (nw b (5 * (j / 5) + (j + 2) % 5) &&& ~~~ nw b (5 * (j / 5) + (j + 1) % 5))
def kHead (c : Wd) : List Wd → List Wd
  | [] => []
  | x :: l => (x ^^^ c) :: l
def kRound (s : List Wd) (c : Wd) : List Wd := kHead c (kRows (kTurned s (kSums (kCols s))))
def kPerm (s : List Wd) : List Wd := (kCon.map (BitVec.ofNat 64)).foldl kRound s
def kAdd (s : List Wd) (a : Nat) (b : Int) : List Wd := s.set (a / 8) (nw s (a / 8) ^^^ (BitVec.ofInt 64 b <<< (8 * (a % 8))))
/-- a byte is taken in, at a rate -/
def kStep (r : Nat) (p : List Wd × Nat) (b : Int) : List Wd × Nat := if p.2 + 1 = r then (kPerm (kAdd p.1 p.2 b), 0) else (kAdd p.1 p.2 b, p.2 + 1)
def kTake (l : List Int) : List Wd × Nat := l.foldl (kStep 136) (List.replicate 25 0#64, 0)
def kEnd (p : List Wd × Nat) : List Wd := kPerm (kAdd (kAdd p.1 p.2 6) 135 128)
def kByte (s : List Wd) (i : Nat) : Int := ((nw s (i / 8) >>> (8 * (i % 8))).toNat % 256 : Nat)
/-- the digest of bytes -/
def kSum (l : List Int) : List Int := k32.map (kByte (kEnd (kTake l)))
/-! ### the same over numbers, for the kernel -/
def nRl (n w : Nat) : Nat := ((w <<< n) % 18446744073709551616) ||| (w >>> (64 - n))
def nCols (s : List Nat) : List Nat := k5.map fun x => nn s x ^^^ nn s (x + 5) ^^^ nn s (x + 10) ^^^ nn s (x + 15) ^^^ nn s (x + 20)
def nSums (c : List Nat) : List Nat := k5.map fun x => nn c ((x + 4) % 5) ^^^ nRl 1 (nn c ((x + 1) % 5))
def nTurned (s d : List Nat) : List Nat := k25.map fun j => nRl (nn kBy (nn kFrom j)) (nn s (nn kFrom j) ^^^ nn d (nn kFrom j % 5))
def nRows (b : List Nat) : List Nat := k25.map fun j => nn b j ^^^ (nn b (5 * (j / 5) + (j + 2) % 5) &&& (18446744073709551615 - nn b (5 * (j / 5) + (j + 1) % 5)))
def nHead (c : Nat) : List Nat → List Nat
  | [] => []
  | x :: l => (x ^^^ c) :: l
def nRound (s : List Nat) (c : Nat) : List Nat := nHead c (nRows (nTurned s (nSums (nCols s))))
def nPerm (s : List Nat) : List Nat := kCon.foldl nRound s
def nAdd (s : List Nat) (a b : Nat) : List Nat := s.set (a / 8) (nn s (a / 8) ^^^ ((b <<< (8 * (a % 8))) % 18446744073709551616))
def nStep (r : Nat) (p : List Nat × Nat) (b : Nat) : List Nat × Nat := if p.2 + 1 = r then (nPerm (nAdd p.1 p.2 b), 0) else (nAdd p.1 p.2 b, p.2 + 1)
def nTake (l : List Nat) : List Nat × Nat := l.foldl (nStep 136) (List.replicate 25 0, 0)
def nEnd (p : List Nat × Nat) : List Nat := nPerm (nAdd (nAdd p.1 p.2 6) 135 128)
def nSum (l : List Nat) : List Nat := k32.map fun i => (nn (nEnd (nTake l)) (i / 8) >>> (8 * (i % 8))) % 256
/-! ### they are the same -/
abbrev wn (l : List Wd) : List Nat := l.map BitVec.toNat
theorem nn_wn (l : List Wd) (i : Nat) : nn (wn l) i = (nw l i).toNat := by
  simp only [nn, nw, wn, List.getD_eq_getElem?_getD, List.getElem?_map]
  cases l[i]? <;> rfl
theorem nRl_wn (n : Nat) (w : Wd) : nRl n w.toNat = (rl n w).toNat := by
  simp only [nRl, rl, BitVec.toNat_or, BitVec.toNat_shiftLeft, BitVec.toNat_ushiftRight]
theorem nCols_wn (s : List Wd) : nCols (wn s) = wn (kCols s) := by
  simp only [nCols, kCols, nn_wn, List.map_map]
  apply List.map_congr_left
  intro x _
  simp only [Function.comp, BitVec.toNat_xor]
theorem nSums_wn (s : List Wd) : nSums (wn s) = wn (kSums s) := by
  simp only [nSums, kSums, nn_wn, List.map_map]
  apply List.map_congr_left
  intro x _
  simp only [Function.comp, BitVec.toNat_xor, nRl_wn]
theorem nTurned_wn (s d : List Wd) : nTurned (wn s) (wn d) = wn (kTurned s d) := by
  simp only [nTurned, kTurned, nn_wn, List.map_map]
  apply List.map_congr_left
  intro x _
  simp only [Function.comp, ← BitVec.toNat_xor, nRl_wn]
theorem nRows_wn (s : List Wd) : nRows (wn s) = wn (kRows s) := by
  simp only [nRows, kRows, nn_wn, List.map_map]
  apply List.map_congr_left
  intro x _
  simp only [Function.comp, BitVec.toNat_xor, BitVec.toNat_and, BitVec.toNat_not]
theorem nHead_wn (c : Wd) : ∀ (s : List Wd), nHead c.toNat (wn s) = wn (kHead c s)
  | [] => rfl
  | x :: l => by simp only [nHead, kHead, wn, List.map_cons, BitVec.toNat_xor]
theorem nRound_wn (s : List Wd) (c : Wd) : nRound (wn s) c.toNat = wn (kRound s c) := by
  simp only [nRound, kRound, nCols_wn, nSums_wn, nTurned_wn, nRows_wn, nHead_wn]
theorem nFold_wn : ∀ (cs : List Nat) (s : List Wd), (∀ c ∈ cs, c < 2 ^ 64) → cs.foldl nRound (wn s) = wn ((cs.map (BitVec.ofNat 64)).foldl kRound s)
  | [], s, _ => rfl
  | c :: cs, s, h => by
    have hc : (BitVec.ofNat 64 c).toNat = c := by rw [BitVec.toNat_ofNat, Nat.mod_eq_of_lt (h c (by simp))]
    simp only [List.foldl_cons, List.map_cons]
    rw [← hc, nRound_wn, nFold_wn cs _ (fun x hx => h x (by simp [hx])), hc]
theorem nPerm_wn (s : List Wd) : nPerm (wn s) = wn (kPerm s) := nFold_wn _ _ (by decide)
theorem nAdd_wn (s : List Wd) (a : Nat) (b : Int) (h0 : 0 ≤ b) (h1 : b < 256) : nAdd (wn s) a b.toNat = wn (kAdd s a b) := by
  have hb : b.toNat = (BitVec.ofInt 64 b).toNat := by rw [BitVec.toNat_ofInt]; omega
  simp only [nAdd, kAdd, nn_wn, wn, List.map_set, BitVec.toNat_xor, BitVec.toNat_shiftLeft, hb]
theorem nStep_wn (r : Nat) (s : List Wd) (a : Nat) (b : Int) (h0 : 0 ≤ b) (h1 : b < 256) : nStep r (wn s, a) b.toNat = (wn (kStep r (s, a) b).1, (kStep r (s, a) b).2) := by
  simp only [nStep, kStep, nAdd_wn _ _ _ h0 h1, nPerm_wn]
  split <;> rfl
theorem nTake_wn : ∀ (l : List Int) (s : List Wd) (a : Nat), (∀ b ∈ l, 0 ≤ b ∧ b < 256) → (l.map Int.toNat).foldl (nStep 136) (wn s, a) = (wn (l.foldl (kStep 136) (s, a)).1, (l.foldl (kStep 136) (s, a)).2)
  | [], s, a, _ => rfl
  | b :: l, s, a, h => by
    simp only [List.map_cons, List.foldl_cons]
    rw [nStep_wn 136 s a b (h b (by simp)).1 (h b (by simp)).2]
    exact nTake_wn l _ _ fun x hx => h x (by simp [hx])
theorem kSum_nSum (l : List Int) (h : ∀ b ∈ l, 0 ≤ b ∧ b < 256) : kSum l = (nSum (l.map Int.toNat)).map Int.ofNat := by
  have h1 := nTake_wn l (List.replicate 25 0#64) 0 h
  have h2 : nEnd (nTake (l.map Int.toNat)) = wn (kEnd (kTake l)) := by
    unfold nEnd nTake kEnd kTake
    rw [show (List.replicate 25 (0 : Nat)) = wn (List.replicate 25 0#64) from rfl, h1]
    rw [show (6 : Nat) = (6 : Int).toNat from rfl, nAdd_wn _ _ _ (by decide) (by decide), show (128 : Nat) = (128 : Int).toNat from rfl, nAdd_wn _ _ _ (by decide) (by decide), nPerm_wn]
  unfold kSum nSum
  rw [h2, List.map_map]
  apply List.map_congr_left
  intro i _
  simp only [Function.comp, kByte, nn_wn, BitVec.toNat_ushiftRight]
  rfl
theorem kRound_len (s : List Wd) (c : Wd) : (kRound s c).length = 25 := rfl
theorem kFold_len : ∀ (cs : List Wd) (s : List Wd), s.length = 25 → (cs.foldl kRound s).length = 25
  | [], s, h => h
  | c :: cs, s, h => kFold_len cs _ (kRound_len s c)
theorem kPerm_len {s : List Wd} (h : s.length = 25) : (kPerm s).length = 25 := kFold_len _ s h
theorem kAdd_len {s : List Wd} (h : s.length = 25) (a : Nat) (b : Int) : (kAdd s a b).length = 25 := by rw [kAdd, List.length_set, h]
theorem kSum_len (l : List Int) : (kSum l).length = 32 := by simp [kSum, k32]
theorem kSum_byte (l : List Int) : ∀ b ∈ kSum l, 0 ≤ b ∧ b < 256 := by
  intro b hb
  simp only [kSum, List.mem_map] at hb
  obtain ⟨i, _, rfl⟩ := hb
  simp only [kByte]
  omega
end Go.Proofs.Ytipbmacpenmgoaa.AM

/- A run with pure contracts in the place of functions that have them is a run of the machine. -/
namespace Go.Proofs.Ytipbmacpenmgoaa.AM
open Go
set_option linter.unusedVariables false
theorem aexec_ax {T : Tab} {C : Cl} (hc : CLe C (Cω T)) (n : Nat) : ∀ (c : AC) (e : Env) (h : Heap), ole (aexec C n c e h) (ax T c e h)
  | .skip, e, h => by rw [ax_skip]; exact ole.refl _
  | .reg ops, e, h => by rw [ax_reg]; exact (aops_le hc _ _ _).map
  | .regQ ops, e, h => by rw [ax_regQ]; exact (aopsQ_le hc _ _ _).map
  | .regD ops st, e, h => by rw [ax_regD]; exact (runD_le hc _ _ _ _).bind fun r => chkR_le hc e ops st r
  | .seq a b, e, h => by
    rw [ax_seq]
    simp only [aexec]
    refine (aexec_ax hc n a e h).bind fun p => ?_
    obtain ⟨x, e', h'⟩ := p
    cases x
    · exact aexec_ax hc n b _ _
    · exact ole.refl _
    · exact ole.refl _
  | .cond c a b, e, h => by
    rw [ax_condK]
    simp only [aexec]
    split
    · rename_i hv; rw [hv]; exact aexec_ax hc n a e h
    · rename_i hv; rw [hv]; exact aexec_ax hc n b e h
    · exact fun r hr => by cases hr
  | .block id b, e, h => by rw [ax_block]; exact (aexec_ax hc n b e h).map
  | .loop keep gc b, e, h => by
    rw [ax_loop]
    simp only [aexec]
    have : ∀ (k m : Nat) (e : Env) (h : Heap), ole (aloop (aexec C n b) keep gc m k e h) (axl T keep gc b m e h) := by
      intro k m
      induction k with
      | zero => exact fun e h r hr => by simp [aloop] at hr
      | succ k ih =>
        intro e h
        rw [axl_eq]
        simp only [aloop]
        refine (ole.refl _).bind fun p => (aexec_ax hc n b _ _).bind fun q => ?_
        obtain ⟨x, e', h'⟩ := q
        cases x
        · exact ih _ _
        · exact ole.refl _
        · exact ole.refl _
    exact this _ _ _ _
  | .exit id, e, h => by rw [ax_exit]; exact ole.refl _
  | .scope b, e, h => by rw [ax_scope]; exact aexec_ax hc n b e h
  | .ret, e, h => by rw [ax_ret]; exact ole.refl _
/-- contracts in the place of functions -/
def Over (T : Tab) (x : Nat → Option (List AV → Option AV)) : Tab := ⟨fun f => (x f).or (T.ext f), T.fn, T.nat⟩
theorem over_le {T : Tab} {x : Nat → Option (List AV → Option AV)} (hp : ∀ f g, x f = some g → T.pure f = true ∧ ∀ args h, ole (pcall g args h) (ag T f args h)) : ∀ n, CLe ⟨gcall (Over T x) n, (Over T x).pure⟩ (Cω T) := by
  have hpure : (Over T x).pure = T.pure := by
    funext f
    cases hx : x f with
    | none => simp only [Tab.pure, Over, hx, Option.none_or]
    | some g =>
      rw [(hp f g hx).1]
      simp only [Tab.pure, Over, hx, Option.some_or, Option.isSome_some, Bool.true_or]
  intro n
  induction n with
  | zero => exact ⟨hpure, fun f args h r hr => by simp [gcall] at hr⟩
  | succ n ih =>
    refine ⟨hpure, fun f args h => ?_⟩
    simp only [gcall]
    cases hx : x f with
    | some g =>
      simp only [Over, hx, Option.some_or]
      exact (hp f g hx).2 args h
    | none =>
      simp only [Over, hx, Option.none_or]
      cases hx2 : T.ext f with
      | some g => simp only []; rw [ag_ext hx2]; exact ole.refl _
      | none =>
        simp only []
        cases hf : T.fn f with
        | none =>
          simp only []
          cases hn : T.nat f with
          | none => exact fun r hr => by simp at hr
          | some g => rw [ag_nat hx2 hf hn]; exact ole.refl _
        | some F =>
          simp only []
          split
          · rename_i hl
            cases hpu : F.pure with
            | true =>
              simp only [if_true]
              rw [ag_pure hx2 hf hpu args hl]
              refine pcall_le (fun a => ?_) args h
              unfold prun
              exact ((aexec_ax ih n F.body _ _).bind fun _ => ole.refl _).bind fun _ => ole.refl _
            | false =>
              simp only [Bool.false_eq_true, if_false]
              rw [ag_gen hx2 hf hpu args hl]
              exact (aexec_ax ih n F.body _ _).bind fun _ => ole.refl _
          · exact fun r hr => by simp at hr
theorem ag_of_over {T : Tab} {x : Nat → Option (List AV → Option AV)} (hp : ∀ f g, x f = some g → T.pure f = true ∧ ∀ args h, ole (pcall g args h) (ag T f args h)) {n f : Nat} {args : List AV} {h : Heap} {r : AV × Heap} (hr : gcall (Over T x) n f args h = some r) : ag T f args h = some r :=
  (over_le hp n).call f args h r hr
end Go.Proofs.Ytipbmacpenmgoaa.AM

/- The rounds of the digest, as the machine runs them: by the kernel, over words that are not known. -/
namespace Go.Proofs.Ytipbmacpenmgoaa.AM
open Go
set_option maxRecDepth 100000
set_option linter.unusedVariables false
set_option linter.unusedSimpArgs false
/-- operations on words, as the machine has them -/
def oI (op : BinOp) (a b : Int) : Int := match abin op (.int .u64 a) (.int .u64 b) with | some (.int _ n) => n | _ => 0
def uI (a : Int) : Int := match aun .xor (.int .u64 a) with | some (.int _ n) => n | _ => 0
def ni (l : List Int) (i : Nat) : Int := l.getD i 0
def iRl (n : Nat) (w : Int) : Int := oI .or (oI .shl w n) (oI .shr w (64 - n : Nat))
def iCols (s : List Int) : List Int := k5.map fun x => oI .xor (oI .xor (oI .xor (oI .xor (ni s x) (ni s (x + 5))) (ni s (x + 10))) (ni s (x + 15))) (ni s (x + 20))
def iSums (c : List Int) : List Int := k5.map fun x => oI .xor (ni c ((x + 4) % 5)) (iRl 1 (ni c ((x + 1) % 5)))
def iTurned (s d : List Int) : List Int := k25.map fun j => iRl (nn kBy (nn kFrom j)) (oI .xor (ni s (nn kFrom j)) (ni d (nn kFrom j % 5)))
def iRows (b : List Int) : List Int := k25.map fun j => oI .xor (ni b j) (oI .andNot (ni b (5 * (j / 5) + (j + 2) % 5)) (ni b (5 * (j / 5) + (j + 1) % 5)))
def iRowsR (b : List Int) : List Int := k25.map fun j => oI .xor (ni b j) (oI .and (uI (ni b (5 * (j / 5) + (j + 1) % 5))) (ni b (5 * (j / 5) + (j + 2) % 5)))
def iHead (c : Int) : List Int → List Int
  | [] => []
  | x :: l => oI .xor x c :: l
def iRound (s : List Int) (c : Int) : List Int := iHead c (iRows (iTurned s (iSums (iCols s))))
def iRoundR (s : List Int) (c : Int) : List Int := iHead c (iRowsR (iTurned s (iSums (iCols s))))
abbrev vI (l : List Int) : List AV := l.map fun n => .int .u64 n
def spgT : List AV := (kBy.map fun n => .int .i64 (n : Nat)) ++ ((kTo.map fun n => .int .i64 (n : Nat)) ++ (kCon.map fun n => .int .u64 (n : Nat)))
/-- a sponge's cells: its words, its tables, its rate and place -/
def spgC (s : List AV) (r a : Int) : List AV := s ++ (spgT ++ [.int .i64 r, .int .i64 a])
def tabC : List AV := (kBy.map fun n => .int .i64 (n : Nat)) ++ (kCon.map fun n => .int .u64 (n : Nat))
/-- 32 empty bytes -/
def Z32 : AObj := .cells (List.replicate 32 (.int .u8 0))
theorem mix_k (c r a s0 s1 s2 s3 s4 s5 s6 s7 s8 s9 s10 s11 s12 s13 s14 s15 s16 s17 s18 s19 s20 s21 s22 s23 s24 : Int) :
    (gcall T 60 78 [.ptr 2 0, .ptr 2 25, .ptr 2 50, .int .u64 c] [Z32, Z32, .cells (spgC (vI [s0, s1, s2, s3, s4, s5, s6, s7, s8, s9, s10, s11, s12, s13, s14, s15, s16, s17, s18, s19, s20, s21, s22, s23, s24]) r a)]).map (fun p => (p.1, p.2.take 3)) =
      some (.tup [], [Z32, Z32, .cells (spgC (vI (iRound [s0, s1, s2, s3, s4, s5, s6, s7, s8, s9, s10, s11, s12, s13, s14, s15, s16, s17, s18, s19, s20, s21, s22, s23, s24] c)) r a)]) := by kernel_rfl
/-! ### words -/
abbrev wI (l : List Wd) : List Int := l.map fun w => (w.toNat : Int)
theorem ofInt_nat (a : Wd) : BitVec.ofInt 64 (a.toNat : Int) = a := by
  rw [BitVec.ofInt_natCast, BitVec.ofNat_toNat, BitVec.setWidth_eq]
theorem wrap_nat (a : Wd) : IntKind.u64.wrap (a.toNat : Int) = a.toNat := by
  rw [IntKind.wrap_u64]
  have := a.isLt
  omega
theorem oI_xor (a b : Wd) : oI .xor a.toNat b.toNat = ((a ^^^ b).toNat : Int) := by
  show IntKind.u64.wrap ((BitVec.ofInt 64 (a.toNat : Int) ^^^ BitVec.ofInt 64 (b.toNat : Int)).toNat : Int) = _
  rw [ofInt_nat, ofInt_nat, wrap_nat]
theorem oI_or (a b : Wd) : oI .or a.toNat b.toNat = ((a ||| b).toNat : Int) := by
  show IntKind.u64.wrap ((BitVec.ofInt 64 (a.toNat : Int) ||| BitVec.ofInt 64 (b.toNat : Int)).toNat : Int) = _
  rw [ofInt_nat, ofInt_nat, wrap_nat]
theorem oI_and (a b : Wd) : oI .and a.toNat b.toNat = ((a &&& b).toNat : Int) := by
  show IntKind.u64.wrap ((BitVec.ofInt 64 (a.toNat : Int) &&& BitVec.ofInt 64 (b.toNat : Int)).toNat : Int) = _
  rw [ofInt_nat, ofInt_nat, wrap_nat]
theorem oI_andNot (a b : Wd) : oI .andNot a.toNat b.toNat = ((a &&& ~~~b).toNat : Int) := by
  show IntKind.u64.wrap ((BitVec.ofInt 64 (a.toNat : Int) &&& ~~~BitVec.ofInt 64 (b.toNat : Int)).toNat : Int) = _
  rw [ofInt_nat, ofInt_nat, wrap_nat]
theorem uI_not (a : Wd) : uI a.toNat = ((~~~a).toNat : Int) := by
  show IntKind.u64.wrap ((BitVec.ofInt 64 (18446744073709551615 : Int) ^^^ BitVec.ofInt 64 (a.toNat : Int)).toNat : Int) = _
  rw [ofInt_nat, wrap_nat, show BitVec.ofInt 64 (18446744073709551615 : Int) = BitVec.allOnes 64 from by kernel_rfl, BitVec.allOnes_xor]
theorem oI_shl (a : Wd) (n : Nat) (hn : n ≤ 64) : oI .shl a.toNat (n : Nat) = ((a <<< n).toNat : Int) := by
  have h0 : ¬ ((n : Int) < 0) := by omega
  show (match (if (n : Int) < 0 then none else some (Value.int .u64 (IntKind.u64.wrap ((a.toNat : Int) * 2 ^ min (n : Int).toNat 64)))) with | some (.int _ m) => m | _ => (0 : Int)) = _
  rw [if_neg h0]
  show IntKind.u64.wrap ((a.toNat : Int) * 2 ^ min (n : Int).toNat 64) = _
  have h1 : ((a.toNat * 2 ^ n : Nat) : Int) = (a.toNat : Int) * 2 ^ n := by rw [Int.natCast_mul, Int.natCast_pow]; rfl
  rw [Int.toNat_natCast, Nat.min_eq_left hn, IntKind.wrap_u64, BitVec.toNat_shiftLeft, Nat.shiftLeft_eq, ← h1]
  generalize a.toNat * 2 ^ n = x
  show (x : Int) % 18446744073709551616 = ((x % 18446744073709551616 : Nat) : Int)
  omega
theorem oI_shr (a : Wd) (n : Nat) (hn : n ≤ 64) : oI .shr a.toNat (n : Nat) = ((a >>> n).toNat : Int) := by
  have h0 : ¬ ((n : Int) < 0) := by omega
  show (match (if (n : Int) < 0 then none else some (Value.int .u64 ((a.toNat : Int).fdiv (2 ^ min (n : Int).toNat 64)))) with | some (.int _ m) => m | _ => (0 : Int)) = _
  rw [if_neg h0]
  show (a.toNat : Int).fdiv (2 ^ min (n : Int).toNat 64) = _
  rw [Int.toNat_natCast, Nat.min_eq_left hn, BitVec.toNat_ushiftRight, Nat.shiftRight_eq_div_pow, Int.fdiv_eq_ediv_of_nonneg _ (Int.le_of_lt (Int.pow_pos (by decide)))]
  norm_cast
theorem ni_w (s : List Wd) (i : Nat) : ni (wI s) i = ((nw s i).toNat : Int) := by
  simp only [ni, nw, wI, List.getD_eq_getElem?_getD, List.getElem?_map]
  cases s[i]? <;> rfl
theorem iRl_w (n : Nat) (hn : n ≤ 64) (w : Wd) : iRl n w.toNat = ((rl n w).toNat : Int) := by
  rw [iRl, oI_shl _ _ hn, oI_shr _ _ (by omega), oI_or]; rfl
theorem iCols_w (s : List Wd) : iCols (wI s) = wI (kCols s) := by
  simp only [iCols, kCols, ni_w, oI_xor, List.map_map, Function.comp_def]
theorem iSums_w (s : List Wd) : iSums (wI s) = wI (kSums s) := by
  simp only [iSums, kSums, ni_w, iRl_w 1 (by decide), oI_xor, List.map_map, Function.comp_def]
theorem by_le : ∀ x, nn kBy x ≤ 64 := by
  intro x
  unfold nn
  rw [List.getD_eq_getElem?_getD]
  cases h : kBy[x]? with
  | none => simp
  | some v =>
    have := List.mem_of_getElem? h
    have hall : ∀ v ∈ kBy, v ≤ 64 := by decide
    exact hall v this
theorem iTurned_w (s d : List Wd) : iTurned (wI s) (wI d) = wI (kTurned s d) := by
  simp only [iTurned, kTurned, ni_w, oI_xor, List.map_map, Function.comp_def]
  apply List.map_congr_left
  intro x _
  exact iRl_w _ (by_le _) _
theorem iRows_w (s : List Wd) : iRows (wI s) = wI (kRows s) := by
  simp only [iRows, kRows, ni_w, oI_xor, oI_andNot, List.map_map, Function.comp_def]
theorem iRowsR_w (s : List Wd) : iRowsR (wI s) = wI (kRows s) := by
  simp only [iRowsR, kRows, ni_w, uI_not, oI_xor, oI_and, List.map_map, Function.comp_def]
  apply List.map_congr_left
  intro x _
  rw [BitVec.and_comm]
theorem iHead_w (c : Wd) : ∀ s : List Wd, iHead c.toNat (wI s) = wI (kHead c s)
  | [] => rfl
  | x :: l => by simp only [iHead, kHead, wI, List.map_cons, oI_xor]
theorem iRound_w (s : List Wd) (c : Wd) : iRound (wI s) c.toNat = wI (kRound s c) := by
  simp only [iRound, kRound, iCols_w, iSums_w, iTurned_w, iRows_w, iHead_w]
theorem iRoundR_w (s : List Wd) (c : Wd) : iRoundR (wI s) c.toNat = wI (kRound s c) := by
  simp only [iRoundR, kRound, iCols_w, iSums_w, iTurned_w, iRowsR_w, iHead_w]
end Go.Proofs.Ytipbmacpenmgoaa.AM

/- The digest, as the machine runs it: all rounds, bytes in, bytes out. -/
namespace Go.Proofs.Ytipbmacpenmgoaa.AM
open Go
set_option maxRecDepth 100000
set_option maxHeartbeats 4000000
set_option linter.unusedVariables false
set_option linter.unusedSimpArgs false
theorem k_wp {f : Nat} {F : AFn} {args : List AV} {h : Heap} {Q : AV × Heap → Prop} (hx : T.ext f = none) (hf : T.fn f = some F) (hp : F.pure = false) (hl : args.length = F.np) (hw : WP (BQ (fin F.res) Q) (ax T F.body (initE 0 args) h)) : WP Q (ag T f args h) := by
  rw [ag_gen hx hf hp args hl, WP_bind]
  exact hw
abbrev wv (l : List Wd) : List AV := vI (wI l)
theorem words25 {s : List Wd} (h : s.length = 25) : s = k25.map (nw s) := by
  apply List.ext_getElem?
  intro i
  by_cases hi : i < 25
  · have h1 : s[i]? = some (nw s i) := by
      rw [nw, List.getD_eq_getElem?_getD, List.getElem?_eq_getElem (by omega)]; rfl
    rw [h1, List.getElem?_map]
    have h2 : k25[i]? = some i := by
      have : ∀ i, i < 25 → k25[i]? = some i := by decide
      exact this i hi
    rw [h2]; rfl
  · rw [List.getElem?_eq_none (by omega), List.getElem?_eq_none (by simp [k25]; omega)]
theorem call_mix (s : List Wd) (hs : s.length = 25) (c : Wd) (r a : Int) : ∃ g, ag T 78 [.ptr 2 0, .ptr 2 25, .ptr 2 50, .int .u64 c.toNat] [Z32, Z32, .cells (spgC (wv s) r a)] = some (.tup [], [Z32, Z32, .cells (spgC (wv (kRound s c)) r a)] ++ g) := by
  have hk := mix_k c.toNat r a (nw s 0).toNat (nw s 1).toNat (nw s 2).toNat (nw s 3).toNat (nw s 4).toNat (nw s 5).toNat (nw s 6).toNat (nw s 7).toNat (nw s 8).toNat (nw s 9).toNat (nw s 10).toNat (nw s 11).toNat (nw s 12).toNat (nw s 13).toNat (nw s 14).toNat (nw s 15).toNat (nw s 16).toNat (nw s 17).toNat (nw s 18).toNat (nw s 19).toNat (nw s 20).toNat (nw s 21).toNat (nw s 22).toNat (nw s 23).toNat (nw s 24).toNat
  have hw : ([((nw s 0).toNat : Int), (nw s 1).toNat, (nw s 2).toNat, (nw s 3).toNat, (nw s 4).toNat, (nw s 5).toNat, (nw s 6).toNat, (nw s 7).toNat, (nw s 8).toNat, (nw s 9).toNat, (nw s 10).toNat, (nw s 11).toNat, (nw s 12).toNat, (nw s 13).toNat, (nw s 14).toNat, (nw s 15).toNat, (nw s 16).toNat, (nw s 17).toNat, (nw s 18).toNat, (nw s 19).toNat, (nw s 20).toNat, (nw s 21).toNat, (nw s 22).toNat, (nw s 23).toNat, (nw s 24).toNat] : List Int) = wI s := by
    conv => rhs; rw [words25 hs]
    rfl
  rw [hw, iRound_w, Option.map_eq_some_iff] at hk
  obtain ⟨⟨v, h'⟩, hg, he⟩ := hk
  simp only [Prod.mk.injEq] at he
  obtain ⟨rfl, he⟩ := he
  refine ⟨h'.drop 3, ?_⟩
  rw [← he, List.take_append_drop]
  exact ag_of_gcall hg
theorem spg_len (s : List AV) (r a : Int) : (spgC s r a).length = s.length + 76 := by simp [spgC, spgT, kBy, kTo, kCon]
theorem spg_drop {s : List AV} (hs : s.length = 25) (r a : Int) (n : Nat) : (spgC s r a).drop (25 + n) = (spgT ++ [AV.int .i64 r, AV.int .i64 a]).drop n := by
  rw [spgC, List.drop_append, List.drop_of_length_le (by omega), List.nil_append]; congr 1; omega
def conC : List AV := kCon.map fun n => .int .u64 (n : Nat)
theorem spg_con {s : List AV} (hs : s.length = 25) (r a : Int) : ldCells (some 24) ((spgC s r a).drop 75) = some (.agg conC) := by
  rw [spg_drop hs r a 50]; rfl
theorem spg_rate {s : List AV} (hs : s.length = 25) (r a : Int) : (spgC s r a)[99]? = some (.int .i64 r) := by
  have := spg_drop hs r a 74
  have h2 := congrArg (·[0]?) this
  simp only [List.getElem?_drop, Nat.add_zero] at h2
  exact h2.trans rfl
theorem spg_at {s : List AV} (hs : s.length = 25) (r a : Int) : (spgC s r a)[100]? = some (.int .i64 a) := by
  have := spg_drop hs r a 75
  have h2 := congrArg (·[0]?) this
  simp only [List.getElem?_drop, Nat.add_zero] at h2
  exact h2.trans rfl
theorem spg_setAt {s : List AV} (hs : s.length = 25) (r a b : Int) : (spgC s r a).set 100 (.int .i64 b) = spgC s r b := by
  rw [spgC, List.set_append_right _ _ (by omega), hs]; rfl
theorem spg_set {s : List AV} (hs : s.length = 25) (r a : Int) (i : Nat) (hi : i < 25) (x : AV) : (spgC s r a).set i x = spgC (s.set i x) r a := by
  rw [spgC, List.set_append_left _ _ (by omega)]; rfl
theorem wv_len (s : List Wd) : (wv s).length = s.length := by simp [vI, wI]
theorem wv_below (p : Nat → Bool) : ∀ s : List Wd, namL p (wv s) = true
  | [] => rfl
  | w :: s => wv_below p s
theorem namL_app (p : Nat → Bool) : ∀ (a b : List AV), namL p (a ++ b) = (namL p a && namL p b)
  | [], b => by simp [namL]
  | x :: a, b => by simp only [List.cons_append, namL, namL_app p a b, Bool.and_assoc]
theorem spg_below (p : Nat → Bool) (s : List Wd) (r a : Int) : namL p (spgC (wv s) r a) = true := by
  rw [spgC, namL_app, namL_app, wv_below]; rfl
def kFold (n : Nat) (s : List Wd) : List Wd := ((kCon.take n).map (BitVec.ofNat 64)).foldl kRound s
theorem kFold_length {s : List Wd} (hs : s.length = 25) (n : Nat) : (kFold n s).length = 25 := kFold_len _ s hs
theorem kFold_succ (s : List Wd) (i : Nat) (hi : i < 24) : kFold (i + 1) s = kRound (kFold i s) (BitVec.ofNat 64 (nn kCon i)) := by
  have h1 : kCon.take (i + 1) = kCon.take i ++ [nn kCon i] := by
    have : ∀ i, i < 24 → kCon.take (i + 1) = kCon.take i ++ [nn kCon i] := by decide
    exact this i hi
  rw [kFold, h1, List.map_append, List.foldl_append]; rfl
theorem con_get (i : Nat) (hi : i < 24) : conC[i]? = some (.int .u64 ((BitVec.ofNat 64 (nn kCon i)).toNat : Int)) := by
  have h1 : ∀ i, i < 24 → kCon[i]? = some (BitVec.ofNat 64 (nn kCon i)).toNat := by decide
  rw [conC, List.getElem?_map, h1 i hi]; rfl
theorem all_ok (s : List Wd) (hs : s.length = 25) (r a : Int) : ag T 64 [.ptr 2 0] [Z32, Z32, .cells (spgC (wv s) r a)] = some (.tup [], [Z32, Z32, .cells (spgC (wv (kPerm s)) r 0)]) := by
  refine WP_eq (k_wp rfl t64 rfl rfl ?_)
  have h75 := spg_con (by rw [wv_len, hs] : (wv s).length = 25) r a
  first | have hb := hb | have hb := trivial
  repeat' (first | (simp -implicitDefEqProofs (disch := omega) only [hb, F64, h75, wC, initE, aop, Nat.reduceEqDiff, ↓reduceIte, Nat.reduceAdd, finish, resOf, tupOf, AM.freeze, freeze1, freezeL, closed, nam, namL, if_true, if_false, deref, boxAt, exAt, oneL, oneCell, Nat.reduceLeDiff, evL, adopt, rigid, rigidL, trim, Int.reduceEq, Int.reduceMod, Int.reduceDiv, if_pos, if_neg, asI, forall_const, implies_true, chkD, chkO, chkW, effB, reB, vEq, beq_self_eq_true, Nat.reduceSub, Nat.reduceLT, Int.reduceSub, Int.reduceAdd, Int.reduceMul, Int.reduceLT, Int.reduceLE, Int.reduceToNat, optI, aslice, cutSl, cutMs, cutStr, cutOwn, cellsOf, one, elCells, lenOf, beqV, beqVL, strip, stripO, convS]) | ((first | rw [WP_condK] | rw [WP_opsG] | rw [WP_quiG] | rw [WP_dG]); refine And.intro (fun hb => ?_) (fun hb => ?_) <;> (first | have hd := dq1 hb | have hd := dq2 hb | have hd := dq3 hb | have hd := dq4 hb | skip)))
  refine WP_loop (I := fun n e h => ∃ i g, i ≤ 24 ∧ n = 24 - i ∧ getE e 0 = .ptr 2 0 ∧ getE e 7 = .agg conC ∧ getE e 8 = i64 i ∧ h = [Z32, Z32, .cells (spgC (wv (kFold i s)) r a)] ++ g) ?_ 24 _ _ ⟨0, [], by omega, rfl, rfl, rfl, rfl, rfl⟩
  rintro n e h ⟨i, g, hi, rfl, h0, h7, h8, rfl⟩
  have hl := kFold_length hs i
  rw [trim_take (by simp only [List.all_cons, List.all_nil, h0, h7, h8]; rfl) (by simp only [List.cons_append, List.nil_append, List.length_cons, List.length_nil, List.take_succ_cons, List.take_zero, List.all_cons, List.all_nil, belowO, belowL, spg_below, Bool.and_true]; rfl)]
  by_cases h24 : i < 24
  · obtain ⟨g2, hm⟩ := call_mix (kFold i s) hl (BitVec.ofNat 64 (nn kCon i)) r a
    have hc := con_get i h24
    first | have hb := hb | have hb := trivial
    repeat' (first | (simp -implicitDefEqProofs (disch := omega) only [hb, L64_0, h0, h7, h8, h24, hc, hm, wC, initE, aop, Nat.reduceEqDiff, ↓reduceIte, Nat.reduceAdd, finish, resOf, tupOf, AM.freeze, freeze1, freezeL, closed, nam, namL, if_true, if_false, deref, boxAt, exAt, ldCells, oneL, oneCell, Nat.reduceLeDiff, evL, adopt, rigid, rigidL, trim, Int.reduceEq, Int.reduceMod, Int.reduceDiv, if_pos, if_neg, asI, forall_const, implies_true, chkD, chkO, chkW, effB, reB, vEq, beq_self_eq_true, Nat.reduceSub, Nat.reduceLT, Int.reduceSub, Int.reduceAdd, Int.reduceMul, Int.reduceLT, Int.reduceLE, Int.reduceToNat, optI, aslice, cutSl, cutMs, cutStr, cutOwn, cellsOf, one, elCells, lenOf, beqV, beqVL, strip, stripO, convS]) | ((first | rw [WP_condK] | rw [WP_opsG] | rw [WP_quiG] | rw [WP_dG]); refine And.intro (fun hb => ?_) (fun hb => ?_) <;> (first | have hd := dq1 hb | have hd := dq2 hb | have hd := dq3 hb | have hd := dq4 hb | skip)))
    exact ⟨23 - i, by omega, i + 1, g2, by omega, by omega, rfl, by rw [kFold_succ _ _ h24]⟩
  · obtain rfl : i = 24 := by omega
    have hn : (spgC (wv (kFold 24 s)) r a).length = 101 := by rw [spg_len, wv_len, hl]
    have hst := spg_setAt (by rw [wv_len, hl] : (wv (kFold 24 s)).length = 25) r a 0
    first | have hb := hb | have hb := trivial
    repeat' (first | (simp -implicitDefEqProofs (disch := omega) only [hb, L64_0, h0, h7, h8, hn, hst, wC, initE, aop, Nat.reduceEqDiff, ↓reduceIte, Nat.reduceAdd, finish, resOf, tupOf, AM.freeze, freeze1, freezeL, closed, nam, namL, if_true, if_false, deref, boxAt, exAt, ldCells, oneL, oneCell, Nat.reduceLeDiff, evL, adopt, rigid, rigidL, trim, Int.reduceEq, Int.reduceMod, Int.reduceDiv, if_pos, if_neg, asI, forall_const, implies_true, chkD, chkO, chkW, effB, reB, vEq, beq_self_eq_true, Nat.reduceSub, Nat.reduceLT, Int.reduceSub, Int.reduceAdd, Int.reduceMul, Int.reduceLT, Int.reduceLE, Int.reduceToNat, optI, aslice, cutSl, cutMs, cutStr, cutOwn, cellsOf, one, elCells, lenOf, beqV, beqVL, strip, stripO, convS]) | ((first | rw [WP_condK] | rw [WP_opsG] | rw [WP_quiG] | rw [WP_dG]); refine And.intro (fun hb => ?_) (fun hb => ?_) <;> (first | have hd := dq1 hb | have hd := dq2 hb | have hd := dq3 hb | have hd := dq4 hb | skip)))
    rfl
/-- a byte into a place -/
theorem wv_set (s : List Wd) (i : Nat) (w : Wd) : (wv s).set i (.int .u64 w.toNat) = wv (s.set i w) := by
  simp only [wv, vI, wI, List.map_set]
theorem wv_get {s : List Wd} {i : Nat} (hi : i < s.length) : (wv s)[i]? = some (.int .u64 (nw s i).toNat) := by
  simp only [wv, vI, wI, List.getElem?_map, nw, List.getD_eq_getElem?_getD, List.getElem?_eq_getElem hi, Option.map_some, Option.getD_some]
theorem spg_get {s : List Wd} (hs : s.length = 25) (r a : Int) {i : Nat} (hi : i < 25) : (spgC (wv s) r a)[i]? = some (.int .u64 (nw s i).toNat) := by
  rw [spgC, List.getElem?_append_left (by rw [wv_len]; omega), wv_get (by omega)]
theorem bin_xorW (a b : Wd) : abin .xor (.int .u64 a.toNat) (.int .u64 b.toNat) = some (.int .u64 (a ^^^ b).toNat) := by
  have := oI_xor a b
  show some (Value.int .u64 (oI .xor a.toNat b.toNat)) = _
  rw [this]
theorem bin_shlW (k : IntKind) (x : Int) (n : Nat) (hn : n ≤ 64) (h0 : 0 ≤ x) (h1 : x ≤ 255) : abin .shl (.int .u64 x) (.int k (n : Nat)) = some (.int .u64 (BitVec.ofInt 64 x <<< n).toNat) := by
  have hx : x = ((BitVec.ofInt 64 x).toNat : Int) := by rw [BitVec.toNat_ofInt]; omega
  have hn0 : ¬ ((n : Int) < 0) := by omega
  have := oI_shl (BitVec.ofInt 64 x) n hn
  rw [← hx] at this
  have e : abin .shl (.int .u64 x) (.int k (n : Nat)) = some (.int .u64 (oI .shl x n)) := by
    simp only [oI, abin, ashift, if_neg hn0]
  rw [e, this]
theorem bin_shrW (k : IntKind) (w : Wd) (n : Nat) (hn : n ≤ 64) : abin .shr (.int .u64 w.toNat) (.int k (n : Nat)) = some (.int .u64 (w >>> n).toNat) := by
  have hn0 : ¬ ((n : Int) < 0) := by omega
  have e : abin .shr (.int .u64 w.toNat) (.int k (n : Nat)) = some (.int .u64 (oI .shr w.toNat n)) := by
    simp only [oI, abin, ashift, if_neg hn0]
  rw [e, oI_shr _ _ hn]
theorem add_ok (s : List Wd) (hs : s.length = 25) (r a : Int) (i : Nat) (hi : i < 200) (b : Int) (h0 : 0 ≤ b) (h1 : b ≤ 255) : ag T 63 [.ptr 2 0, i64 i, u8 b] [Z32, Z32, .cells (spgC (wv s) r a)] = some (.tup [], [Z32, Z32, .cells (spgC (wv (kAdd s i b)) r a)]) := by
  refine WP_eq (k_wp rfl t63 rfl rfl ?_)
  have hq : ((i : Int).tdiv 8) = ((i / 8 : Nat) : Int) := by rw [Int.tdiv_eq_ediv_of_nonneg (by omega)]; omega
  have hm : ((i : Int).tmod 8) = ((i % 8 : Nat) : Int) := by rw [Int.tmod_eq_emod_of_nonneg (by omega)]; omega
  have h8 : (8 : Int) * ((i % 8 : Nat) : Int) = ((8 * (i % 8) : Nat) : Int) := by omega
  have hg := spg_get hs r a (i := i / 8) (by omega)
  have hsh := bin_shlW .i64 b (8 * (i % 8)) (by omega) h0 h1
  have hx := bin_xorW (nw s (i / 8)) (BitVec.ofInt 64 b <<< (8 * (i % 8)))
  have hw : IntKind.u64.wrap b = b := by rw [IntKind.wrap_u64]; omega
  have hset := spg_set (by rw [wv_len, hs] : (wv s).length = 25) r a (i / 8) (by omega) (.int .u64 ((nw s (i / 8)) ^^^ (BitVec.ofInt 64 b <<< (8 * (i % 8)))).toNat)
  rw [wv_set] at hset
  have hn : (spgC (wv s) r a).length = 101 := by rw [spg_len, wv_len, hs]
  first | have hb := hb | have hb := trivial
  repeat' (first | (simp -implicitDefEqProofs (disch := omega) only [hb, F63, hq, hm, h8, hg, hsh, hx, hw, hset, hn, wC, initE, aop, Nat.reduceEqDiff, ↓reduceIte, Nat.reduceAdd, finish, resOf, tupOf, AM.freeze, freeze1, freezeL, closed, nam, namL, if_true, if_false, deref, boxAt, exAt, ldCells, oneL, oneCell, Nat.reduceLeDiff, evL, adopt, rigid, rigidL, trim, Int.reduceEq, Int.reduceMod, Int.reduceDiv, if_pos, if_neg, asI, forall_const, implies_true, chkD, chkO, chkW, effB, reB, vEq, beq_self_eq_true, Nat.reduceSub, Nat.reduceLT, Int.reduceSub, Int.reduceAdd, Int.reduceMul, Int.reduceLT, Int.reduceLE, Int.reduceToNat, optI, aslice, cutSl, cutMs, cutStr, cutOwn, cellsOf, one, elCells, lenOf, beqV, beqVL, strip, stripO, convS]) | ((first | rw [WP_condK] | rw [WP_opsG] | rw [WP_quiG] | rw [WP_dG]); refine And.intro (fun hb => ?_) (fun hb => ?_) <;> (first | have hd := dq1 hb | have hd := dq2 hb | have hd := dq3 hb | have hd := dq4 hb | skip)))
  rfl
end Go.Proofs.Ytipbmacpenmgoaa.AM

/- The digest, as the machine runs it: what is taken in. -/
namespace Go.Proofs.Ytipbmacpenmgoaa.AM
open Go
set_option maxRecDepth 100000
set_option maxHeartbeats 4000000
set_option linter.unusedVariables false
set_option linter.unusedSimpArgs false
structure KS (p : List Wd × Nat) : Prop where
  len : p.1.length = 25
  lt : p.2 < 136
theorem KS.step {p : List Wd × Nat} (h : KS p) (b : Int) : KS (kStep 136 p b) := by
  unfold kStep
  split
  · exact ⟨kPerm_len (kAdd_len h.len _ _), by show (0 : Nat) < 136; omega⟩
  · have := h.lt
    exact ⟨kAdd_len h.len _ _, by show p.2 + 1 < 136; omega⟩
theorem KS.fold : ∀ (l : List Int) {p : List Wd × Nat}, KS p → KS (l.foldl (kStep 136) p)
  | [], p, h => h
  | b :: l, p, h => KS.fold l (h.step b)
theorem fold_snoc (l : List Int) (p : List Wd × Nat) {j : Nat} (hj : j < l.length) : (l.take (j + 1)).foldl (kStep 136) p = kStep 136 ((l.take j).foldl (kStep 136) p) l[j] := by
  rw [List.take_succ_eq_append_getElem hj, List.foldl_append]; rfl
def spH (p : List Wd × Nat) : Heap := [Z32, Z32, .cells (spgC (wv p.1) 136 p.2)]
theorem spH_below (p : List Wd × Nat) : ((spH p).take 3).all (belowO 3) = true := by
  simp only [spH, List.take_succ_cons, List.take_zero, List.all_cons, List.all_nil, belowO, belowL, spg_below, Bool.and_true]; rfl
theorem below_of (m : Nat) {x : AV} (h : closed x = true) : below m x = true := closed_below' m x h
theorem take_in (l : List Int) (hl : Bytes l) (hn : l.length ≤ 140737488351232) (p0 : List Wd × Nat) (hp : KS p0) (o : AOwn) (pv : AV) (en k i : Int) (keep : List Nat) (hkeep : keep = [0, 2, 10, 11, 12, 16, 17, 18]) (hcl : closed pv = true) (hcx : closed (.slice o none (l.map u8)) = true)
    (Q : Res → Prop) (e : Env) (h : Heap) (h0 : getE e 0 = .ptr 2 0) (h2 : getE e 2 = u8 en) (h10 : getE e 10 = pv) (h11 : getE e 11 = i64 k) (h12 : getE e 12 = i64 i) (h16 : getE e 16 = .slice o none (l.map u8)) (h17 : getE e 17 = i64 l.length) (h18 : getE e 18 = i64 0) (hh : h = spH p0)
    (hq : ∀ e', getE e' 0 = .ptr 2 0 → getE e' 2 = u8 en → getE e' 10 = pv → getE e' 11 = i64 k → getE e' 12 = i64 i → Q (.exit 2, e', spH (l.foldl (kStep 136) p0))) :
    WP Q (axl T keep true L40_0 3 e h) := by
  subst hkeep
  refine WP_loop (I := fun n e h => ∃ j, j ≤ l.length ∧ n = l.length - j ∧ getE e 0 = .ptr 2 0 ∧ getE e 2 = u8 en ∧ getE e 10 = pv ∧ getE e 11 = i64 k ∧ getE e 12 = i64 i ∧ getE e 16 = .slice o none (l.map u8) ∧ getE e 17 = i64 l.length ∧ getE e 18 = i64 j ∧ h = spH ((l.take j).foldl (kStep 136) p0)) ?_ l.length _ _ ⟨0, by omega, rfl, h0, h2, h10, h11, h12, h16, h17, h18, hh⟩
  rintro n e h ⟨j, hj, rfl, h0, h2, h10, h11, h12, h16, h17, h18, rfl⟩
  have b10 := below_of 3 hcl
  have b16 := below_of 3 hcx
  rw [trim_take (by simp only [List.all_cons, List.all_nil, h0, h2, h10, h11, h12, h16, h17, h18, b10, b16]; rfl) (spH_below _)]
  have hks := KS.fold (l.take j) hp
  by_cases hjl : j < l.length
  · have hfs := fold_snoc l p0 hjl
    generalize (l.take j).foldl (kStep 136) p0 = p at hks hfs ⊢
    obtain ⟨s, a⟩ := p
    have hs : s.length = 25 := hks.len
    have ha : a < 136 := hks.lt
    have hb := hl _ (List.getElem_mem hjl)
    have hgu := get_u8 hjl
    have hadd := add_ok s hs 136 a a (by omega) l[j] hb.1 hb.2
    have hs1 : (wv (kAdd s a l[j])).length = 25 := by rw [wv_len, kAdd_len hs]
    have f1 := spg_at (by rw [wv_len, hs] : (wv s).length = 25) 136 a
    have f2 := spg_at hs1 136 a
    have f3 := spg_setAt hs1 136 a ((a + 1 : Nat) : Int)
    have f4 := spg_at hs1 136 ((a + 1 : Nat) : Int)
    have f5 := spg_rate hs1 136 ((a + 1 : Nat) : Int)
    have f6 : (spgC (wv (kAdd s a l[j])) 136 a).length = 101 := by rw [spg_len, hs1]
    have hall := all_ok (kAdd s a l[j]) (kAdd_len hs _ _) 136 ((a + 1 : Nat) : Int)
    by_cases hr : a + 1 = 136
    · have hri : ((a + 1 : Nat) : Int) = 136 := by omega
      rw [hri] at f3 f4 f5 hall
      first | have hb := hb | have hb := trivial
      repeat' (first | (simp -implicitDefEqProofs (disch := omega) only [hb, L40_0, spH, h0, h2, h10, h11, h12, h16, h17, h18, hgu, hadd, f1, f2, f3, f4, f5, f6, hall, hri, wC, initE, aop, Nat.reduceEqDiff, ↓reduceIte, Nat.reduceAdd, finish, resOf, tupOf, AM.freeze, freeze1, freezeL, closed, nam, namL, if_true, if_false, deref, boxAt, exAt, ldCells, oneL, oneCell, Nat.reduceLeDiff, evL, adopt, rigid, rigidL, trim, Int.reduceEq, Int.reduceMod, Int.reduceDiv, if_pos, if_neg, asI, forall_const, implies_true, chkD, chkO, chkW, effB, reB, vEq, beq_self_eq_true, Nat.reduceSub, Nat.reduceLT, Int.reduceSub, Int.reduceAdd, Int.reduceMul, Int.reduceLT, Int.reduceLE, Int.reduceToNat, optI, aslice, cutSl, cutMs, cutStr, cutOwn, cellsOf, one, elCells, lenOf, beqV, beqVL, strip, stripO, convS]) | ((first | rw [WP_condK] | rw [WP_opsG] | rw [WP_quiG] | rw [WP_dG]); refine And.intro (fun hb => ?_) (fun hb => ?_) <;> (first | have hd := dq1 hb | have hd := dq2 hb | have hd := dq3 hb | have hd := dq4 hb | skip)))
      refine ⟨l.length - (j + 1), by omega, j + 1, by omega, rfl, rfl, ?_⟩
      rw [hfs]
      simp only [kStep, if_pos hr]
      rfl
    · have hri : ¬ ((a + 1 : Nat) : Int) = 136 := by omega
      first | have hb := hb | have hb := trivial
      repeat' (first | (simp -implicitDefEqProofs (disch := omega) only [hb, L40_0, spH, h0, h2, h10, h11, h12, h16, h17, h18, hgu, hadd, f1, f2, f3, f4, f5, f6, hall, hri, wC, initE, aop, Nat.reduceEqDiff, ↓reduceIte, Nat.reduceAdd, finish, resOf, tupOf, AM.freeze, freeze1, freezeL, closed, nam, namL, if_true, if_false, deref, boxAt, exAt, ldCells, oneL, oneCell, Nat.reduceLeDiff, evL, adopt, rigid, rigidL, trim, Int.reduceEq, Int.reduceMod, Int.reduceDiv, if_pos, if_neg, asI, forall_const, implies_true, chkD, chkO, chkW, effB, reB, vEq, beq_self_eq_true, Nat.reduceSub, Nat.reduceLT, Int.reduceSub, Int.reduceAdd, Int.reduceMul, Int.reduceLT, Int.reduceLE, Int.reduceToNat, optI, aslice, cutSl, cutMs, cutStr, cutOwn, cellsOf, one, elCells, lenOf, beqV, beqVL, strip, stripO, convS]) | ((first | rw [WP_condK] | rw [WP_opsG] | rw [WP_quiG] | rw [WP_dG]); refine And.intro (fun hb => ?_) (fun hb => ?_) <;> (first | have hd := dq1 hb | have hd := dq2 hb | have hd := dq3 hb | have hd := dq4 hb | skip)))
      refine ⟨l.length - (j + 1), by omega, j + 1, by omega, rfl, rfl, ?_⟩
      rw [hfs]
      simp only [kStep, if_neg hr]
  · obtain rfl : j = l.length := by omega
    first | have hb := hb | have hb := trivial
    repeat' (first | (simp -implicitDefEqProofs (disch := omega) only [hb, L40_0, h0, h2, h10, h11, h12, h16, h17, h18, wC, initE, aop, Nat.reduceEqDiff, ↓reduceIte, Nat.reduceAdd, finish, resOf, tupOf, AM.freeze, freeze1, freezeL, closed, nam, namL, if_true, if_false, deref, boxAt, exAt, ldCells, oneL, oneCell, Nat.reduceLeDiff, evL, adopt, rigid, rigidL, trim, Int.reduceEq, Int.reduceMod, Int.reduceDiv, if_pos, if_neg, asI, forall_const, implies_true, chkD, chkO, chkW, effB, reB, vEq, beq_self_eq_true, Nat.reduceSub, Nat.reduceLT, Int.reduceSub, Int.reduceAdd, Int.reduceMul, Int.reduceLT, Int.reduceLE, Int.reduceToNat, optI, aslice, cutSl, cutMs, cutStr, cutOwn, cellsOf, one, elCells, lenOf, beqV, beqVL, strip, stripO, convS]) | ((first | rw [WP_condK] | rw [WP_opsG] | rw [WP_quiG] | rw [WP_dG]); refine And.intro (fun hb => ?_) (fun hb => ?_) <;> (first | have hd := dq1 hb | have hd := dq2 hb | have hd := dq3 hb | have hd := dq4 hb | skip)))
    rw [List.take_length, show List.take 3 (spH (l.foldl (kStep 136) p0)) = spH (l.foldl (kStep 136) p0) from rfl]
    exact hq _ rfl rfl rfl rfl rfl
end Go.Proofs.Ytipbmacpenmgoaa.AM

/- The digest, as the machine runs it: all parts, bytes out, the whole. -/
namespace Go.Proofs.Ytipbmacpenmgoaa.AM
open Go
set_option maxRecDepth 100000
set_option maxHeartbeats 4000000
set_option linter.unusedVariables false
set_option linter.unusedSimpArgs false
theorem k_roll {keep : List Nat} {gc : Bool} {b : AC} {m : Nat} {e : Env} {h : Heap} {Q : Res → Prop} (hw : WP (fun p => WP (LQ (fun _ e h => WP Q (axl T keep gc b m e h)) Q 1) (ax T b p.1 p.2)) (trim keep gc m e h)) : WP Q (axl T keep gc b m e h) := by
  rw [axl_eq, WP_bind]
  refine WP_mono hw fun p hp => ?_
  rw [BQ_eq, WP_bind]
  refine WP_mono hp fun r hr => ?_
  obtain ⟨x, e', h'⟩ := r
  cases x with
  | normal => rw [BQ_eq, nextR_normal]; rw [LQ_normal] at hr; obtain ⟨_, _, hr⟩ := hr; exact hr
  | exit i => exact hr
  | ret => exact hr
/-- one part: bytes, or nothing at all -/
structure PartR (x : AV) (l : List Int) : Prop where
  bytes : Bytes l
  len : l.length ≤ 140737488351232
  cl : closed x = true
  is : (∃ o, x = .slice o none (l.map u8)) ∨ (x = .nil ∧ l = [])
theorem PartR.lenOf {x : AV} {l : List Int} (h : PartR x l) : lenOf x = some l.length := by
  rcases h.is with ⟨o, rfl⟩ | ⟨rfl, rfl⟩
  · simp [AM.lenOf]
  · rfl
theorem spH_len (p : List Wd × Nat) : (spH p).length = 3 := rfl
theorem spH_take (p : List Wd × Nat) : (spH p).take 3 = spH p := rfl
theorem take_part (x : AV) (l : List Int) (hx : PartR x l) (p0 : List Wd × Nat) (hp : KS p0) (pv : AV) (en k i : Int) (keep : List Nat) (hkeep : keep = [0, 2, 10, 11, 12, 16, 17, 18]) (hcl : closed pv = true)
    (Q : Res → Prop) (e : Env) (h : Heap) (h0 : getE e 0 = .ptr 2 0) (h2 : getE e 2 = u8 en) (h10 : getE e 10 = pv) (h11 : getE e 11 = i64 k) (h12 : getE e 12 = i64 i) (h16 : getE e 16 = x) (h17 : getE e 17 = i64 l.length) (h18 : getE e 18 = i64 0) (hh : h = spH p0)
    (hq : ∀ e', getE e' 0 = .ptr 2 0 → getE e' 2 = u8 en → getE e' 10 = pv → getE e' 11 = i64 k → getE e' 12 = i64 i → Q (.exit 2, e', spH (l.foldl (kStep 136) p0))) :
    WP Q (axl T keep true L40_0 3 e h) := by
  rcases hx.is with ⟨o, rfl⟩ | ⟨rfl, rfl⟩
  · exact take_in l hx.bytes hx.len p0 hp o pv en k i keep hkeep hcl hx.cl Q e h h0 h2 h10 h11 h12 h16 h17 h18 hh hq
  · subst hkeep
    subst hh
    refine k_roll ?_
    have b10 := below_of 3 hcl
    rw [trim_take (by simp only [List.all_cons, List.all_nil, h0, h2, h10, h11, h12, h16, h17, h18, b10]; rfl) (spH_below _)]
    first | have hb := hb | have hb := trivial
    repeat' (first | (simp -implicitDefEqProofs (disch := omega) only [hb, L40_0, h0, h2, h10, h11, h12, h16, h17, h18, spH_take, wC, initE, aop, Nat.reduceEqDiff, ↓reduceIte, Nat.reduceAdd, finish, resOf, tupOf, AM.freeze, freeze1, freezeL, closed, nam, namL, if_true, if_false, deref, boxAt, exAt, ldCells, oneL, oneCell, Nat.reduceLeDiff, evL, adopt, rigid, rigidL, trim, Int.reduceEq, Int.reduceMod, Int.reduceDiv, if_pos, if_neg, asI, forall_const, implies_true, chkD, chkO, chkW, effB, reB, vEq, beq_self_eq_true, Nat.reduceSub, Nat.reduceLT, Int.reduceSub, Int.reduceAdd, Int.reduceMul, Int.reduceLT, Int.reduceLE, Int.reduceToNat, optI, aslice, cutSl, cutMs, cutStr, cutOwn, cellsOf, one, elCells, lenOf, beqV, beqVL, strip, stripO, convS]) | ((first | rw [WP_condK] | rw [WP_opsG] | rw [WP_quiG] | rw [WP_dG]); refine And.intro (fun hb => ?_) (fun hb => ?_) <;> (first | have hd := dq1 hb | have hd := dq2 hb | have hd := dq3 hb | have hd := dq4 hb | skip)))
    exact hq _ rfl rfl rfl rfl rfl
/-- all parts -/
structure PartsR (xs : List AV) (ls : List (List Int)) : Prop where
  len : ls.length = xs.length
  at_ : ∀ (i : Nat) (hi : i < xs.length) (hj : i < ls.length), PartR xs[i] ls[i]
theorem flat_snoc (ls : List (List Int)) (p : List Wd × Nat) {j : Nat} (hj : j < ls.length) : (ls.take (j + 1)).flatten.foldl (kStep 136) p = ls[j].foldl (kStep 136) ((ls.take j).flatten.foldl (kStep 136) p) := by
  rw [List.take_succ_eq_append_getElem hj, List.flatten_append, List.foldl_append]; simp
theorem take_all (xs : List AV) (ls : List (List Int)) (hx : PartsR xs ls) (p0 : List Wd × Nat) (hp : KS p0) (po : AOwn) (en : Int) (keep : List Nat) (hkeep : keep = [0, 2, 10, 11, 12]) (hcl : closed (.slice po none xs) = true) (hn : xs.length ≤ 140737488351232)
    (Q : Res → Prop) (e : Env) (h : Heap) (h0 : getE e 0 = .ptr 2 0) (h2 : getE e 2 = u8 en) (h10 : getE e 10 = .slice po none xs) (h11 : getE e 11 = i64 xs.length) (h12 : getE e 12 = i64 0) (hh : h = spH p0)
    (hq : ∀ e', getE e' 0 = .ptr 2 0 → getE e' 2 = u8 en → Q (.exit 0, e', spH (ls.flatten.foldl (kStep 136) p0))) :
    WP Q (axl T keep true L40_1 3 e h) := by
  subst hkeep
  refine WP_loop (I := fun n e h => ∃ j, j ≤ xs.length ∧ n = xs.length - j ∧ getE e 0 = .ptr 2 0 ∧ getE e 2 = u8 en ∧ getE e 10 = .slice po none xs ∧ getE e 11 = i64 xs.length ∧ getE e 12 = i64 j ∧ h = spH ((ls.take j).flatten.foldl (kStep 136) p0)) ?_ xs.length _ _ ⟨0, by omega, rfl, h0, h2, h10, h11, h12, hh⟩
  rintro n e h ⟨j, hj, rfl, h0, h2, h10, h11, h12, rfl⟩
  have b10 := below_of 3 hcl
  rw [trim_take (by simp only [List.all_cons, List.all_nil, h0, h2, h10, h11, h12, b10]; rfl) (spH_below _)]
  have hks := KS.fold (ls.take j).flatten hp
  by_cases hjl : j < xs.length
  · have hjl' : j < ls.length := by rw [hx.len]; exact hjl
    have hfs := flat_snoc ls p0 hjl'
    have hpart := hx.at_ j hjl hjl'
    have hln := hpart.lenOf
    have hg := get_lt hjl
    have hec : elCells xs[j] = [xs[j]] := by rcases hpart.is with ⟨o, ho⟩ | ⟨ho, _⟩ <;> rw [ho] <;> rfl
    have hll := hpart.len
    generalize (ls.take j).flatten.foldl (kStep 136) p0 = p at hks hfs ⊢
    first | have hb := hb | have hb := trivial
    repeat' (first | (simp -implicitDefEqProofs (disch := omega) only [hb, L40_1, spH_take, spH_len, h0, h2, h10, h11, h12, hg, hec, hln, wC, initE, aop, Nat.reduceEqDiff, ↓reduceIte, Nat.reduceAdd, finish, resOf, tupOf, AM.freeze, freeze1, freezeL, closed, nam, namL, if_true, if_false, deref, boxAt, exAt, ldCells, oneL, oneCell, Nat.reduceLeDiff, evL, adopt, rigid, rigidL, trim, Int.reduceEq, Int.reduceMod, Int.reduceDiv, if_pos, if_neg, asI, forall_const, implies_true, chkD, chkO, chkW, effB, reB, vEq, beq_self_eq_true, Nat.reduceSub, Nat.reduceLT, Int.reduceSub, Int.reduceAdd, Int.reduceMul, Int.reduceLT, Int.reduceLE, Int.reduceToNat, optI, aslice, cutSl, cutMs, cutStr, cutOwn, cellsOf, one, beqV, beqVL, strip, stripO, convS]) | ((first | rw [WP_condK] | rw [WP_opsG] | rw [WP_quiG] | rw [WP_dG]); refine And.intro (fun hb => ?_) (fun hb => ?_) <;> (first | have hd := dq1 hb | have hd := dq2 hb | have hd := dq3 hb | have hd := dq4 hb | skip)))
    refine take_part xs[j] ls[j] hpart p hks (.slice po none xs) en xs.length j _ rfl hcl _ _ _ rfl rfl rfl rfl rfl rfl rfl rfl rfl ?_
    intro e' g0 g2 g10 g11 g12
    first | have hb := hb | have hb := trivial
    repeat' (first | (simp -implicitDefEqProofs (disch := omega) only [hb, g0, g2, g10, g11, g12, wC, initE, aop, Nat.reduceEqDiff, ↓reduceIte, Nat.reduceAdd, finish, resOf, tupOf, AM.freeze, freeze1, freezeL, closed, nam, namL, if_true, if_false, deref, boxAt, exAt, ldCells, oneL, oneCell, Nat.reduceLeDiff, evL, adopt, rigid, rigidL, trim, Int.reduceEq, Int.reduceMod, Int.reduceDiv, if_pos, if_neg, asI, forall_const, implies_true, chkD, chkO, chkW, effB, reB, vEq, beq_self_eq_true, Nat.reduceSub, Nat.reduceLT, Int.reduceSub, Int.reduceAdd, Int.reduceMul, Int.reduceLT, Int.reduceLE, Int.reduceToNat, optI, aslice, cutSl, cutMs, cutStr, cutOwn, cellsOf, one, elCells, lenOf, beqV, beqVL, strip, stripO, convS]) | ((first | rw [WP_condK] | rw [WP_opsG] | rw [WP_quiG] | rw [WP_dG]); refine And.intro (fun hb => ?_) (fun hb => ?_) <;> (first | have hd := dq1 hb | have hd := dq2 hb | have hd := dq3 hb | have hd := dq4 hb | skip)))
    exact ⟨xs.length - (j + 1), by omega, j + 1, by omega, rfl, rfl, by rw [hfs]⟩
  · obtain rfl : j = xs.length := by omega
    first | have hb := hb | have hb := trivial
    repeat' (first | (simp -implicitDefEqProofs (disch := omega) only [hb, L40_1, spH_take, h0, h2, h10, h11, h12, wC, initE, aop, Nat.reduceEqDiff, ↓reduceIte, Nat.reduceAdd, finish, resOf, tupOf, AM.freeze, freeze1, freezeL, closed, nam, namL, if_true, if_false, deref, boxAt, exAt, ldCells, oneL, oneCell, Nat.reduceLeDiff, evL, adopt, rigid, rigidL, trim, Int.reduceEq, Int.reduceMod, Int.reduceDiv, if_pos, if_neg, asI, forall_const, implies_true, chkD, chkO, chkW, effB, reB, vEq, beq_self_eq_true, Nat.reduceSub, Nat.reduceLT, Int.reduceSub, Int.reduceAdd, Int.reduceMul, Int.reduceLT, Int.reduceLE, Int.reduceToNat, optI, aslice, cutSl, cutMs, cutStr, cutOwn, cellsOf, one, elCells, lenOf, beqV, beqVL, strip, stripO, convS]) | ((first | rw [WP_condK] | rw [WP_opsG] | rw [WP_quiG] | rw [WP_dG]); refine And.intro (fun hb => ?_) (fun hb => ?_) <;> (first | have hd := dq1 hb | have hd := dq2 hb | have hd := dq3 hb | have hd := dq4 hb | skip)))
    rw [show List.take xs.length ls = ls by rw [← hx.len]; exact List.take_length]
    exact hq _ rfl rfl
theorem take_ok (xs : List AV) (ls : List (List Int)) (hx : PartsR xs ls) (p0 : List Wd × Nat) (hp : KS p0) (po : AOwn) (hcl : closed (.slice po none xs) = true) (hn : xs.length ≤ 140737488351232) : ag T 40 [.ptr 2 0, .slice po none xs, u8 6] (spH p0) = some (.tup [], spH (kEnd (ls.flatten.foldl (kStep 136) p0), 0)) := by
  refine WP_eq (k_wp rfl t40 rfl rfl ?_)
  first | have hb := hb | have hb := trivial
  repeat' (first | (simp -implicitDefEqProofs (disch := omega) only [hb, F40, spH_len, wC, initE, aop, Nat.reduceEqDiff, ↓reduceIte, Nat.reduceAdd, finish, resOf, tupOf, AM.freeze, freeze1, freezeL, closed, nam, namL, if_true, if_false, deref, boxAt, exAt, ldCells, oneL, oneCell, Nat.reduceLeDiff, evL, adopt, rigid, rigidL, trim, Int.reduceEq, Int.reduceMod, Int.reduceDiv, if_pos, if_neg, asI, forall_const, implies_true, chkD, chkO, chkW, effB, reB, vEq, beq_self_eq_true, Nat.reduceSub, Nat.reduceLT, Int.reduceSub, Int.reduceAdd, Int.reduceMul, Int.reduceLT, Int.reduceLE, Int.reduceToNat, optI, aslice, cutSl, cutMs, cutStr, cutOwn, cellsOf, one, elCells, lenOf, beqV, beqVL, strip, stripO, convS]) | ((first | rw [WP_condK] | rw [WP_opsG] | rw [WP_quiG] | rw [WP_dG]); refine And.intro (fun hb => ?_) (fun hb => ?_) <;> (first | have hd := dq1 hb | have hd := dq2 hb | have hd := dq3 hb | have hd := dq4 hb | skip)))
  refine take_all xs ls hx p0 hp po 6 _ rfl hcl hn _ _ _ rfl rfl rfl rfl rfl rfl ?_
  intro e' g0 g2
  have hks := KS.fold ls.flatten hp
  generalize ls.flatten.foldl (kStep 136) p0 = p at hks ⊢
  obtain ⟨s, a⟩ := p
  have hs : s.length = 25 := hks.len
  have ha : a < 136 := hks.lt
  have hs1 : (wv (kAdd s a 6)).length = 25 := by rw [wv_len, kAdd_len hs]
  have f1 := spg_at (by rw [wv_len, hs] : (wv s).length = 25) 136 a
  have f2 := spg_rate hs1 136 a
  have h1 := add_ok s hs 136 a a (by omega) 6 (by decide) (by decide)
  have h2 := add_ok (kAdd s a 6) (kAdd_len hs _ _) 136 a 135 (by omega) 128 (by decide) (by decide)
  have hall := all_ok (kAdd (kAdd s a 6) 135 128) (kAdd_len (kAdd_len hs _ _) _ _) 136 a
  rw [show ((135 : Nat) : Int) = 135 from rfl] at h2
  first | have hb := hb | have hb := trivial
  repeat' (first | (simp -implicitDefEqProofs (disch := omega) only [hb, g0, g2, spH, f1, f2, h1, h2, hall, wC, initE, aop, Nat.reduceEqDiff, ↓reduceIte, Nat.reduceAdd, finish, resOf, tupOf, AM.freeze, freeze1, freezeL, closed, nam, namL, if_true, if_false, deref, boxAt, exAt, ldCells, oneL, oneCell, Nat.reduceLeDiff, evL, adopt, rigid, rigidL, trim, Int.reduceEq, Int.reduceMod, Int.reduceDiv, if_pos, if_neg, asI, forall_const, implies_true, chkD, chkO, chkW, effB, reB, vEq, beq_self_eq_true, Nat.reduceSub, Nat.reduceLT, Int.reduceSub, Int.reduceAdd, Int.reduceMul, Int.reduceLT, Int.reduceLE, Int.reduceToNat, optI, aslice, cutSl, cutMs, cutStr, cutOwn, cellsOf, one, elCells, lenOf, beqV, beqVL, strip, stripO, convS]) | ((first | rw [WP_condK] | rw [WP_opsG] | rw [WP_quiG] | rw [WP_dG]); refine And.intro (fun hb => ?_) (fun hb => ?_) <;> (first | have hd := dq1 hb | have hd := dq2 hb | have hd := dq3 hb | have hd := dq4 hb | skip)))
  rfl
end Go.Proofs.Ytipbmacpenmgoaa.AM

/- The digest: keccak.Sum is it. -/
namespace Go.Proofs.Ytipbmacpenmgoaa.AM
open Go
set_option maxRecDepth 100000
set_option maxHeartbeats 4000000
set_option linter.unusedVariables false
set_option linter.unusedSimpArgs false
def kZero : List Wd := List.replicate 25 0#64
theorem start_k : gcall T 200 39 [i64 136] [Z32, Z32] = some (.ptr 2 0, spH (kZero, 0)) := by kernel_rfl
theorem start_ok : ag T 39 [i64 136] [Z32, Z32] = some (.ptr 2 0, spH (kZero, 0)) := ag_of_gcall start_k
def outI (s : List Int) : List AV := k32.map fun i => .int .u8 (IntKind.u8.wrap (oI .shr (ni s (i / 8)) (8 * (i % 8) : Nat)))
theorem let_k (s0 s1 s2 s3 s4 s5 s6 s7 s8 s9 s10 s11 s12 s13 s14 s15 s16 s17 s18 s19 s20 s21 s22 s23 s24 : Int) :
    gcall T 60 41 [.ptr 2 0, .ms 1 0 none 32] [Z32, Z32, .cells (spgC (vI [s0, s1, s2, s3, s4, s5, s6, s7, s8, s9, s10, s11, s12, s13, s14, s15, s16, s17, s18, s19, s20, s21, s22, s23, s24]) 136 0)] =
      some (.tup [], [Z32, .cells (outI [s0, s1, s2, s3, s4, s5, s6, s7, s8, s9, s10, s11, s12, s13, s14, s15, s16, s17, s18, s19, s20, s21, s22, s23, s24]), .cells (spgC (vI [s0, s1, s2, s3, s4, s5, s6, s7, s8, s9, s10, s11, s12, s13, s14, s15, s16, s17, s18, s19, s20, s21, s22, s23, s24]) 136 32)]) := by kernel_rfl
theorem words_wI {s : List Wd} (hs : s.length = 25) : ([((nw s 0).toNat : Int), (nw s 1).toNat, (nw s 2).toNat, (nw s 3).toNat, (nw s 4).toNat, (nw s 5).toNat, (nw s 6).toNat, (nw s 7).toNat, (nw s 8).toNat, (nw s 9).toNat, (nw s 10).toNat, (nw s 11).toNat, (nw s 12).toNat, (nw s 13).toNat, (nw s 14).toNat, (nw s 15).toNat, (nw s 16).toNat, (nw s 17).toNat, (nw s 18).toNat, (nw s 19).toNat, (nw s 20).toNat, (nw s 21).toNat, (nw s 22).toNat, (nw s 23).toNat, (nw s 24).toNat] : List Int) = wI s := by
  conv => rhs; rw [words25 hs]
  rfl
theorem outI_w (s : List Wd) : outI (wI s) = (k32.map (kByte s)).map u8 := by
  rw [outI, List.map_map]
  apply List.map_congr_left
  intro i _
  simp only [Function.comp, ni_w, kByte]
  rw [oI_shr _ _ (by omega), w_u8]
  congr 2
theorem let_ok (s : List Wd) (hs : s.length = 25) : ag T 41 [.ptr 2 0, .ms 1 0 none 32] (spH (s, 0)) = some (.tup [], [Z32, .cells ((k32.map (kByte s)).map u8), .cells (spgC (wv s) 136 32)]) := by
  have hk := let_k (nw s 0).toNat (nw s 1).toNat (nw s 2).toNat (nw s 3).toNat (nw s 4).toNat (nw s 5).toNat (nw s 6).toNat (nw s 7).toNat (nw s 8).toNat (nw s 9).toNat (nw s 10).toNat (nw s 11).toNat (nw s 12).toNat (nw s 13).toNat (nw s 14).toNat (nw s 15).toNat (nw s 16).toNat (nw s 17).toNat (nw s 18).toNat (nw s 19).toNat (nw s 20).toNat (nw s 21).toNat (nw s 22).toNat (nw s 23).toNat (nw s 24).toNat
  rw [words_wI hs, outI_w] at hk
  exact ag_of_gcall hk
theorem z32_eq : AObj.box true [.int .u8 0, .int .u8 0, .int .u8 0, .int .u8 0, .int .u8 0, .int .u8 0, .int .u8 0, .int .u8 0, .int .u8 0, .int .u8 0, .int .u8 0, .int .u8 0, .int .u8 0, .int .u8 0, .int .u8 0, .int .u8 0, .int .u8 0, .int .u8 0, .int .u8 0, .int .u8 0, .int .u8 0, .int .u8 0, .int .u8 0, .int .u8 0, .int .u8 0, .int .u8 0, .int .u8 0, .int .u8 0, .int .u8 0, .int .u8 0, .int .u8 0, .int .u8 0] = Z32 := rfl
theorem spH_1 (p : List Wd × Nat) : (spH p)[1]? = some (AObj.box true (List.replicate 32 (.int .u8 0))) := rfl
theorem n32 : (((32 : Nat) : Int) - 0).toNat = 32 := rfl
theorem splice_all {xs cs : List AV} (h : xs.length = cs.length) : splice cs 0 xs = xs := by
  match xs, h with
  | [], h => rw [splice_nil]; exact List.eq_nil_of_length_eq_zero h.symm
  | [x], h =>
    match cs, h with
    | [c], _ => rfl
  | x :: y :: r, h => rw [splice_more, List.drop_of_length_le (by simp at h; omega)]; simp
theorem oneL_u8 : ∀ l : List Int, oneL (l.map u8) = true
  | [] => rfl
  | x :: l => by simp only [List.map_cons, oneL, one, oneCell, oneL_u8 l, Bool.and_self]
theorem kTake_eq (l : List Int) : kTake l = l.foldl (kStep 136) (kZero, 0) := rfl
theorem kzero_ks : KS (kZero, 0) := ⟨rfl, by show (0 : Nat) < 136; omega⟩
theorem kEnd_len {p : List Wd × Nat} (h : KS p) : (kEnd p).length = 25 := kPerm_len (kAdd_len (kAdd_len h.len _ _) _ _)
theorem sum_ok (xs : List AV) (ls : List (List Int)) (hx : PartsR xs ls) (po : AOwn) (hcl : closed (.slice po none xs) = true) (hn : xs.length ≤ 140737488351232) : prun T F17 [.slice po none xs] = some (.agg ((kSum ls.flatten).map u8)) := by
  refine WP_eq (prun_wp ?_)
  have h1 := start_ok
  have h2 := take_ok xs ls hx (kZero, 0) kzero_ks po hcl hn
  rw [← kTake_eq] at h2
  have h3 := let_ok (kEnd (kTake ls.flatten)) (kEnd_len (KS.fold _ kzero_ks))
  have hL : ((kSum ls.flatten).map u8).length = 32 := by rw [List.length_map, kSum_len]
  have hc := u8_closed (kSum ls.flatten)
  rw [show k32.map (kByte (kEnd (kTake ls.flatten))) = kSum ls.flatten from rfl] at h3
  have h1L := oneL_u8 (kSum ls.flatten)
  have hst : ((kSum ls.flatten).map u8).map strip = (kSum ls.flatten).map u8 := by rw [List.map_map]; rfl
  generalize (kSum ls.flatten).map u8 = D at h3 hL hc h1L hst ⊢
  have hT : List.take 32 D = D := List.take_of_length_le (by omega)
  have hsp : splice (List.replicate 32 (AV.int .u8 0)) 0 D = D := splice_all (by rw [hL]; rfl)
  first | have hb := hb | have hb := trivial
  repeat' (first | (simp -implicitDefEqProofs (disch := omega) only [hb, F17, z32_eq, h1, h2, h3, hL, hc, spH_1, n32, hT, h1L, wC, initE, aop, Nat.reduceEqDiff, ↓reduceIte, Nat.reduceAdd, finish, resOf, tupOf, AM.freeze, freeze1, freezeL, closed, nam, namL, if_true, if_false, deref, boxAt, exAt, ldCells, oneL, oneCell, Nat.reduceLeDiff, evL, adopt, rigid, rigidL, trim, Int.reduceEq, Int.reduceMod, Int.reduceDiv, if_pos, if_neg, asI, forall_const, implies_true, chkD, chkO, chkW, effB, reB, vEq, beq_self_eq_true, Nat.reduceSub, Nat.reduceLT, Int.reduceSub, Int.reduceAdd, Int.reduceMul, Int.reduceLT, Int.reduceLE, Int.reduceToNat, optI, aslice, cutSl, cutMs, cutStr, cutOwn, cellsOf, one, elCells, lenOf, beqV, beqVL, strip, stripO, convS]) | ((first | rw [WP_condK] | rw [WP_opsG] | rw [WP_quiG] | rw [WP_dG]); refine And.intro (fun hb => ?_) (fun hb => ?_) <;> (first | have hd := dq1 hb | have hd := dq2 hb | have hd := dq3 hb | have hd := dq4 hb | skip)))
  first | have hb := hb | have hb := trivial
  repeat' (first | (simp -implicitDefEqProofs (disch := omega) only [hb, Z32, hL, hc, hT, h1L, hsp, wC, initE, aop, Nat.reduceEqDiff, ↓reduceIte, Nat.reduceAdd, finish, resOf, tupOf, AM.freeze, freeze1, freezeL, closed, nam, namL, if_true, if_false, deref, boxAt, exAt, ldCells, oneL, oneCell, Nat.reduceLeDiff, evL, adopt, rigid, rigidL, trim, Int.reduceEq, Int.reduceMod, Int.reduceDiv, if_pos, if_neg, asI, forall_const, implies_true, chkD, chkO, chkW, effB, reB, vEq, beq_self_eq_true, Nat.reduceSub, Nat.reduceLT, Int.reduceSub, Int.reduceAdd, Int.reduceMul, Int.reduceLT, Int.reduceLE, Int.reduceToNat, optI, aslice, cutSl, cutMs, cutStr, cutOwn, cellsOf, one, elCells, lenOf, beqV, beqVL, strip, stripO, convS]) | ((first | rw [WP_condK] | rw [WP_opsG] | rw [WP_quiG] | rw [WP_dG]); refine And.intro (fun hb => ?_) (fun hb => ?_) <;> (first | have hd := dq1 hb | have hd := dq2 hb | have hd := dq3 hb | have hd := dq4 hb | skip)))
  rw [hst]
  exact ⟨hc, rfl⟩
end Go.Proofs.Ytipbmacpenmgoaa.AM
