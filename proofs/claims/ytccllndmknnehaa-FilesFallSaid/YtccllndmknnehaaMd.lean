import Derived.Test.YtccllndmknnehaaMc
import Derived.Laws.RangeAny
import Derived.Laws.RangeString
/- The functions for the plain machine (printed by gen2.py). -/
namespace Go.Proofs.Ytccllndmknnehaa.AM
open Go
set_option maxRecDepth 100000
set_option linter.unusedSimpArgs false
set_option linter.unusedVariables false
def bs (l : List Nat) : ByteArray := ⟨(l.map UInt8.ofNat).toArray⟩
def gl : Nat → Option (List Value) := fun _ => none
/- tollhouse/tollhouselaw10.FilesNames -/
def F3 : AFn := ⟨111, true, 2, [.tmp 4], .seq
 (.reg [⟨some 4, .move (.cst (.bool false)), none⟩])
 (.seq
 (.reg [⟨some 11, .call (.cst (.func (.func 6) [] [])) [(.cst (.int .i64 1048576))], none⟩,
  ⟨some 10, .move (.tmp 11), none⟩,
  ⟨some 12, .extract (.tmp 10) 0, none⟩,
  ⟨some 13, .extract (.tmp 10) 1, none⟩,
  ⟨some 5, .move (.tmp 12), none⟩,
  ⟨some 6, .move (.tmp 13), none⟩])
 (.seq
 (.seq
 (.reg [⟨some 14, .call (.cst (.func (.func 7) [] [])) [], none⟩,
  ⟨some 15, .un .not (.tmp 14), none⟩,
  ⟨some 16, .move (.tmp 15), none⟩,
  ⟨some 17, .move (.tmp 6), some (16, false)⟩,
  ⟨some 18, .bin .neq (.tmp 17) (.cst (.int .i64 0)), some (16, false)⟩,
  ⟨some 19, .pick (.tmp 16) (.cst (.bool true)) (.tmp 18), none⟩,
  ⟨some 20, .move (.tmp 19), none⟩,
  ⟨some 21, .move (.tmp 5), some (20, false)⟩,
  ⟨some 22, .eqNil false .ptr (.tmp 21), some (20, false)⟩,
  ⟨some 23, .pick (.tmp 20) (.cst (.bool true)) (.tmp 22), none⟩,
  ⟨some 24, .move (.tmp 23), none⟩,
  ⟨some 25, .move (.tmp 1), some (24, false)⟩,
  ⟨some 26, .len (.tmp 25), some (24, false)⟩,
  ⟨some 27, .bin .gtr (.tmp 26) (.cst (.int .i64 1000)), some (24, false)⟩,
  ⟨some 28, .pick (.tmp 24) (.cst (.bool true)) (.tmp 27), none⟩])
 (.cond (.tmp 28)
 (.seq
 (.reg [⟨some 29, .call (.cst (.func (.func 7) [] [])) [], none⟩,
  ⟨some 4, .move (.tmp 29), none⟩])
 (.ret))
 (.skip)))
 (.seq
 (.reg [⟨some 30, .move (.tmp 5), none⟩,
  ⟨some 31, .move (.tmp 0), none⟩,
  ⟨some 32, .move (.tmp 1), none⟩,
  ⟨some 33, .call (.cst (.func (.func 8) [] [])) [(.tmp 30), (.tmp 31), (.tmp 32)], none⟩,
  ⟨some 7, .move (.tmp 33), none⟩])
 (.seq
 (.reg [⟨some 35, .move (.tmp 5), none⟩,
  ⟨some 36, .move (.tmp 0), none⟩,
  ⟨some 37, .call (.cst (.func (.func 9) [] [])) [(.tmp 35), (.tmp 36)], none⟩,
  ⟨some 34, .move (.tmp 37), none⟩,
  ⟨some 38, .extract (.tmp 34) 0, none⟩,
  ⟨some 39, .extract (.tmp 34) 1, none⟩,
  ⟨some 8, .move (.tmp 38), none⟩,
  ⟨some 9, .move (.tmp 39), none⟩])
 (.seq
 (.seq
 (.reg [⟨some 40, .move (.tmp 0), none⟩,
  ⟨some 41, .call (.cst (.func (.func 10) [] [])) [(.tmp 40)], none⟩,
  ⟨some 42, .un .not (.tmp 41), none⟩])
 (.cond (.tmp 42)
 (.seq
 (.reg [⟨some 43, .move (.tmp 7), none⟩,
  ⟨some 44, .bin .eql (.tmp 43) (.cst (.int .i64 1)), none⟩,
  ⟨some 45, .move (.tmp 44), none⟩,
  ⟨some 46, .move (.tmp 9), some (45, true)⟩,
  ⟨some 47, .bin .eql (.tmp 46) (.cst (.int .i64 1)), some (45, true)⟩,
  ⟨some 48, .pick (.tmp 45) (.tmp 47) (.cst (.bool false)), none⟩,
  ⟨some 49, .move (.tmp 48), none⟩,
  ⟨some 50, .move (.tmp 8), some (49, true)⟩,
  ⟨some 51, .len (.tmp 50), some (49, true)⟩,
  ⟨some 52, .bin .eql (.tmp 51) (.cst (.int .i64 0)), some (49, true)⟩,
  ⟨some 53, .pick (.tmp 49) (.tmp 52) (.cst (.bool false)), none⟩,
  ⟨some 54, .move (.tmp 53), none⟩,
  ⟨some 55, .move (.tmp 5), some (54, true)⟩,
  ⟨some 56, .move (.tmp 0), some (54, true)⟩,
  ⟨some 57, .call (.cst (.func (.func 11) [] [])) [(.tmp 55), (.tmp 56), (.cst (.sc (.string (bs [97]))))], some (54, true)⟩,
  ⟨some 58, .bin .eql (.tmp 57) (.cst (.int .i64 1)), some (54, true)⟩,
  ⟨some 59, .pick (.tmp 54) (.tmp 58) (.cst (.bool false)), none⟩,
  ⟨some 60, .move (.tmp 59), none⟩,
  ⟨some 61, .move (.tmp 5), some (60, true)⟩,
  ⟨some 62, .move (.tmp 0), some (60, true)⟩,
  ⟨some 63, .call (.cst (.func (.func 12) [] [])) [(.tmp 61), (.tmp 62)], some (60, true)⟩,
  ⟨some 64, .bin .eql (.tmp 63) (.cst (.int .i64 1)), some (60, true)⟩,
  ⟨some 65, .pick (.tmp 60) (.tmp 64) (.cst (.bool false)), none⟩,
  ⟨some 4, .move (.tmp 65), none⟩])
 (.ret))
 (.skip)))
 (.seq
 (.reg [⟨some 66, .move (.tmp 7), none⟩,
  ⟨some 67, .bin .eql (.tmp 66) (.cst (.int .i64 0)), none⟩,
  ⟨some 68, .move (.tmp 67), none⟩,
  ⟨some 69, .move (.tmp 9), some (68, true)⟩,
  ⟨some 70, .bin .eql (.tmp 69) (.cst (.int .i64 0)), some (68, true)⟩,
  ⟨some 71, .pick (.tmp 68) (.tmp 70) (.cst (.bool false)), none⟩,
  ⟨some 72, .move (.tmp 71), none⟩,
  ⟨some 73, .move (.tmp 8), some (72, true)⟩,
  ⟨some 74, .convStr (.tmp 73), some (72, true)⟩,
  ⟨some 75, .move (.tmp 1), some (72, true)⟩,
  ⟨some 76, .convStr (.tmp 75), some (72, true)⟩,
  ⟨some 77, .bin .eql (.tmp 74) (.tmp 76), some (72, true)⟩,
  ⟨some 78, .pick (.tmp 72) (.tmp 77) (.cst (.bool false)), none⟩,
  ⟨some 79, .move (.tmp 78), none⟩,
  ⟨some 80, .move (.tmp 5), some (79, true)⟩,
  ⟨some 81, .call (.cst (.func (.func 13) [] [])) [(.tmp 80)], some (79, true)⟩,
  ⟨some 82, .move (.tmp 1), some (79, true)⟩,
  ⟨some 83, .len (.tmp 82), some (79, true)⟩,
  ⟨some 84, .bin .sub (.cst (.int .i64 1048576)) (.tmp 83), some (79, true)⟩,
  ⟨some 85, .bin .eql (.tmp 81) (.tmp 84), some (79, true)⟩,
  ⟨some 86, .pick (.tmp 79) (.tmp 85) (.cst (.bool false)), none⟩,
  ⟨some 87, .move (.tmp 86), none⟩,
  ⟨some 88, .move (.tmp 5), some (87, true)⟩,
  ⟨some 89, .move (.tmp 0), some (87, true)⟩,
  ⟨some 90, .move (.tmp 0), some (87, true)⟩,
  ⟨some 91, .call (.cst (.func (.func 11) [] [])) [(.tmp 88), (.tmp 89), (.tmp 90)], some (87, true)⟩,
  ⟨some 92, .bin .eql (.tmp 91) (.cst (.int .i64 0)), some (87, true)⟩,
  ⟨some 93, .pick (.tmp 87) (.tmp 92) (.cst (.bool false)), none⟩,
  ⟨some 94, .move (.tmp 93), none⟩,
  ⟨some 95, .move (.tmp 5), some (94, true)⟩,
  ⟨some 96, .move (.tmp 0), some (94, true)⟩,
  ⟨some 97, .call (.cst (.func (.func 12) [] [])) [(.tmp 95), (.tmp 96)], some (94, true)⟩,
  ⟨some 98, .bin .eql (.tmp 97) (.cst (.int .i64 0)), some (94, true)⟩,
  ⟨some 99, .pick (.tmp 94) (.tmp 98) (.cst (.bool false)), none⟩,
  ⟨some 100, .move (.tmp 99), none⟩,
  ⟨some 101, .move (.tmp 5), some (100, true)⟩,
  ⟨some 102, .move (.tmp 0), some (100, true)⟩,
  ⟨some 103, .call (.cst (.func (.func 12) [] [])) [(.tmp 101), (.tmp 102)], some (100, true)⟩,
  ⟨some 104, .bin .eql (.tmp 103) (.cst (.int .i64 4)), some (100, true)⟩,
  ⟨some 105, .pick (.tmp 100) (.tmp 104) (.cst (.bool false)), none⟩,
  ⟨some 106, .move (.tmp 105), none⟩,
  ⟨some 107, .move (.tmp 5), some (106, true)⟩,
  ⟨some 108, .call (.cst (.func (.func 13) [] [])) [(.tmp 107)], some (106, true)⟩,
  ⟨some 109, .bin .eql (.tmp 108) (.cst (.int .i64 1048576)), some (106, true)⟩,
  ⟨some 110, .pick (.tmp 106) (.tmp 109) (.cst (.bool false)), none⟩,
  ⟨some 4, .move (.tmp 110), none⟩])
 (.ret)))))))⟩
theorem c3 : compF Try.prog gl true [] [] Try.f3 = some F3 := by kernel_rfl
def L4_0 : AC := .seq
 (.seq
 (.reg [⟨some 150, .move (.tmp 15), none⟩,
  ⟨some 151, .move (.tmp 12), none⟩,
  ⟨some 152, .len (.tmp 151), none⟩,
  ⟨some 153, .bin .lss (.tmp 150) (.tmp 152), none⟩])
 (.cond (.tmp 153)
 (.skip)
 (.exit 3)))
 (.seq
 (.block 4
 (.seq
 (.regD [⟨some 156, .move (.tmp 12), none⟩,
  ⟨some 157, .move (.tmp 15), none⟩,
  ⟨some 158, .indexAddr .slice (some 2) (.tmp 156) (.tmp 157), none⟩,
  ⟨some 159, .fieldAddr 0 1 (.tmp 158), none⟩,
  ⟨some 160, .load none (.tmp 159), none⟩,
  ⟨some 161, .move (.tmp 14), none⟩,
  ⟨some 162, .move (.tmp 15), none⟩,
  ⟨some 163, .indexAddr .slice (some 2) (.tmp 161) (.tmp 162), none⟩,
  ⟨some 164, .fieldAddr 0 1 (.tmp 163), none⟩,
  ⟨some 165, .load none (.tmp 164), none⟩,
  ⟨some 166, .bin .neq (.tmp 160) (.tmp 165), none⟩,
  ⟨some 167, .move (.tmp 166), none⟩,
  ⟨some 168, .move (.tmp 12), some (167, false)⟩,
  ⟨some 169, .move (.tmp 15), some (167, false)⟩,
  ⟨some 170, .indexAddr .slice (some 2) (.tmp 168) (.tmp 169), some (167, false)⟩,
  ⟨some 171, .fieldAddr 1 1 (.tmp 170), some (167, false)⟩,
  ⟨some 172, .load none (.tmp 171), some (167, false)⟩,
  ⟨some 173, .convStr (.tmp 172), some (167, false)⟩,
  ⟨some 174, .move (.tmp 14), some (167, false)⟩,
  ⟨some 175, .move (.tmp 15), some (167, false)⟩,
  ⟨some 176, .indexAddr .slice (some 2) (.tmp 174) (.tmp 175), some (167, false)⟩,
  ⟨some 177, .fieldAddr 1 1 (.tmp 176), some (167, false)⟩,
  ⟨some 178, .load none (.tmp 177), some (167, false)⟩,
  ⟨some 179, .convStr (.tmp 178), some (167, false)⟩,
  ⟨some 180, .bin .neq (.tmp 173) (.tmp 179), some (167, false)⟩,
  ⟨some 181, .pick (.tmp 167) (.cst (.bool true)) (.tmp 180), none⟩] [(0, 0), (0, 0), (0, 0), (0, 0), (0, 0), (0, 0), (0, 0), (0, 0), (0, 0), (0, 0), (0, 0), (0, 0), (0, 0), (0, 0), (0, 0), (0, 0), (0, 0), (0, 0), (0, 0), (0, 0), (0, 0), (0, 0), (0, 0), (0, 0), (0, 0), (0, 0)])
 (.cond (.tmp 181)
 (.seq
 (.reg [⟨some 8, .move (.cst (.bool false)), none⟩])
 (.ret))
 (.skip))))
 (.reg [⟨some 154, .move (.tmp 15), none⟩,
  ⟨some 155, .bin .add (.tmp 154) (.cst (.int .i64 1)), none⟩,
  ⟨some 15, .move (.tmp 155), none⟩]))
def L4_1 : AC := .seq
 (.seq
 (.reg [⟨some 30, .move (.tmp 11), none⟩,
  ⟨some 31, .move (.tmp 0), none⟩,
  ⟨some 32, .len (.tmp 31), none⟩,
  ⟨some 33, .bin .lss (.tmp 30) (.tmp 32), none⟩,
  ⟨some 34, .move (.tmp 33), none⟩,
  ⟨some 35, .move (.tmp 11), some (34, true)⟩,
  ⟨some 36, .bin .lss (.tmp 35) (.cst (.int .i64 60)), some (34, true)⟩,
  ⟨some 37, .pick (.tmp 34) (.tmp 36) (.cst (.bool false)), none⟩])
 (.cond (.tmp 37)
 (.skip)
 (.exit 0)))
 (.seq
 (.block 1
 (.seq
 (.reg [⟨some 40, .move (.tmp 0), none⟩,
  ⟨some 41, .move (.tmp 11), none⟩,
  ⟨some 42, .indexAddr .slice (some 6) (.tmp 40) (.tmp 41), none⟩,
  ⟨some 43, .fieldAddr 0 1 (.tmp 42), none⟩,
  ⟨some 44, .load none (.tmp 43), none⟩])
 (.block 2
 (.seq
 (.reg [⟨some 46, .bin .eql (.tmp 44) (.cst (.int .i64 1)), none⟩,
  ⟨some 45, .move (.tmp 46), none⟩])
 (.cond (.tmp 45)
 (.regD [⟨some 47, .move (.tmp 9), none⟩,
  ⟨some 48, .move (.tmp 0), none⟩,
  ⟨some 49, .move (.tmp 11), none⟩,
  ⟨some 50, .indexAddr .slice (some 6) (.tmp 48) (.tmp 49), none⟩,
  ⟨some 51, .fieldAddr 1 1 (.tmp 50), none⟩,
  ⟨some 52, .load none (.tmp 51), none⟩,
  ⟨some 53, .move (.tmp 0), none⟩,
  ⟨some 54, .move (.tmp 11), none⟩,
  ⟨some 55, .indexAddr .slice (some 6) (.tmp 53) (.tmp 54), none⟩,
  ⟨some 56, .fieldAddr 3 1 (.tmp 55), none⟩,
  ⟨some 57, .load none (.tmp 56), none⟩,
  ⟨some 58, .call (.cst (.func (.func 8) [] [])) [(.tmp 47), (.tmp 52), (.tmp 57)], none⟩] [(0, 0), (0, 0), (0, 0), (0, 0), (0, 0), (0, 0), (0, 0), (0, 0), (0, 0), (0, 0), (0, 0), (0, 0)])
 (.seq
 (.reg [⟨some 60, .bin .eql (.tmp 44) (.cst (.int .i64 2)), none⟩,
  ⟨some 59, .move (.tmp 60), none⟩])
 (.cond (.tmp 59)
 (.seq
 (.regQ [⟨some 61, .move (.tmp 9), none⟩,
  ⟨some 62, .move (.tmp 0), none⟩,
  ⟨some 63, .move (.tmp 11), none⟩,
  ⟨some 64, .indexAddr .slice (some 6) (.tmp 62) (.tmp 63), none⟩,
  ⟨some 65, .fieldAddr 1 1 (.tmp 64), none⟩,
  ⟨some 66, .load none (.tmp 65), none⟩,
  ⟨some 67, .move (.tmp 0), none⟩,
  ⟨some 68, .move (.tmp 11), none⟩,
  ⟨some 69, .indexAddr .slice (some 6) (.tmp 67) (.tmp 68), none⟩,
  ⟨some 70, .fieldAddr 4 1 (.tmp 69), none⟩,
  ⟨some 71, .load none (.tmp 70), none⟩])
 (.reg [⟨some 72, .call (.cst (.func (.func 14) [] [])) [(.tmp 61), (.tmp 66), (.tmp 71)], none⟩]))
 (.seq
 (.reg [⟨some 74, .bin .eql (.tmp 44) (.cst (.int .i64 3)), none⟩,
  ⟨some 73, .move (.tmp 74), none⟩])
 (.cond (.tmp 73)
 (.seq
 (.regQ [⟨some 75, .move (.tmp 9), none⟩,
  ⟨some 76, .move (.tmp 0), none⟩,
  ⟨some 77, .move (.tmp 11), none⟩,
  ⟨some 78, .indexAddr .slice (some 6) (.tmp 76) (.tmp 77), none⟩,
  ⟨some 79, .fieldAddr 1 1 (.tmp 78), none⟩,
  ⟨some 80, .load none (.tmp 79), none⟩,
  ⟨some 81, .move (.tmp 0), none⟩,
  ⟨some 82, .move (.tmp 11), none⟩,
  ⟨some 83, .indexAddr .slice (some 6) (.tmp 81) (.tmp 82), none⟩,
  ⟨some 84, .fieldAddr 2 1 (.tmp 83), none⟩,
  ⟨some 85, .load none (.tmp 84), none⟩])
 (.reg [⟨some 86, .call (.cst (.func (.func 11) [] [])) [(.tmp 75), (.tmp 80), (.tmp 85)], none⟩]))
 (.seq
 (.reg [⟨some 88, .bin .eql (.tmp 44) (.cst (.int .i64 4)), none⟩,
  ⟨some 87, .move (.tmp 88), none⟩])
 (.cond (.tmp 87)
 (.reg [⟨some 89, .move (.tmp 9), none⟩,
  ⟨some 90, .move (.tmp 0), none⟩,
  ⟨some 91, .move (.tmp 11), none⟩,
  ⟨some 92, .indexAddr .slice (some 6) (.tmp 90) (.tmp 91), none⟩,
  ⟨some 93, .fieldAddr 1 1 (.tmp 92), none⟩,
  ⟨some 94, .load none (.tmp 93), none⟩,
  ⟨some 95, .call (.cst (.func (.func 12) [] [])) [(.tmp 89), (.tmp 94)], none⟩])
 (.skip))))))))))))
 (.reg [⟨some 38, .move (.tmp 11), none⟩,
  ⟨some 39, .bin .add (.tmp 38) (.cst (.int .i64 1)), none⟩,
  ⟨some 11, .move (.tmp 39), none⟩]))
/- tollhouse/tollhouselaw10.FilesFall -/
def F4 : AFn := ⟨182, true, 4, [.tmp 8], .seq
 (.reg [⟨some 8, .move (.cst (.bool false)), none⟩])
 (.seq
 (.reg [⟨some 17, .call (.cst (.func (.func 6) [] [])) [(.cst (.int .i64 65536))], none⟩,
  ⟨some 16, .move (.tmp 17), none⟩,
  ⟨some 18, .extract (.tmp 16) 0, none⟩,
  ⟨some 19, .extract (.tmp 16) 1, none⟩,
  ⟨some 9, .move (.tmp 18), none⟩,
  ⟨some 10, .move (.tmp 19), none⟩])
 (.seq
 (.seq
 (.reg [⟨some 20, .call (.cst (.func (.func 7) [] [])) [], none⟩,
  ⟨some 21, .un .not (.tmp 20), none⟩,
  ⟨some 22, .move (.tmp 21), none⟩,
  ⟨some 23, .move (.tmp 10), some (22, false)⟩,
  ⟨some 24, .bin .neq (.tmp 23) (.cst (.int .i64 0)), some (22, false)⟩,
  ⟨some 25, .pick (.tmp 22) (.cst (.bool true)) (.tmp 24), none⟩,
  ⟨some 26, .move (.tmp 25), none⟩,
  ⟨some 27, .move (.tmp 9), some (26, false)⟩,
  ⟨some 28, .eqNil false .ptr (.tmp 27), some (26, false)⟩,
  ⟨some 29, .pick (.tmp 26) (.cst (.bool true)) (.tmp 28), none⟩])
 (.cond (.tmp 29)
 (.seq
 (.reg [⟨some 8, .move (.cst (.bool false)), none⟩])
 (.ret))
 (.skip)))
 (.seq
 (.seq
 (.reg [⟨some 11, .move (.cst (.int .i64 0)), none⟩])
 (.block 0
 (.loop [0, 1, 2, 3, 9, 11] false L4_1)))
 (.seq
 (.seq
 (.reg [⟨some 96, .move (.tmp 3), none⟩,
  ⟨some 97, .move (.tmp 96), none⟩,
  ⟨some 98, .move (.tmp 9), some (97, true)⟩,
  ⟨some 99, .call (.cst (.func (.func 15) [] [])) [(.tmp 98)], some (97, true)⟩,
  ⟨some 100, .bin .neq (.tmp 99) (.cst (.int .i64 0)), some (97, true)⟩,
  ⟨some 101, .pick (.tmp 97) (.tmp 100) (.cst (.bool false)), none⟩])
 (.cond (.tmp 101)
 (.seq
 (.reg [⟨some 8, .move (.cst (.bool false)), none⟩])
 (.ret))
 (.skip)))
 (.seq
 (.reg [⟨some 102, .move (.tmp 9), none⟩,
  ⟨some 103, .call (.cst (.func (.func 16) [] [])) [(.tmp 102)], none⟩,
  ⟨some 12, .move (.tmp 103), none⟩])
 (.seq
 (.reg [⟨some 104, .move (.tmp 9), none⟩,
  ⟨some 105, .call (.cst (.func (.func 17) [] [])) [(.tmp 104)], none⟩,
  ⟨some 13, .move (.tmp 105), none⟩])
 (.seq
 (.reg [⟨some 106, .move (.tmp 9), none⟩,
  ⟨some 107, .move (.tmp 1), none⟩,
  ⟨some 108, .move (.tmp 2), none⟩,
  ⟨some 109, .call (.cst (.func (.func 18) [] [])) [(.tmp 106), (.tmp 107), (.tmp 108)], none⟩,
  ⟨some 10, .move (.tmp 109), none⟩])
 (.seq
 (.seq
 (.reg [⟨some 110, .move (.tmp 1), none⟩,
  ⟨some 111, .bin .lss (.tmp 110) (.cst (.int .i64 0)), none⟩,
  ⟨some 112, .move (.tmp 111), none⟩,
  ⟨some 113, .move (.tmp 1), some (112, false)⟩,
  ⟨some 114, .move (.tmp 13), some (112, false)⟩,
  ⟨some 115, .bin .gtr (.tmp 113) (.tmp 114), some (112, false)⟩,
  ⟨some 116, .pick (.tmp 112) (.cst (.bool true)) (.tmp 115), none⟩,
  ⟨some 117, .move (.tmp 116), none⟩,
  ⟨some 118, .move (.tmp 2), some (117, false)⟩,
  ⟨some 119, .bin .lss (.tmp 118) (.cst (.int .i64 0)), some (117, false)⟩,
  ⟨some 120, .pick (.tmp 117) (.cst (.bool true)) (.tmp 119), none⟩])
 (.cond (.tmp 120)
 (.seq
 (.reg [⟨some 121, .move (.tmp 10), none⟩,
  ⟨some 122, .bin .eql (.tmp 121) (.cst (.int .i64 1)), none⟩,
  ⟨some 123, .move (.tmp 122), none⟩,
  ⟨some 124, .move (.tmp 9), some (123, true)⟩,
  ⟨some 125, .call (.cst (.func (.func 17) [] [])) [(.tmp 124)], some (123, true)⟩,
  ⟨some 126, .move (.tmp 13), some (123, true)⟩,
  ⟨some 127, .bin .eql (.tmp 125) (.tmp 126), some (123, true)⟩,
  ⟨some 128, .pick (.tmp 123) (.tmp 127) (.cst (.bool false)), none⟩,
  ⟨some 8, .move (.tmp 128), none⟩])
 (.ret))
 (.skip)))
 (.seq
 (.reg [⟨some 129, .move (.tmp 9), none⟩,
  ⟨some 130, .call (.cst (.func (.func 16) [] [])) [(.tmp 129)], none⟩,
  ⟨some 14, .move (.tmp 130), none⟩])
 (.seq
 (.seq
 (.reg [⟨some 131, .move (.tmp 10), none⟩,
  ⟨some 132, .bin .neq (.tmp 131) (.cst (.int .i64 0)), none⟩,
  ⟨some 133, .move (.tmp 132), none⟩,
  ⟨some 134, .move (.tmp 9), some (133, false)⟩,
  ⟨some 135, .call (.cst (.func (.func 17) [] [])) [(.tmp 134)], some (133, false)⟩,
  ⟨some 136, .bin .neq (.tmp 135) (.cst (.int .i64 0)), some (133, false)⟩,
  ⟨some 137, .pick (.tmp 133) (.cst (.bool true)) (.tmp 136), none⟩])
 (.cond (.tmp 137)
 (.seq
 (.reg [⟨some 8, .move (.cst (.bool false)), none⟩])
 (.ret))
 (.skip)))
 (.seq
 (.seq
 (.reg [⟨some 138, .move (.tmp 3), none⟩,
  ⟨some 139, .un .not (.tmp 138), none⟩,
  ⟨some 140, .move (.tmp 139), none⟩,
  ⟨some 141, .move (.tmp 1), some (140, true)⟩,
  ⟨some 142, .move (.tmp 13), some (140, true)⟩,
  ⟨some 143, .bin .lss (.tmp 141) (.tmp 142), some (140, true)⟩,
  ⟨some 144, .pick (.tmp 140) (.tmp 143) (.cst (.bool false)), none⟩])
 (.cond (.tmp 144)
 (.seq
 (.reg [⟨some 8, .move (.cst (.bool true)), none⟩])
 (.ret))
 (.skip)))
 (.seq
 (.seq
 (.reg [⟨some 145, .move (.tmp 12), none⟩,
  ⟨some 146, .len (.tmp 145), none⟩,
  ⟨some 147, .move (.tmp 14), none⟩,
  ⟨some 148, .len (.tmp 147), none⟩,
  ⟨some 149, .bin .neq (.tmp 146) (.tmp 148), none⟩])
 (.cond (.tmp 149)
 (.seq
 (.reg [⟨some 8, .move (.cst (.bool false)), none⟩])
 (.ret))
 (.skip)))
 (.seq
 (.seq
 (.reg [⟨some 15, .move (.cst (.int .i64 0)), none⟩])
 (.block 3
 (.loop [12, 14, 15] false L4_0)))
 (.seq
 (.reg [⟨some 8, .move (.cst (.bool true)), none⟩])
 (.ret)))))))))))))))⟩
theorem c4 : compF Try.prog gl true [(72, (some 2)), (86, (some 2))] [([0, 1, 2, 3, 9, 11], false), ([12, 14, 15], false)] Try.f4 = some F4 := by kernel_rfl
/- tollhouse/tollhouselaw10.FilesNobody -/
def F5 : AFn := ⟨101, true, 1, [.tmp 2], .seq
 (.reg [⟨some 1, .box (.tmp 0), none⟩,
  ⟨some 2, .move (.cst (.bool false)), none⟩])
 (.seq
 (.reg [⟨some 3, .move (.cst (.sc (.pointer none))), none⟩])
 (.seq
 (.reg [⟨some 6, .move (.tmp 3), none⟩,
  ⟨some 7, .fieldAddr 4 1 (.tmp 1), none⟩,
  ⟨some 8, .load none (.tmp 7), none⟩,
  ⟨some 9, .call (.cst (.func (.func 19) [] [])) [(.tmp 6), (.tmp 8)], none⟩])
 (.seq
 (.reg [⟨some 11, .move (.tmp 3), none⟩,
  ⟨some 12, .fieldAddr 1 1 (.tmp 1), none⟩,
  ⟨some 13, .load none (.tmp 12), none⟩,
  ⟨some 14, .call (.cst (.func (.func 9) [] [])) [(.tmp 11), (.tmp 13)], none⟩,
  ⟨some 10, .move (.tmp 14), none⟩,
  ⟨some 15, .extract (.tmp 10) 0, none⟩,
  ⟨some 16, .extract (.tmp 10) 1, none⟩,
  ⟨some 4, .move (.tmp 15), none⟩,
  ⟨some 5, .move (.tmp 16), none⟩])
 (.seq
 (.reg [⟨some 17, .call (.cst (.func (.func 7) [] [])) [], none⟩,
  ⟨some 18, .move (.tmp 17), none⟩,
  ⟨some 19, .move (.tmp 4), some (18, true)⟩,
  ⟨some 20, .len (.tmp 19), some (18, true)⟩,
  ⟨some 21, .bin .eql (.tmp 20) (.cst (.int .i64 0)), some (18, true)⟩,
  ⟨some 22, .pick (.tmp 18) (.tmp 21) (.cst (.bool false)), none⟩,
  ⟨some 23, .move (.tmp 22), none⟩,
  ⟨some 24, .move (.tmp 5), some (23, true)⟩,
  ⟨some 25, .bin .eql (.tmp 24) (.cst (.int .i64 6)), some (23, true)⟩,
  ⟨some 26, .pick (.tmp 23) (.tmp 25) (.cst (.bool false)), none⟩,
  ⟨some 27, .move (.tmp 26), none⟩,
  ⟨some 28, .move (.tmp 3), some (27, true)⟩,
  ⟨some 29, .fieldAddr 1 1 (.tmp 1), some (27, true)⟩,
  ⟨some 30, .load none (.tmp 29), some (27, true)⟩,
  ⟨some 31, .fieldAddr 3 1 (.tmp 1), some (27, true)⟩,
  ⟨some 32, .load none (.tmp 31), some (27, true)⟩,
  ⟨some 33, .call (.cst (.func (.func 8) [] [])) [(.tmp 28), (.tmp 30), (.tmp 32)], some (27, true)⟩,
  ⟨some 34, .bin .eql (.tmp 33) (.cst (.int .i64 6)), some (27, true)⟩,
  ⟨some 35, .pick (.tmp 27) (.tmp 34) (.cst (.bool false)), none⟩,
  ⟨some 36, .move (.tmp 35), none⟩,
  ⟨some 37, .move (.tmp 3), some (36, true)⟩,
  ⟨some 38, .fieldAddr 1 1 (.tmp 1), some (36, true)⟩,
  ⟨some 39, .load none (.tmp 38), some (36, true)⟩,
  ⟨some 40, .fieldAddr 4 1 (.tmp 1), some (36, true)⟩,
  ⟨some 41, .load none (.tmp 40), some (36, true)⟩,
  ⟨some 42, .call (.cst (.func (.func 14) [] [])) [(.tmp 37), (.tmp 39), (.tmp 41)], some (36, true)⟩,
  ⟨some 43, .bin .eql (.tmp 42) (.cst (.int .i64 6)), some (36, true)⟩,
  ⟨some 44, .pick (.tmp 36) (.tmp 43) (.cst (.bool false)), none⟩,
  ⟨some 45, .move (.tmp 44), none⟩,
  ⟨some 46, .move (.tmp 3), some (45, true)⟩,
  ⟨some 47, .fieldAddr 1 1 (.tmp 1), some (45, true)⟩,
  ⟨some 48, .load none (.tmp 47), some (45, true)⟩,
  ⟨some 49, .fieldAddr 2 1 (.tmp 1), some (45, true)⟩,
  ⟨some 50, .load none (.tmp 49), some (45, true)⟩,
  ⟨some 51, .call (.cst (.func (.func 11) [] [])) [(.tmp 46), (.tmp 48), (.tmp 50)], some (45, true)⟩,
  ⟨some 52, .bin .eql (.tmp 51) (.cst (.int .i64 6)), some (45, true)⟩,
  ⟨some 53, .pick (.tmp 45) (.tmp 52) (.cst (.bool false)), none⟩,
  ⟨some 54, .move (.tmp 53), none⟩,
  ⟨some 55, .move (.tmp 3), some (54, true)⟩,
  ⟨some 56, .fieldAddr 1 1 (.tmp 1), some (54, true)⟩,
  ⟨some 57, .load none (.tmp 56), some (54, true)⟩,
  ⟨some 58, .call (.cst (.func (.func 12) [] [])) [(.tmp 55), (.tmp 57)], some (54, true)⟩,
  ⟨some 59, .bin .eql (.tmp 58) (.cst (.int .i64 6)), some (54, true)⟩,
  ⟨some 60, .pick (.tmp 54) (.tmp 59) (.cst (.bool false)), none⟩,
  ⟨some 61, .move (.tmp 60), none⟩,
  ⟨some 62, .move (.tmp 3), some (61, true)⟩,
  ⟨some 63, .call (.cst (.func (.func 15) [] [])) [(.tmp 62)], some (61, true)⟩,
  ⟨some 64, .bin .eql (.tmp 63) (.cst (.int .i64 6)), some (61, true)⟩,
  ⟨some 65, .pick (.tmp 61) (.tmp 64) (.cst (.bool false)), none⟩,
  ⟨some 66, .move (.tmp 65), none⟩,
  ⟨some 67, .move (.tmp 3), some (66, true)⟩,
  ⟨some 68, .fieldAddr 4 1 (.tmp 1), some (66, true)⟩,
  ⟨some 69, .load none (.tmp 68), some (66, true)⟩,
  ⟨some 70, .fieldAddr 5 1 (.tmp 1), some (66, true)⟩,
  ⟨some 71, .load none (.tmp 70), some (66, true)⟩,
  ⟨some 72, .call (.cst (.func (.func 18) [] [])) [(.tmp 67), (.tmp 69), (.tmp 71)], some (66, true)⟩,
  ⟨some 73, .bin .eql (.tmp 72) (.cst (.int .i64 6)), some (66, true)⟩,
  ⟨some 74, .pick (.tmp 66) (.tmp 73) (.cst (.bool false)), none⟩,
  ⟨some 75, .move (.tmp 74), none⟩,
  ⟨some 76, .move (.tmp 3), some (75, true)⟩,
  ⟨some 77, .call (.cst (.func (.func 16) [] [])) [(.tmp 76)], some (75, true)⟩,
  ⟨some 78, .len (.tmp 77), some (75, true)⟩,
  ⟨some 79, .bin .eql (.tmp 78) (.cst (.int .i64 0)), some (75, true)⟩,
  ⟨some 80, .pick (.tmp 75) (.tmp 79) (.cst (.bool false)), none⟩,
  ⟨some 81, .move (.tmp 80), none⟩,
  ⟨some 82, .move (.tmp 3), some (81, true)⟩,
  ⟨some 83, .call (.cst (.func (.func 20) [] [])) [(.tmp 82)], some (81, true)⟩,
  ⟨some 84, .un .not (.tmp 83), some (81, true)⟩,
  ⟨some 85, .pick (.tmp 81) (.tmp 84) (.cst (.bool false)), none⟩,
  ⟨some 86, .move (.tmp 85), none⟩,
  ⟨some 87, .move (.tmp 3), some (86, true)⟩,
  ⟨some 88, .call (.cst (.func (.func 17) [] [])) [(.tmp 87)], some (86, true)⟩,
  ⟨some 89, .bin .eql (.tmp 88) (.cst (.int .i64 0)), some (86, true)⟩,
  ⟨some 90, .pick (.tmp 86) (.tmp 89) (.cst (.bool false)), none⟩,
  ⟨some 91, .move (.tmp 90), none⟩,
  ⟨some 92, .move (.tmp 3), some (91, true)⟩,
  ⟨some 93, .call (.cst (.func (.func 13) [] [])) [(.tmp 92)], some (91, true)⟩,
  ⟨some 94, .bin .eql (.tmp 93) (.cst (.int .i64 0)), some (91, true)⟩,
  ⟨some 95, .pick (.tmp 91) (.tmp 94) (.cst (.bool false)), none⟩,
  ⟨some 96, .move (.tmp 95), none⟩,
  ⟨some 97, .move (.tmp 3), some (96, true)⟩,
  ⟨some 98, .call (.cst (.func (.func 21) [] [])) [(.tmp 97)], some (96, true)⟩,
  ⟨some 99, .eqNil false .ptr (.tmp 98), some (96, true)⟩,
  ⟨some 100, .pick (.tmp 96) (.tmp 99) (.cst (.bool false)), none⟩,
  ⟨some 2, .move (.tmp 100), none⟩])
 (.ret)))))⟩
theorem c5 : compF Try.prog gl true [] [] Try.f5 = some F5 := by kernel_rfl
/- tollhouse/files.New -/
def F6 : AFn := ⟨15, false, 1, [.tmp 2, .tmp 3], .seq
 (.reg [⟨some 2, .move (.cst (.sc (.pointer none))), none⟩,
  ⟨some 3, .move (.cst (.int .i64 0)), none⟩])
 (.seq
 (.seq
 (.reg [⟨some 4, .move (.tmp 0), none⟩,
  ⟨some 5, .bin .lss (.tmp 4) (.cst (.int .i64 0)), none⟩,
  ⟨some 6, .move (.tmp 5), none⟩,
  ⟨some 7, .move (.tmp 0), some (6, false)⟩,
  ⟨some 8, .bin .gtr (.tmp 7) (.cst (.int .i64 268435456)), some (6, false)⟩,
  ⟨some 9, .pick (.tmp 6) (.cst (.bool true)) (.tmp 8), none⟩])
 (.cond (.tmp 9)
 (.seq
 (.reg [⟨some 2, .move (.cst (.sc (.pointer none))), none⟩,
  ⟨some 3, .move (.cst (.int .i64 1)), none⟩])
 (.ret))
 (.skip)))
 (.seq
 (.reg [⟨some 10, .move (.tmp 0), none⟩,
  ⟨some 11, .mkMap, none⟩,
  ⟨some 12, .mkMap, none⟩,
  ⟨some 13, .build [(.int .i64 0), (.sc (.map none)), (.sc (.map none)), .nil, (.int .i64 0)] [(0, 1, (.tmp 10)), (1, 1, (.tmp 11)), (2, 1, (.tmp 12)), (4, 1, (.cst (.int .i64 (-1))))], none⟩,
  ⟨some 14, .box (.tmp 13), none⟩,
  ⟨some 2, .move (.tmp 14), none⟩,
  ⟨some 3, .move (.cst (.int .i64 0)), none⟩])
 (.ret)))⟩
theorem c6 : compF Try.prog gl false [] [] Try.f6 = some F6 := by kernel_rfl
/- tollhouse/tollhouselaw10.lives -/
def F7 : AFn := ⟨65, true, 0, [.tmp 0], .seq
 (.reg [⟨some 0, .move (.cst (.bool false)), none⟩])
 (.seq
 (.reg [⟨some 10, .call (.cst (.func (.func 6) [] [])) [(.cst (.int .i64 100))], none⟩,
  ⟨some 9, .move (.tmp 10), none⟩,
  ⟨some 11, .extract (.tmp 9) 0, none⟩,
  ⟨some 12, .extract (.tmp 9) 1, none⟩,
  ⟨some 1, .move (.tmp 11), none⟩,
  ⟨some 2, .move (.tmp 12), none⟩])
 (.seq
 (.seq
 (.reg [⟨some 13, .move (.tmp 2), none⟩,
  ⟨some 14, .bin .neq (.tmp 13) (.cst (.int .i64 0)), none⟩,
  ⟨some 15, .move (.tmp 14), none⟩,
  ⟨some 16, .move (.tmp 1), some (15, false)⟩,
  ⟨some 17, .eqNil false .ptr (.tmp 16), some (15, false)⟩,
  ⟨some 18, .pick (.tmp 15) (.cst (.bool true)) (.tmp 17), none⟩])
 (.cond (.tmp 18)
 (.seq
 (.reg [⟨some 0, .move (.cst (.bool false)), none⟩])
 (.ret))
 (.skip)))
 (.seq
 (.reg [⟨some 19, .move (.tmp 1), none⟩,
  ⟨some 20, .buildSlice none (.int .u8 0) 2 [(0, (.cst (.int .u8 120))), (1, (.cst (.int .u8 121)))], none⟩,
  ⟨some 21, .move (.tmp 20), none⟩,
  ⟨some 22, .call (.cst (.func (.func 8) [] [])) [(.tmp 19), (.cst (.sc (.string (bs [97])))), (.tmp 21)], none⟩])
 (.seq
 (.reg [⟨some 23, .move (.tmp 1), none⟩,
  ⟨some 24, .buildSlice none (.int .u8 0) 1 [(0, (.cst (.int .u8 122)))], none⟩,
  ⟨some 25, .move (.tmp 24), none⟩,
  ⟨some 26, .call (.cst (.func (.func 8) [] [])) [(.tmp 23), (.cst (.sc (.string (bs [97])))), (.tmp 25)], none⟩])
 (.seq
 (.reg [⟨some 27, .move (.tmp 1), none⟩,
  ⟨some 28, .call (.cst (.func (.func 17) [] [])) [(.tmp 27)], none⟩,
  ⟨some 3, .move (.tmp 28), none⟩])
 (.seq
 (.reg [⟨some 29, .move (.tmp 1), none⟩,
  ⟨some 30, .call (.cst (.func (.func 18) [] [])) [(.tmp 29), (.cst (.int .i64 1)), (.cst (.int .i64 0))], none⟩,
  ⟨some 4, .move (.tmp 30), none⟩])
 (.seq
 (.reg [⟨some 32, .move (.tmp 1), none⟩,
  ⟨some 33, .call (.cst (.func (.func 9) [] [])) [(.tmp 32), (.cst (.sc (.string (bs [97]))))], none⟩,
  ⟨some 31, .move (.tmp 33), none⟩,
  ⟨some 34, .extract (.tmp 31) 0, none⟩,
  ⟨some 35, .extract (.tmp 31) 1, none⟩,
  ⟨some 5, .move (.tmp 34), none⟩,
  ⟨some 6, .move (.tmp 35), none⟩])
 (.seq
 (.reg [⟨some 37, .move (.tmp 1), none⟩,
  ⟨some 38, .call (.cst (.func (.func 9) [] [])) [(.tmp 37), (.cst (.sc (.string (bs [65]))))], none⟩,
  ⟨some 36, .move (.tmp 38), none⟩,
  ⟨some 39, .extract (.tmp 36) 0, none⟩,
  ⟨some 40, .extract (.tmp 36) 1, none⟩,
  ⟨some 7, .move (.tmp 39), none⟩,
  ⟨some 8, .move (.tmp 40), none⟩])
 (.seq
 (.reg [⟨some 41, .move (.tmp 3), none⟩,
  ⟨some 42, .bin .eql (.tmp 41) (.cst (.int .i64 2)), none⟩,
  ⟨some 43, .move (.tmp 42), none⟩,
  ⟨some 44, .move (.tmp 4), some (43, true)⟩,
  ⟨some 45, .bin .eql (.tmp 44) (.cst (.int .i64 0)), some (43, true)⟩,
  ⟨some 46, .pick (.tmp 43) (.tmp 45) (.cst (.bool false)), none⟩,
  ⟨some 47, .move (.tmp 46), none⟩,
  ⟨some 48, .move (.tmp 6), some (47, true)⟩,
  ⟨some 49, .bin .eql (.tmp 48) (.cst (.int .i64 0)), some (47, true)⟩,
  ⟨some 50, .pick (.tmp 47) (.tmp 49) (.cst (.bool false)), none⟩,
  ⟨some 51, .move (.tmp 50), none⟩,
  ⟨some 52, .move (.tmp 8), some (51, true)⟩,
  ⟨some 53, .bin .eql (.tmp 52) (.cst (.int .i64 1)), some (51, true)⟩,
  ⟨some 54, .pick (.tmp 51) (.tmp 53) (.cst (.bool false)), none⟩,
  ⟨some 55, .move (.tmp 54), none⟩,
  ⟨some 56, .move (.tmp 5), some (55, true)⟩,
  ⟨some 57, .convStr (.tmp 56), some (55, true)⟩,
  ⟨some 58, .bin .eql (.tmp 57) (.cst (.sc (.string (bs [120, 121])))), some (55, true)⟩,
  ⟨some 59, .pick (.tmp 55) (.tmp 58) (.cst (.bool false)), none⟩,
  ⟨some 60, .move (.tmp 59), none⟩,
  ⟨some 61, .move (.tmp 1), some (60, true)⟩,
  ⟨some 62, .call (.cst (.func (.func 13) [] [])) [(.tmp 61)], some (60, true)⟩,
  ⟨some 63, .bin .eql (.tmp 62) (.cst (.int .i64 98)), some (60, true)⟩,
  ⟨some 64, .pick (.tmp 60) (.tmp 63) (.cst (.bool false)), none⟩,
  ⟨some 0, .move (.tmp 64), none⟩])
 (.ret))))))))))⟩
theorem c7 : compF Try.prog gl true [] [] Try.f7 = some F7 := by kernel_rfl
/- (*tollhouse/files.Files).Append -/
def F8 : AFn := ⟨55, false, 3, [.tmp 6], .seq
 (.reg [⟨some 4, .boxI (.tmp 1), none⟩,
  ⟨some 6, .move (.cst (.int .i64 0)), none⟩])
 (.seq
 (.seq
 (.reg [⟨some 12, .move (.tmp 0), none⟩,
  ⟨some 13, .load none (.tmp 4), none⟩,
  ⟨some 14, .buildSlice none (.sc (.string (bs []))) 1 [(0, (.tmp 13))], none⟩,
  ⟨some 15, .call (.cst (.func (.func 22) [] [])) [(.tmp 12), (.tmp 14)], none⟩,
  ⟨some 7, .move (.tmp 15), none⟩])
 (.seq
 (.reg [⟨some 16, .move (.tmp 7), none⟩,
  ⟨some 17, .bin .neq (.tmp 16) (.cst (.int .i64 0)), none⟩])
 (.cond (.tmp 17)
 (.seq
 (.reg [⟨some 18, .move (.tmp 7), none⟩,
  ⟨some 6, .move (.tmp 18), none⟩])
 (.ret))
 (.skip))))
 (.seq
 (.seq
 (.regD [⟨some 20, .move (.tmp 0), none⟩,
  ⟨some 21, .nilCheck (.tmp 20), none⟩,
  ⟨some 22, .fieldAddr 2 1 (.tmp 21), none⟩,
  ⟨some 23, .load none (.tmp 22), none⟩,
  ⟨some 24, .load none (.tmp 4), none⟩,
  ⟨some 25, .lookup false [.str] (.agg [.nil, (.int .i64 0)]) true (.tmp 23) (.tmp 24), none⟩,
  ⟨some 19, .move (.tmp 25), none⟩,
  ⟨some 26, .extract (.tmp 19) 0, none⟩,
  ⟨some 27, .extract (.tmp 19) 1, none⟩,
  ⟨some 8, .alloc [.nil, (.int .i64 0)], none⟩,
  ⟨none, .store 2 (.tmp 8) (.tmp 26), none⟩,
  ⟨some 9, .move (.tmp 27), none⟩] [(0, 1), (0, 1), (0, 1), (0, 1), (0, 1), (0, 1), (0, 1), (0, 1), (0, 2), (0, 0), (1, 1), (2, 2)])
 (.seq
 (.reg [⟨some 28, .move (.tmp 9), none⟩,
  ⟨some 29, .un .not (.tmp 28), none⟩,
  ⟨some 30, .move (.tmp 29), none⟩,
  ⟨some 31, .move (.tmp 0), some (30, true)⟩,
  ⟨some 32, .nilCheck (.tmp 31), some (30, true)⟩,
  ⟨some 33, .fieldAddr 2 1 (.tmp 32), some (30, true)⟩,
  ⟨some 34, .load none (.tmp 33), some (30, true)⟩,
  ⟨some 35, .lenM (.tmp 34), some (30, true)⟩,
  ⟨some 36, .bin .geq (.tmp 35) (.cst (.int .i64 16)), some (30, true)⟩,
  ⟨some 37, .pick (.tmp 30) (.tmp 36) (.cst (.bool false)), none⟩,
  ⟨some 38, .move (.tmp 37), none⟩,
  ⟨some 39, .move (.tmp 2), some (38, false)⟩,
  ⟨some 40, .len (.tmp 39), some (38, false)⟩,
  ⟨some 41, .move (.tmp 0), some (38, false)⟩,
  ⟨some 42, .call (.cst (.func (.func 13) [] [])) [(.tmp 41)], some (38, false)⟩,
  ⟨some 43, .bin .gtr (.tmp 40) (.tmp 42), some (38, false)⟩,
  ⟨some 44, .pick (.tmp 38) (.cst (.bool true)) (.tmp 43), none⟩])
 (.cond (.tmp 44)
 (.seq
 (.reg [⟨some 6, .move (.cst (.int .i64 2)), none⟩])
 (.ret))
 (.skip))))
 (.seq
 (.reg [⟨some 45, .move (.tmp 2), none⟩,
  ⟨some 46, .call (.cst (.func (.func 23) [] [])) [(.tmp 45)], none⟩,
  ⟨some 10, .alloc [.nil], none⟩,
  ⟨none, .store 1 (.tmp 10) (.tmp 46), none⟩])
 (.seq
 (.reg [⟨some 47, .makeFunc (.func 24) [] [(.tmp 4), (.tmp 10)], none⟩,
  ⟨some 11, .move (.tmp 47), none⟩])
 (.seq
 (.reg [⟨some 48, .move (.tmp 0), none⟩,
  ⟨some 49, .move (.tmp 11), none⟩,
  ⟨some 50, .load none (.tmp 10), none⟩,
  ⟨some 51, .len (.tmp 50), none⟩,
  ⟨some 52, .load none (.tmp 4), none⟩,
  ⟨some 53, .build [(.sc .nilFunc), (.int .i64 0), (.bool false), (.sc (.string (bs [])))] [(0, 1, (.tmp 49)), (1, 1, (.tmp 51)), (2, 1, (.cst (.bool true))), (3, 1, (.tmp 52))], none⟩,
  ⟨some 54, .call (.cst (.func (.func 26) [] [])) [(.tmp 48), (.tmp 53)], none⟩,
  ⟨some 6, .move (.tmp 54), none⟩])
 (.ret))))))⟩
theorem c8 : compF Try.prog gl false [(4, (some 0))] [] Try.f8 = some F8 := by kernel_rfl
/- (*tollhouse/files.Files).Read -/
def F9 : AFn := ⟨29, false, 2, [.tmp 4, .tmp 5], .seq
 (.reg [⟨some 4, .move (.cst .nil), none⟩,
  ⟨some 5, .move (.cst (.int .i64 0)), none⟩])
 (.seq
 (.seq
 (.reg [⟨some 9, .move (.tmp 0), none⟩,
  ⟨some 10, .move (.tmp 1), none⟩,
  ⟨some 11, .buildSlice none (.sc (.string (bs []))) 1 [(0, (.tmp 10))], none⟩,
  ⟨some 12, .call (.cst (.func (.func 22) [] [])) [(.tmp 9), (.tmp 11)], none⟩,
  ⟨some 6, .move (.tmp 12), none⟩])
 (.seq
 (.reg [⟨some 13, .move (.tmp 6), none⟩,
  ⟨some 14, .bin .neq (.tmp 13) (.cst (.int .i64 0)), none⟩])
 (.cond (.tmp 14)
 (.seq
 (.reg [⟨some 15, .move (.tmp 6), none⟩,
  ⟨some 4, .move (.cst .nil), none⟩,
  ⟨some 5, .move (.tmp 15), none⟩])
 (.ret))
 (.skip))))
 (.seq
 (.reg [⟨some 17, .move (.tmp 0), none⟩,
  ⟨some 18, .nilCheck (.tmp 17), none⟩,
  ⟨some 19, .fieldAddr 2 1 (.tmp 18), none⟩,
  ⟨some 20, .load none (.tmp 19), none⟩,
  ⟨some 21, .move (.tmp 1), none⟩,
  ⟨some 22, .lookup false [.str] (.agg [.nil, (.int .i64 0)]) true (.tmp 20) (.tmp 21), none⟩,
  ⟨some 16, .move (.tmp 22), none⟩,
  ⟨some 23, .extract (.tmp 16) 0, none⟩,
  ⟨some 24, .extract (.tmp 16) 1, none⟩,
  ⟨some 7, .alloc [.nil, (.int .i64 0)], none⟩,
  ⟨none, .store 2 (.tmp 7) (.tmp 23), none⟩,
  ⟨some 8, .move (.tmp 24), none⟩])
 (.seq
 (.seq
 (.reg [⟨some 25, .move (.tmp 8), none⟩,
  ⟨some 26, .un .not (.tmp 25), none⟩])
 (.cond (.tmp 26)
 (.seq
 (.reg [⟨some 4, .move (.cst .nil), none⟩,
  ⟨some 5, .move (.cst (.int .i64 4)), none⟩])
 (.ret))
 (.skip)))
 (.seq
 (.reg [⟨some 27, .load (some 2) (.tmp 7), none⟩,
  ⟨some 28, .call (.cst (.func (.func 27) [] [])) [(.tmp 27)], none⟩,
  ⟨some 4, .move (.tmp 28), none⟩,
  ⟨some 5, .move (.cst (.int .i64 0)), none⟩])
 (.ret)))))⟩
theorem c9 : compF Try.prog gl false [] [] Try.f9 = some F9 := by kernel_rfl
def L10_0 : AC := .seq
 (.seq
 (.reg [⟨some 5, .move (.tmp 3), none⟩,
  ⟨some 6, .move (.tmp 0), none⟩,
  ⟨some 7, .lenT (.tmp 6), none⟩,
  ⟨some 8, .bin .lss (.tmp 5) (.tmp 7), none⟩])
 (.cond (.tmp 8)
 (.skip)
 (.exit 0)))
 (.seq
 (.block 1
 (.seq
 (.reg [⟨some 11, .move (.tmp 0), none⟩,
  ⟨some 12, .move (.tmp 3), none⟩,
  ⟨some 13, .indexStr (.tmp 11) (.tmp 12), none⟩,
  ⟨some 4, .move (.tmp 13), none⟩])
 (.seq
 (.reg [⟨some 14, .move (.tmp 4), none⟩,
  ⟨some 15, .bin .geq (.tmp 14) (.cst (.int .u8 97)), none⟩,
  ⟨some 16, .move (.tmp 15), none⟩,
  ⟨some 17, .move (.tmp 4), some (16, true)⟩,
  ⟨some 18, .bin .leq (.tmp 17) (.cst (.int .u8 122)), some (16, true)⟩,
  ⟨some 19, .pick (.tmp 16) (.tmp 18) (.cst (.bool false)), none⟩,
  ⟨some 20, .move (.tmp 19), none⟩,
  ⟨some 21, .move (.tmp 4), some (20, false)⟩,
  ⟨some 22, .bin .geq (.tmp 21) (.cst (.int .u8 48)), some (20, false)⟩,
  ⟨some 23, .move (.tmp 22), some (20, false)⟩,
  ⟨some 24, .move (.tmp 4), some (23, true)⟩,
  ⟨some 25, .bin .leq (.tmp 24) (.cst (.int .u8 57)), some (23, true)⟩,
  ⟨some 26, .pick (.tmp 23) (.tmp 25) (.cst (.bool false)), some (20, false)⟩,
  ⟨some 27, .pick (.tmp 20) (.cst (.bool true)) (.tmp 26), none⟩,
  ⟨some 28, .move (.tmp 27), none⟩,
  ⟨some 29, .move (.tmp 4), some (28, false)⟩,
  ⟨some 30, .bin .eql (.tmp 29) (.cst (.int .u8 45)), some (28, false)⟩,
  ⟨some 31, .pick (.tmp 28) (.cst (.bool true)) (.tmp 30), none⟩,
  ⟨some 32, .un .not (.tmp 31), none⟩])
 (.cond (.tmp 32)
 (.seq
 (.reg [⟨some 2, .move (.cst (.bool false)), none⟩])
 (.ret))
 (.skip)))))
 (.reg [⟨some 9, .move (.tmp 3), none⟩,
  ⟨some 10, .bin .add (.tmp 9) (.cst (.int .i64 1)), none⟩,
  ⟨some 3, .move (.tmp 10), none⟩]))
/- tollhouse/tollhouseref10.Right -/
def F10 : AFn := ⟨41, true, 1, [.tmp 2], .seq
 (.reg [⟨some 2, .move (.cst (.bool false)), none⟩])
 (.seq
 (.seq
 (.reg [⟨some 3, .move (.cst (.int .i64 0)), none⟩])
 (.block 0
 (.loop [0, 3] true L10_0)))
 (.seq
 (.reg [⟨some 33, .move (.tmp 0), none⟩,
  ⟨some 34, .lenT (.tmp 33), none⟩,
  ⟨some 35, .bin .geq (.tmp 34) (.cst (.int .i64 1)), none⟩,
  ⟨some 36, .move (.tmp 35), none⟩,
  ⟨some 37, .move (.tmp 0), some (36, true)⟩,
  ⟨some 38, .lenT (.tmp 37), some (36, true)⟩,
  ⟨some 39, .bin .leq (.tmp 38) (.cst (.int .i64 32)), some (36, true)⟩,
  ⟨some 40, .pick (.tmp 36) (.tmp 39) (.cst (.bool false)), none⟩,
  ⟨some 2, .move (.tmp 40), none⟩])
 (.ret)))⟩
theorem c10 : compF Try.prog gl true [] [([0, 3], true)] Try.f10 = some F10 := by kernel_rfl
/- (*tollhouse/files.Files).Rename -/
def F11 : AFn := ⟨20, false, 3, [.tmp 6], .seq
 (.reg [⟨some 4, .boxI (.tmp 1), none⟩,
  ⟨some 5, .boxI (.tmp 2), none⟩,
  ⟨some 6, .move (.cst (.int .i64 0)), none⟩])
 (.seq
 (.seq
 (.reg [⟨some 8, .move (.tmp 0), none⟩,
  ⟨some 9, .load none (.tmp 4), none⟩,
  ⟨some 10, .load none (.tmp 5), none⟩,
  ⟨some 11, .buildSlice none (.sc (.string (bs []))) 2 [(0, (.tmp 9)), (1, (.tmp 10))], none⟩,
  ⟨some 12, .call (.cst (.func (.func 22) [] [])) [(.tmp 8), (.tmp 11)], none⟩,
  ⟨some 7, .move (.tmp 12), none⟩])
 (.seq
 (.reg [⟨some 13, .move (.tmp 7), none⟩,
  ⟨some 14, .bin .neq (.tmp 13) (.cst (.int .i64 0)), none⟩])
 (.cond (.tmp 14)
 (.seq
 (.reg [⟨some 15, .move (.tmp 7), none⟩,
  ⟨some 6, .move (.tmp 15), none⟩])
 (.ret))
 (.skip))))
 (.seq
 (.reg [⟨some 16, .move (.tmp 0), none⟩,
  ⟨some 17, .load none (.tmp 4), none⟩,
  ⟨some 18, .makeFunc (.func 29) [] [(.tmp 4), (.tmp 5)], none⟩,
  ⟨some 19, .call (.cst (.func (.func 28) [] [])) [(.tmp 16), (.tmp 17), (.tmp 18)], none⟩,
  ⟨some 6, .move (.tmp 19), none⟩])
 (.ret)))⟩
theorem c11 : compF Try.prog gl false [(4, (some 0)), (5, (some 0))] [] Try.f11 = some F11 := by kernel_rfl
/- (*tollhouse/files.Files).Remove -/
def F12 : AFn := ⟨17, false, 2, [.tmp 4], .seq
 (.reg [⟨some 3, .boxI (.tmp 1), none⟩,
  ⟨some 4, .move (.cst (.int .i64 0)), none⟩])
 (.seq
 (.seq
 (.reg [⟨some 6, .move (.tmp 0), none⟩,
  ⟨some 7, .load none (.tmp 3), none⟩,
  ⟨some 8, .buildSlice none (.sc (.string (bs []))) 1 [(0, (.tmp 7))], none⟩,
  ⟨some 9, .call (.cst (.func (.func 22) [] [])) [(.tmp 6), (.tmp 8)], none⟩,
  ⟨some 5, .move (.tmp 9), none⟩])
 (.seq
 (.reg [⟨some 10, .move (.tmp 5), none⟩,
  ⟨some 11, .bin .neq (.tmp 10) (.cst (.int .i64 0)), none⟩])
 (.cond (.tmp 11)
 (.seq
 (.reg [⟨some 12, .move (.tmp 5), none⟩,
  ⟨some 4, .move (.tmp 12), none⟩])
 (.ret))
 (.skip))))
 (.seq
 (.reg [⟨some 13, .move (.tmp 0), none⟩,
  ⟨some 14, .load none (.tmp 3), none⟩,
  ⟨some 15, .makeFunc (.func 30) [] [(.tmp 3)], none⟩,
  ⟨some 16, .call (.cst (.func (.func 28) [] [])) [(.tmp 13), (.tmp 14), (.tmp 15)], none⟩,
  ⟨some 4, .move (.tmp 16), none⟩])
 (.ret)))⟩
theorem c12 : compF Try.prog gl false [(3, (some 0))] [] Try.f12 = some F12 := by kernel_rfl
/- (*tollhouse/files.Files).Truncate -/
def F14 : AFn := ⟨29, false, 3, [.tmp 6], .seq
 (.reg [⟨some 4, .boxI (.tmp 1), none⟩,
  ⟨some 5, .boxI (.tmp 2), none⟩,
  ⟨some 6, .move (.cst (.int .i64 0)), none⟩])
 (.seq
 (.seq
 (.reg [⟨some 8, .move (.tmp 0), none⟩,
  ⟨some 9, .load none (.tmp 4), none⟩,
  ⟨some 10, .buildSlice none (.sc (.string (bs []))) 1 [(0, (.tmp 9))], none⟩,
  ⟨some 11, .call (.cst (.func (.func 22) [] [])) [(.tmp 8), (.tmp 10)], none⟩,
  ⟨some 7, .move (.tmp 11), none⟩])
 (.seq
 (.reg [⟨some 12, .move (.tmp 7), none⟩,
  ⟨some 13, .bin .eql (.tmp 12) (.cst (.int .i64 6)), none⟩,
  ⟨some 14, .move (.tmp 13), none⟩,
  ⟨some 15, .move (.tmp 7), some (14, false)⟩,
  ⟨some 16, .bin .eql (.tmp 15) (.cst (.int .i64 1)), some (14, false)⟩,
  ⟨some 17, .pick (.tmp 14) (.cst (.bool true)) (.tmp 16), none⟩])
 (.cond (.tmp 17)
 (.seq
 (.reg [⟨some 18, .move (.tmp 7), none⟩,
  ⟨some 6, .move (.tmp 18), none⟩])
 (.ret))
 (.skip))))
 (.seq
 (.block 0
 (.seq
 (.reg [⟨some 20, .load none (.tmp 5), none⟩,
  ⟨some 21, .bin .lss (.tmp 20) (.cst (.int .i64 0)), none⟩,
  ⟨some 19, .move (.tmp 21), none⟩])
 (.cond (.tmp 19)
 (.seq
 (.reg [⟨some 6, .move (.cst (.int .i64 1)), none⟩])
 (.ret))
 (.seq
 (.reg [⟨some 23, .move (.tmp 0), none⟩,
  ⟨some 24, .call (.cst (.func (.func 20) [] [])) [(.tmp 23)], none⟩,
  ⟨some 22, .move (.tmp 24), none⟩])
 (.cond (.tmp 22)
 (.seq
 (.reg [⟨some 6, .move (.cst (.int .i64 100)), none⟩])
 (.ret))
 (.skip))))))
 (.seq
 (.reg [⟨some 25, .move (.tmp 0), none⟩,
  ⟨some 26, .load none (.tmp 4), none⟩,
  ⟨some 27, .makeFunc (.func 32) [] [(.tmp 4), (.tmp 5)], none⟩,
  ⟨some 28, .call (.cst (.func (.func 28) [] [])) [(.tmp 25), (.tmp 26), (.tmp 27)], none⟩,
  ⟨some 6, .move (.tmp 28), none⟩])
 (.ret))))⟩
theorem c14 : compF Try.prog gl false [(4, (some 0)), (5, (some 0))] [] Try.f14 = some F14 := by kernel_rfl
/- (*tollhouse/files.Files).Sync -/
def F15 : AFn := ⟨22, false, 1, [.tmp 2], .seq
 (.reg [⟨some 2, .move (.cst (.int .i64 0)), none⟩])
 (.seq
 (.seq
 (.reg [⟨some 4, .move (.tmp 0), none⟩,
  ⟨some 5, .call (.cst (.func (.func 22) [] [])) [(.tmp 4), (.cst .nil)], none⟩,
  ⟨some 3, .move (.tmp 5), none⟩])
 (.seq
 (.reg [⟨some 6, .move (.tmp 3), none⟩,
  ⟨some 7, .bin .neq (.tmp 6) (.cst (.int .i64 0)), none⟩])
 (.cond (.tmp 7)
 (.seq
 (.reg [⟨some 8, .move (.tmp 3), none⟩,
  ⟨some 2, .move (.tmp 8), none⟩])
 (.ret))
 (.skip))))
 (.seq
 (.reg [⟨some 9, .move (.tmp 0), none⟩,
  ⟨some 10, .move (.tmp 0), none⟩,
  ⟨some 11, .move (.tmp 0), none⟩,
  ⟨some 12, .nilCheck (.tmp 11), none⟩,
  ⟨some 13, .fieldAddr 2 1 (.tmp 12), none⟩,
  ⟨some 14, .load none (.tmp 13), none⟩,
  ⟨some 15, .call (.cst (.func (.func 33) [] [])) [(.tmp 14)], none⟩,
  ⟨some 16, .nilCheck (.tmp 9), none⟩,
  ⟨some 17, .fieldAddr 1 1 (.tmp 16), none⟩,
  ⟨none, .store 1 (.tmp 17) (.tmp 15), none⟩,
  ⟨some 18, .nilCheck (.tmp 10), none⟩,
  ⟨some 19, .fieldAddr 3 1 (.tmp 18), none⟩,
  ⟨none, .store 1 (.tmp 19) (.cst .nil), none⟩])
 (.seq
 (.reg [⟨some 20, .move (.tmp 0), none⟩,
  ⟨some 21, .call (.cst (.func (.func 34) [] [])) [(.tmp 20)], none⟩,
  ⟨some 2, .move (.tmp 21), none⟩])
 (.ret))))⟩
theorem c15 : compF Try.prog gl false [] [] Try.f15 = some F15 := by kernel_rfl
def L16_0 : AC := .seq
 (.reg [⟨some 17, .bin .lss (.tmp 16) (.tmp 15), none⟩])
 (.seq
 (.cond (.tmp 17)
 (.skip)
 (.exit 0))
 (.seq
 (.block 1
 (.seq
 (.reg [⟨some 18, .indexAddr .slice none (.tmp 14) (.tmp 16), none⟩,
  ⟨some 19, .load none (.tmp 18), none⟩,
  ⟨some 5, .move (.tmp 19), none⟩])
 (.reg [⟨some 20, .move (.tmp 3), none⟩,
  ⟨some 21, .move (.tmp 5), none⟩,
  ⟨some 22, .move (.tmp 0), none⟩,
  ⟨some 23, .nilCheck (.tmp 22), none⟩,
  ⟨some 24, .fieldAddr 2 1 (.tmp 23), none⟩,
  ⟨some 25, .load none (.tmp 24), none⟩,
  ⟨some 26, .move (.tmp 5), none⟩,
  ⟨some 27, .lookup false [.str] (.agg [.nil, (.int .i64 0)]) false (.tmp 25) (.tmp 26), none⟩,
  ⟨some 28, .call (.cst (.func (.func 27) [] [])) [(.tmp 27)], none⟩,
  ⟨some 29, .build [(.sc (.string (bs []))), .nil] [(0, 1, (.tmp 21)), (1, 1, (.tmp 28))], none⟩,
  ⟨some 30, .buildSlice (some 2) (.agg [(.sc (.string (bs []))), .nil]) 1 [(0, (.tmp 29))], none⟩,
  ⟨some 31, .append (some 2) 40 (.tmp 20) (.tmp 30), none⟩,
  ⟨some 3, .move (.tmp 31), none⟩])))
 (.reg [⟨some 32, .bin .add (.tmp 16) (.cst (.int .i64 1)), none⟩,
  ⟨some 16, .move (.tmp 32), none⟩])))
/- (*tollhouse/files.Files).List -/
def F16 : AFn := ⟨34, false, 1, [.tmp 2], .seq
 (.reg [⟨some 2, .move (.cst .nil), none⟩])
 (.seq
 (.seq
 (.reg [⟨some 6, .move (.tmp 0), none⟩,
  ⟨some 7, .call (.cst (.func (.func 31) [] [])) [(.tmp 6)], none⟩,
  ⟨some 8, .un .not (.tmp 7), none⟩])
 (.cond (.tmp 8)
 (.seq
 (.reg [⟨some 2, .move (.cst .nil), none⟩])
 (.ret))
 (.skip)))
 (.seq
 (.reg [⟨some 3, .acc (some 2) (.cst .nil), none⟩])
 (.seq
 (.seq
 (.reg [⟨some 9, .move (.tmp 0), none⟩,
  ⟨some 10, .nilCheck (.tmp 9), none⟩,
  ⟨some 11, .fieldAddr 2 1 (.tmp 10), none⟩,
  ⟨some 12, .load none (.tmp 11), none⟩,
  ⟨some 13, .call (.cst (.func (.func 36) [] [])) [(.tmp 12)], none⟩,
  ⟨some 14, .call (.cst (.func (.func 35) [] [])) [(.tmp 13)], none⟩,
  ⟨some 15, .len (.tmp 14), none⟩,
  ⟨some 16, .move (.cst (.int .i64 0)), none⟩])
 (.block 0
 (.loop [0, 3, 14, 15, 16] false L16_0)))
 (.seq
 (.reg [⟨some 33, .move (.tmp 3), none⟩,
  ⟨some 2, .move (.tmp 33), none⟩])
 (.ret)))))⟩
theorem c16 : compF Try.prog gl false [(3, (some 2))] [([0, 3, 14, 15, 16], false)] Try.f16 = some F16 := by kernel_rfl
/- (*tollhouse/files.Files).Unsure -/
def F17 : AFn := ⟨11, false, 1, [.tmp 2], .seq
 (.reg [⟨some 2, .move (.cst (.int .i64 0)), none⟩])
 (.seq
 (.seq
 (.reg [⟨some 3, .move (.tmp 0), none⟩,
  ⟨some 4, .call (.cst (.func (.func 31) [] [])) [(.tmp 3)], none⟩,
  ⟨some 5, .un .not (.tmp 4), none⟩])
 (.cond (.tmp 5)
 (.seq
 (.reg [⟨some 2, .move (.cst (.int .i64 0)), none⟩])
 (.ret))
 (.skip)))
 (.seq
 (.reg [⟨some 6, .move (.tmp 0), none⟩,
  ⟨some 7, .nilCheck (.tmp 6), none⟩,
  ⟨some 8, .fieldAddr 3 1 (.tmp 7), none⟩,
  ⟨some 9, .load none (.tmp 8), none⟩,
  ⟨some 10, .len (.tmp 9), none⟩,
  ⟨some 2, .move (.tmp 10), none⟩])
 (.ret)))⟩
theorem c17 : compF Try.prog gl false [] [] Try.f17 = some F17 := by kernel_rfl
def L18_0 : AC := .seq
 (.reg [⟨some 45, .bin .lss (.tmp 44) (.tmp 43), none⟩])
 (.seq
 (.cond (.tmp 45)
 (.skip)
 (.exit 1))
 (.seq
 (.block 2
 (.seq
 (.reg [⟨some 46, .indexAddr .slice (some 4) (.tmp 42) (.tmp 44), none⟩,
  ⟨some 47, .load (some 4) (.tmp 46), none⟩,
  ⟨some 9, .alloc [(.sc .nilFunc), (.int .i64 0), (.bool false), (.sc (.string (bs [])))], none⟩,
  ⟨none, .store 4 (.tmp 9) (.tmp 47), none⟩])
 (.reg [⟨some 48, .fieldAddr 0 1 (.tmp 9), none⟩,
  ⟨some 49, .load none (.tmp 48), none⟩,
  ⟨some 50, .move (.tmp 7), none⟩,
  ⟨some 51, .fieldAddr 1 1 (.tmp 9), none⟩,
  ⟨some 52, .load none (.tmp 51), none⟩,
  ⟨some 53, .call (.tmp 49) [(.tmp 50), (.tmp 52)], none⟩])))
 (.reg [⟨some 54, .bin .add (.tmp 44) (.cst (.int .i64 1)), none⟩,
  ⟨some 44, .move (.tmp 54), none⟩])))
/- (*tollhouse/files.Files).Crash -/
def F18 : AFn := ⟨114, false, 3, [.tmp 6], .seq
 (.reg [⟨some 6, .move (.cst (.int .i64 0)), none⟩])
 (.seq
 (.block 0
 (.seq
 (.reg [⟨some 14, .move (.tmp 0), none⟩,
  ⟨some 15, .call (.cst (.func (.func 31) [] [])) [(.tmp 14)], none⟩,
  ⟨some 16, .un .not (.tmp 15), none⟩,
  ⟨some 13, .move (.tmp 16), none⟩])
 (.cond (.tmp 13)
 (.seq
 (.reg [⟨some 6, .move (.cst (.int .i64 6)), none⟩])
 (.ret))
 (.seq
 (.reg [⟨some 18, .move (.tmp 1), none⟩,
  ⟨some 19, .bin .lss (.tmp 18) (.cst (.int .i64 0)), none⟩,
  ⟨some 20, .move (.tmp 19), none⟩,
  ⟨some 21, .move (.tmp 1), some (20, false)⟩,
  ⟨some 22, .move (.tmp 0), some (20, false)⟩,
  ⟨some 23, .nilCheck (.tmp 22), some (20, false)⟩,
  ⟨some 24, .fieldAddr 3 1 (.tmp 23), some (20, false)⟩,
  ⟨some 25, .load none (.tmp 24), some (20, false)⟩,
  ⟨some 26, .len (.tmp 25), some (20, false)⟩,
  ⟨some 27, .bin .gtr (.tmp 21) (.tmp 26), some (20, false)⟩,
  ⟨some 28, .pick (.tmp 20) (.cst (.bool true)) (.tmp 27), none⟩,
  ⟨some 29, .move (.tmp 28), none⟩,
  ⟨some 30, .move (.tmp 2), some (29, false)⟩,
  ⟨some 31, .bin .lss (.tmp 30) (.cst (.int .i64 0)), some (29, false)⟩,
  ⟨some 32, .pick (.tmp 29) (.cst (.bool true)) (.tmp 31), none⟩,
  ⟨some 17, .move (.tmp 32), none⟩])
 (.cond (.tmp 17)
 (.seq
 (.reg [⟨some 6, .move (.cst (.int .i64 1)), none⟩])
 (.ret))
 (.skip))))))
 (.seq
 (.reg [⟨some 33, .move (.tmp 0), none⟩,
  ⟨some 34, .nilCheck (.tmp 33), none⟩,
  ⟨some 35, .fieldAddr 1 1 (.tmp 34), none⟩,
  ⟨some 36, .load none (.tmp 35), none⟩,
  ⟨some 7, .move (.tmp 36), none⟩])
 (.seq
 (.seq
 (.reg [⟨some 37, .move (.tmp 0), none⟩,
  ⟨some 38, .nilCheck (.tmp 37), none⟩,
  ⟨some 39, .fieldAddr 3 1 (.tmp 38), none⟩,
  ⟨some 40, .load none (.tmp 39), none⟩,
  ⟨some 41, .move (.tmp 1), none⟩,
  ⟨some 42, .slice .slice (some 4) (.tmp 40) none (some (.tmp 41)) none, none⟩,
  ⟨some 43, .len (.tmp 42), none⟩,
  ⟨some 44, .move (.cst (.int .i64 0)), none⟩])
 (.block 1
 (.loop [0, 1, 2, 7, 42, 43, 44] false L18_0)))
 (.seq
 (.seq
 (.reg [⟨some 55, .move (.tmp 1), none⟩,
  ⟨some 56, .move (.tmp 0), none⟩,
  ⟨some 57, .nilCheck (.tmp 56), none⟩,
  ⟨some 58, .fieldAddr 3 1 (.tmp 57), none⟩,
  ⟨some 59, .load none (.tmp 58), none⟩,
  ⟨some 60, .len (.tmp 59), none⟩,
  ⟨some 61, .bin .lss (.tmp 55) (.tmp 60), none⟩,
  ⟨some 62, .move (.tmp 61), none⟩,
  ⟨some 63, .move (.tmp 0), some (62, true)⟩,
  ⟨some 64, .nilCheck (.tmp 63), some (62, true)⟩,
  ⟨some 65, .fieldAddr 3 1 (.tmp 64), some (62, true)⟩,
  ⟨some 66, .load none (.tmp 65), some (62, true)⟩,
  ⟨some 67, .move (.tmp 1), some (62, true)⟩,
  ⟨some 68, .indexAddr .slice (some 4) (.tmp 66) (.tmp 67), some (62, true)⟩,
  ⟨some 69, .fieldAddr 2 1 (.tmp 68), some (62, true)⟩,
  ⟨some 70, .load none (.tmp 69), some (62, true)⟩,
  ⟨some 71, .pick (.tmp 62) (.tmp 70) (.cst (.bool false)), none⟩])
 (.cond (.tmp 71)
 (.seq
 (.reg [⟨some 72, .move (.tmp 0), none⟩,
  ⟨some 73, .nilCheck (.tmp 72), none⟩,
  ⟨some 74, .fieldAddr 3 1 (.tmp 73), none⟩,
  ⟨some 75, .load none (.tmp 74), none⟩,
  ⟨some 76, .move (.tmp 1), none⟩,
  ⟨some 77, .indexAddr .slice (some 4) (.tmp 75) (.tmp 76), none⟩,
  ⟨some 78, .load (some 4) (.tmp 77), none⟩,
  ⟨some 10, .alloc [(.sc .nilFunc), (.int .i64 0), (.bool false), (.sc (.string (bs [])))], none⟩,
  ⟨none, .store 4 (.tmp 10) (.tmp 78), none⟩])
 (.seq
 (.reg [⟨some 80, .move (.tmp 7), none⟩,
  ⟨some 81, .fieldAddr 3 1 (.tmp 10), none⟩,
  ⟨some 82, .load none (.tmp 81), none⟩,
  ⟨some 83, .lookup false [.str] (.agg [.nil, (.int .i64 0)]) true (.tmp 80) (.tmp 82), none⟩,
  ⟨some 79, .move (.tmp 83), none⟩,
  ⟨some 84, .extract (.tmp 79) 0, none⟩,
  ⟨some 85, .extract (.tmp 79) 1, none⟩,
  ⟨some 11, .alloc [.nil, (.int .i64 0)], none⟩,
  ⟨none, .store 2 (.tmp 11) (.tmp 84), none⟩,
  ⟨some 12, .move (.tmp 85), none⟩])
 (.seq
 (.reg [⟨some 86, .move (.tmp 12), none⟩,
  ⟨some 87, .move (.tmp 86), none⟩,
  ⟨some 88, .move (.tmp 2), some (87, false)⟩,
  ⟨some 89, .bin .gtr (.tmp 88) (.cst (.int .i64 0)), some (87, false)⟩,
  ⟨some 90, .pick (.tmp 87) (.cst (.bool true)) (.tmp 89), none⟩])
 (.cond (.tmp 90)
 (.reg [⟨some 91, .fieldAddr 0 1 (.tmp 10), none⟩,
  ⟨some 92, .load none (.tmp 91), none⟩,
  ⟨some 93, .move (.tmp 7), none⟩,
  ⟨some 94, .move (.tmp 2), none⟩,
  ⟨some 95, .fieldAddr 1 1 (.tmp 10), none⟩,
  ⟨some 96, .load none (.tmp 95), none⟩,
  ⟨some 97, .minmax false (.tmp 94) (.tmp 96), none⟩,
  ⟨some 98, .call (.tmp 92) [(.tmp 93), (.tmp 97)], none⟩])
 (.skip)))))
 (.skip)))
 (.seq
 (.reg [⟨some 99, .move (.tmp 0), none⟩,
  ⟨some 100, .move (.tmp 0), none⟩,
  ⟨some 101, .move (.tmp 0), none⟩,
  ⟨some 102, .move (.tmp 0), none⟩,
  ⟨some 103, .move (.tmp 7), none⟩,
  ⟨some 104, .move (.tmp 7), none⟩,
  ⟨some 105, .call (.cst (.func (.func 33) [] [])) [(.tmp 104)], none⟩,
  ⟨some 106, .nilCheck (.tmp 99), none⟩,
  ⟨some 107, .fieldAddr 1 1 (.tmp 106), none⟩,
  ⟨none, .store 1 (.tmp 107) (.tmp 103), none⟩,
  ⟨some 108, .nilCheck (.tmp 100), none⟩,
  ⟨some 109, .fieldAddr 2 1 (.tmp 108), none⟩,
  ⟨none, .store 1 (.tmp 109) (.tmp 105), none⟩,
  ⟨some 110, .nilCheck (.tmp 101), none⟩,
  ⟨some 111, .fieldAddr 3 1 (.tmp 110), none⟩,
  ⟨none, .store 1 (.tmp 111) (.cst .nil), none⟩,
  ⟨some 112, .nilCheck (.tmp 102), none⟩,
  ⟨some 113, .fieldAddr 4 1 (.tmp 112), none⟩,
  ⟨none, .store 1 (.tmp 113) (.cst (.int .i64 (-1))), none⟩])
 (.seq
 (.reg [⟨some 6, .move (.cst (.int .i64 0)), none⟩])
 (.ret)))))))⟩
theorem c18 : compF Try.prog gl false [] [([0, 1, 2, 7, 42, 43, 44], false)] Try.f18 = some F18 := by kernel_rfl
/- (*tollhouse/files.Files).Stop -/
def F19 : AFn := ⟨16, false, 2, [], .seq
 (.reg [⟨some 4, .move (.tmp 0), none⟩,
  ⟨some 5, .call (.cst (.func (.func 31) [] [])) [(.tmp 4)], none⟩,
  ⟨some 6, .move (.tmp 5), none⟩,
  ⟨some 7, .move (.tmp 0), some (6, true)⟩,
  ⟨some 8, .call (.cst (.func (.func 20) [] [])) [(.tmp 7)], some (6, true)⟩,
  ⟨some 9, .un .not (.tmp 8), some (6, true)⟩,
  ⟨some 10, .pick (.tmp 6) (.tmp 9) (.cst (.bool false)), none⟩])
 (.cond (.tmp 10)
 (.reg [⟨some 11, .move (.tmp 0), none⟩,
  ⟨some 12, .move (.tmp 1), none⟩,
  ⟨some 13, .minmax true (.tmp 12) (.cst (.int .i64 (-1))), none⟩,
  ⟨some 14, .nilCheck (.tmp 11), none⟩,
  ⟨some 15, .fieldAddr 4 1 (.tmp 14), none⟩,
  ⟨none, .store 1 (.tmp 15) (.tmp 13), none⟩])
 (.skip))⟩
theorem c19 : compF Try.prog gl false [] [] Try.f19 = some F19 := by kernel_rfl
/- (*tollhouse/files.Files).Off -/
def F20 : AFn := ⟨12, false, 1, [.tmp 2], .seq
 (.reg [⟨some 2, .move (.cst (.bool false)), none⟩])
 (.seq
 (.reg [⟨some 3, .move (.tmp 0), none⟩,
  ⟨some 4, .call (.cst (.func (.func 31) [] [])) [(.tmp 3)], none⟩,
  ⟨some 5, .move (.tmp 4), none⟩,
  ⟨some 6, .move (.tmp 0), some (5, true)⟩,
  ⟨some 7, .nilCheck (.tmp 6), some (5, true)⟩,
  ⟨some 8, .fieldAddr 4 1 (.tmp 7), some (5, true)⟩,
  ⟨some 9, .load none (.tmp 8), some (5, true)⟩,
  ⟨some 10, .bin .eql (.tmp 9) (.cst (.int .i64 0)), some (5, true)⟩,
  ⟨some 11, .pick (.tmp 5) (.tmp 10) (.cst (.bool false)), none⟩,
  ⟨some 2, .move (.tmp 11), none⟩])
 (.ret))⟩
theorem c20 : compF Try.prog gl false [] [] Try.f20 = some F20 := by kernel_rfl
/- (*tollhouse/files.Files).Fork -/
def F21 : AFn := ⟨31, false, 1, [.tmp 2], .seq
 (.reg [⟨some 2, .move (.cst (.sc (.pointer none))), none⟩])
 (.seq
 (.seq
 (.reg [⟨some 3, .move (.tmp 0), none⟩,
  ⟨some 4, .call (.cst (.func (.func 31) [] [])) [(.tmp 3)], none⟩,
  ⟨some 5, .un .not (.tmp 4), none⟩])
 (.cond (.tmp 5)
 (.seq
 (.reg [⟨some 2, .move (.cst (.sc (.pointer none))), none⟩])
 (.ret))
 (.skip)))
 (.seq
 (.regD [⟨some 6, .move (.tmp 0), none⟩,
  ⟨some 7, .nilCheck (.tmp 6), none⟩,
  ⟨some 8, .fieldAddr 0 1 (.tmp 7), none⟩,
  ⟨some 9, .load none (.tmp 8), none⟩,
  ⟨some 10, .move (.tmp 0), none⟩,
  ⟨some 11, .nilCheck (.tmp 10), none⟩,
  ⟨some 12, .fieldAddr 1 1 (.tmp 11), none⟩,
  ⟨some 13, .load none (.tmp 12), none⟩,
  ⟨some 14, .call (.cst (.func (.func 33) [] [])) [(.tmp 13)], none⟩,
  ⟨some 15, .move (.tmp 0), none⟩,
  ⟨some 16, .nilCheck (.tmp 15), none⟩,
  ⟨some 17, .fieldAddr 2 1 (.tmp 16), none⟩,
  ⟨some 18, .load none (.tmp 17), none⟩,
  ⟨some 19, .call (.cst (.func (.func 33) [] [])) [(.tmp 18)], none⟩,
  ⟨some 20, .move (.tmp 0), none⟩,
  ⟨some 21, .nilCheck (.tmp 20), none⟩,
  ⟨some 22, .fieldAddr 3 1 (.tmp 21), none⟩,
  ⟨some 23, .load none (.tmp 22), none⟩,
  ⟨some 24, .call (.cst (.func (.func 37) [] [])) [(.tmp 23)], none⟩,
  ⟨some 25, .move (.tmp 0), none⟩,
  ⟨some 26, .nilCheck (.tmp 25), none⟩,
  ⟨some 27, .fieldAddr 4 1 (.tmp 26), none⟩,
  ⟨some 28, .load none (.tmp 27), none⟩,
  ⟨some 29, .build [(.int .i64 0), (.sc (.map none)), (.sc (.map none)), .nil, (.int .i64 0)] [(0, 1, (.tmp 9)), (1, 1, (.tmp 14)), (2, 1, (.tmp 19)), (3, 1, (.tmp 24)), (4, 1, (.tmp 28))], none⟩,
  ⟨some 30, .box (.tmp 29), none⟩,
  ⟨some 2, .move (.tmp 30), none⟩] [(0, 3), (0, 3), (0, 3), (0, 3), (0, 0), (0, 0), (0, 0), (0, 0), (0, 0), (0, 1), (0, 1), (0, 1), (0, 1), (1, 1), (0, 2), (0, 2), (0, 2), (0, 2), (2, 2), (0, 3), (0, 3), (0, 3), (0, 3), (3, 3), (3, 3), (4, 4)])
 (.ret)))⟩
theorem c21 : compF Try.prog gl false [] [] Try.f21 = some F21 := by kernel_rfl
/- (*tollhouse/files.Files).may -/
def F22 : AFn := ⟨15, false, 2, [.tmp 4], .seq
 (.reg [⟨some 4, .move (.cst (.int .i64 0)), none⟩])
 (.seq
 (.block 0
 (.seq
 (.reg [⟨some 6, .move (.tmp 0), none⟩,
  ⟨some 7, .call (.cst (.func (.func 31) [] [])) [(.tmp 6)], none⟩,
  ⟨some 8, .un .not (.tmp 7), none⟩,
  ⟨some 5, .move (.tmp 8), none⟩])
 (.cond (.tmp 5)
 (.seq
 (.reg [⟨some 4, .move (.cst (.int .i64 6)), none⟩])
 (.ret))
 (.seq
 (.reg [⟨some 10, .move (.tmp 1), none⟩,
  ⟨some 11, .call (.cst (.func (.func 38) [] [])) [(.tmp 10), (.cst (.func (.func 39) [] []))], none⟩,
  ⟨some 9, .move (.tmp 11), none⟩])
 (.cond (.tmp 9)
 (.seq
 (.reg [⟨some 4, .move (.cst (.int .i64 1)), none⟩])
 (.ret))
 (.seq
 (.reg [⟨some 13, .move (.tmp 0), none⟩,
  ⟨some 14, .call (.cst (.func (.func 20) [] [])) [(.tmp 13)], none⟩,
  ⟨some 12, .move (.tmp 14), none⟩])
 (.cond (.tmp 12)
 (.seq
 (.reg [⟨some 4, .move (.cst (.int .i64 100)), none⟩])
 (.ret))
 (.skip))))))))
 (.seq
 (.reg [⟨some 4, .move (.cst (.int .i64 0)), none⟩])
 (.ret)))⟩
theorem c22 : compF Try.prog gl false [] [] Try.f22 = some F22 := by kernel_rfl
/- slices.Clone[[]byte,byte] -/
def F23 : AFn := ⟨8, true, 1, [.tmp 2], .seq
 (.reg [⟨some 2, .move (.cst .nil), none⟩])
 (.seq
 (.seq
 (.reg [⟨some 3, .move (.tmp 0), none⟩,
  ⟨some 4, .eqNil false .slice (.tmp 3), none⟩])
 (.cond (.tmp 4)
 (.seq
 (.reg [⟨some 2, .move (.cst .nil), none⟩])
 (.ret))
 (.skip)))
 (.seq
 (.reg [⟨some 5, .buildSlice none (.int .u8 0) 0 [], none⟩,
  ⟨some 6, .move (.tmp 0), none⟩,
  ⟨some 7, .append none 1 (.tmp 5) (.tmp 6), none⟩,
  ⟨some 2, .move (.tmp 7), none⟩])
 (.ret)))⟩
theorem c23 : compF Try.prog gl true [] [] Try.f23 = some F23 := by kernel_rfl
/- (*tollhouse/files.Files).Append$1 -/
def F24 : AFn := ⟨15, false, 4, [], .regD [⟨some 6, .move (.tmp 0), none⟩,
  ⟨some 7, .load none (.tmp 2), none⟩,
  ⟨some 8, .move (.tmp 0), none⟩,
  ⟨some 9, .load none (.tmp 2), none⟩,
  ⟨some 10, .lookup false [.str] (.agg [.nil, (.int .i64 0)]) false (.tmp 8) (.tmp 9), none⟩,
  ⟨some 11, .load none (.tmp 3), none⟩,
  ⟨some 12, .move (.tmp 1), none⟩,
  ⟨some 13, .slice .slice none (.tmp 11) none (some (.tmp 12)) none, none⟩,
  ⟨some 14, .call (.cst (.func (.func 25) [] [])) [(.tmp 10), (.tmp 13)], none⟩,
  ⟨none, .mapSet false [.str] (.tmp 6) (.tmp 7) (.tmp 14), none⟩] [(0, 1), (0, 1), (0, 0), (0, 0), (0, 0), (0, 0), (0, 0), (0, 0), (0, 0), (1, 1)]⟩
theorem c24 : compF Try.prog gl false [] [] Try.f24 = some F24 := by kernel_rfl
/- (tollhouse/files.file).with -/
def F25 : AFn := ⟨17, true, 2, [.cell 4 (some 2)], .seq
 (.reg [⟨some 2, .box (.tmp 0), none⟩,
  ⟨some 4, .alloc [.nil, (.int .i64 0)], none⟩])
 (.seq
 (.regD [⟨some 5, .fieldAddr 0 1 (.tmp 2), none⟩,
  ⟨some 6, .load none (.tmp 5), none⟩,
  ⟨some 7, .call (.cst (.func (.func 41) [] [])) [(.tmp 6)], none⟩,
  ⟨some 8, .move (.tmp 1), none⟩,
  ⟨some 9, .buildSlice none .nil 1 [(0, (.tmp 8))], none⟩,
  ⟨some 10, .append none 24 (.tmp 7) (.tmp 9), none⟩,
  ⟨some 11, .fieldAddr 1 1 (.tmp 2), none⟩,
  ⟨some 12, .load none (.tmp 11), none⟩,
  ⟨some 13, .move (.tmp 1), none⟩,
  ⟨some 14, .len (.tmp 13), none⟩,
  ⟨some 15, .bin .add (.tmp 12) (.tmp 14), none⟩,
  ⟨some 16, .build [.nil, (.int .i64 0)] [(0, 1, (.tmp 10)), (1, 1, (.tmp 15))], none⟩,
  ⟨none, .store 2 (.tmp 4) (.tmp 16), none⟩] [(0, 0), (0, 0), (0, 0), (0, 1), (0, 1), (1, 1), (0, 2), (0, 2), (0, 2), (0, 2), (0, 2), (2, 2), (2, 2)])
 (.ret))⟩
theorem c25 : compF Try.prog gl true [] [] Try.f25 = some F25 := by kernel_rfl
/- (*tollhouse/files.Files).does -/
def F26 : AFn := ⟨26, false, 2, [.tmp 4], .seq
 (.reg [⟨some 3, .boxI (.tmp 1), none⟩,
  ⟨some 4, .move (.cst (.int .i64 0)), none⟩])
 (.seq
 (.regD [⟨some 5, .move (.tmp 0), none⟩,
  ⟨some 6, .move (.tmp 0), none⟩,
  ⟨some 7, .nilCheck (.tmp 6), none⟩,
  ⟨some 8, .fieldAddr 3 1 (.tmp 7), none⟩,
  ⟨some 9, .load none (.tmp 8), none⟩,
  ⟨some 10, .load (some 4) (.tmp 3), none⟩,
  ⟨some 11, .buildSlice (some 4) (.agg [(.sc .nilFunc), (.int .i64 0), (.bool false), (.sc (.string (bs [])))]) 1 [(0, (.tmp 10))], none⟩,
  ⟨some 12, .append (some 4) 40 (.tmp 9) (.tmp 11), none⟩,
  ⟨some 13, .nilCheck (.tmp 5), none⟩,
  ⟨some 14, .fieldAddr 3 1 (.tmp 13), none⟩,
  ⟨none, .store 1 (.tmp 14) (.tmp 12), none⟩] [(0, 1), (0, 0), (0, 0), (0, 0), (0, 0), (0, 0), (0, 0), (0, 0), (1, 1), (1, 1), (1, 1)])
 (.seq
 (.regD [⟨some 15, .fieldAddr 0 1 (.tmp 3), none⟩,
  ⟨some 16, .load none (.tmp 15), none⟩,
  ⟨some 17, .move (.tmp 0), none⟩,
  ⟨some 18, .nilCheck (.tmp 17), none⟩,
  ⟨some 19, .fieldAddr 2 1 (.tmp 18), none⟩,
  ⟨some 20, .load none (.tmp 19), none⟩,
  ⟨some 21, .fieldAddr 1 1 (.tmp 3), none⟩,
  ⟨some 22, .load none (.tmp 21), none⟩,
  ⟨some 23, .call (.tmp 16) [(.tmp 20), (.tmp 22)], none⟩] [(0, 0), (0, 0), (0, 0), (0, 0), (0, 0), (0, 0), (0, 0), (0, 0), (0, 0)])
 (.seq
 (.reg [⟨some 24, .move (.tmp 0), none⟩,
  ⟨some 25, .call (.cst (.func (.func 34) [] [])) [(.tmp 24)], none⟩,
  ⟨some 4, .move (.tmp 25), none⟩])
 (.ret))))⟩
theorem c26 : compF Try.prog gl false [(3, (some 0))] [] Try.f26 = some F26 := by kernel_rfl
/- (tollhouse/files.file).bytes -/
def F27 : AFn := ⟨6, true, 1, [.tmp 2], .seq
 (.reg [⟨some 1, .box (.tmp 0), none⟩,
  ⟨some 2, .move (.cst .nil), none⟩])
 (.seq
 (.reg [⟨some 3, .fieldAddr 0 1 (.tmp 1), none⟩,
  ⟨some 4, .load none (.tmp 3), none⟩,
  ⟨some 5, .call (.cst (.func (.func 42) [] [])) [(.tmp 4)], none⟩,
  ⟨some 2, .move (.tmp 5), none⟩])
 (.ret))⟩
theorem c27 : compF Try.prog gl true [] [] Try.f27 = some F27 := by kernel_rfl
/- (*tollhouse/files.Files).change -/
def F28 : AFn := ⟨24, false, 3, [.tmp 6], .seq
 (.reg [⟨some 5, .boxI (.tmp 2), none⟩,
  ⟨some 6, .move (.cst (.int .i64 0)), none⟩])
 (.seq
 (.seq
 (.reg [⟨some 10, .move (.tmp 0), none⟩,
  ⟨some 11, .nilCheck (.tmp 10), none⟩,
  ⟨some 12, .fieldAddr 2 1 (.tmp 11), none⟩,
  ⟨some 13, .load none (.tmp 12), none⟩,
  ⟨some 14, .move (.tmp 1), none⟩,
  ⟨some 15, .lookup false [.str] (.agg [.nil, (.int .i64 0)]) true (.tmp 13) (.tmp 14), none⟩,
  ⟨some 9, .move (.tmp 15), none⟩,
  ⟨some 16, .extract (.tmp 9) 0, none⟩,
  ⟨some 17, .extract (.tmp 9) 1, none⟩,
  ⟨some 7, .alloc [.nil, (.int .i64 0)], none⟩,
  ⟨none, .store 2 (.tmp 7) (.tmp 16), none⟩,
  ⟨some 8, .move (.tmp 17), none⟩])
 (.seq
 (.reg [⟨some 18, .move (.tmp 8), none⟩,
  ⟨some 19, .un .not (.tmp 18), none⟩])
 (.cond (.tmp 19)
 (.seq
 (.reg [⟨some 6, .move (.cst (.int .i64 4)), none⟩])
 (.ret))
 (.skip))))
 (.seq
 (.reg [⟨some 20, .move (.tmp 0), none⟩,
  ⟨some 21, .makeFunc (.func 43) [] [(.tmp 5)], none⟩,
  ⟨some 22, .build [(.sc .nilFunc), (.int .i64 0), (.bool false), (.sc (.string (bs [])))] [(0, 1, (.tmp 21))], none⟩,
  ⟨some 23, .call (.cst (.func (.func 26) [] [])) [(.tmp 20), (.tmp 22)], none⟩,
  ⟨some 6, .move (.tmp 23), none⟩])
 (.ret)))⟩
theorem c28 : compF Try.prog gl false [(5, (some 0))] [] Try.f28 = some F28 := by kernel_rfl
/- (*tollhouse/files.Files).Rename$1 -/
def F29 : AFn := ⟨13, false, 3, [], .seq
 (.reg [⟨some 5, .move (.tmp 0), none⟩,
  ⟨some 6, .load none (.tmp 1), none⟩,
  ⟨some 7, .lookup false [.str] (.agg [.nil, (.int .i64 0)]) false (.tmp 5) (.tmp 6), none⟩,
  ⟨some 4, .alloc [.nil, (.int .i64 0)], none⟩,
  ⟨none, .store 2 (.tmp 4) (.tmp 7), none⟩])
 (.seq
 (.reg [⟨some 8, .move (.tmp 0), none⟩,
  ⟨some 9, .load none (.tmp 1), none⟩,
  ⟨none, .mapDel false [.str] (.tmp 8) (.tmp 9), none⟩])
 (.reg [⟨some 10, .move (.tmp 0), none⟩,
  ⟨some 11, .load none (.tmp 2), none⟩,
  ⟨some 12, .load (some 2) (.tmp 4), none⟩,
  ⟨none, .mapSet false [.str] (.tmp 10) (.tmp 11) (.tmp 12), none⟩]))⟩
theorem c29 : compF Try.prog gl false [] [] Try.f29 = some F29 := by kernel_rfl
/- (*tollhouse/files.Files).Remove$1 -/
def F30 : AFn := ⟨5, false, 2, [], .reg [⟨some 3, .move (.tmp 0), none⟩,
  ⟨some 4, .load none (.tmp 1), none⟩,
  ⟨none, .mapDel false [.str] (.tmp 3) (.tmp 4), none⟩]⟩
theorem c30 : compF Try.prog gl false [] [] Try.f30 = some F30 := by kernel_rfl
/- (*tollhouse/files.Files).made -/
def F31 : AFn := ⟨12, false, 1, [.tmp 2], .seq
 (.reg [⟨some 2, .move (.cst (.bool false)), none⟩])
 (.seq
 (.reg [⟨some 3, .move (.tmp 0), none⟩,
  ⟨some 4, .eqNil true .ptr (.tmp 3), none⟩,
  ⟨some 5, .move (.tmp 4), none⟩,
  ⟨some 6, .move (.tmp 0), some (5, true)⟩,
  ⟨some 7, .nilCheck (.tmp 6), some (5, true)⟩,
  ⟨some 8, .fieldAddr 2 1 (.tmp 7), some (5, true)⟩,
  ⟨some 9, .load none (.tmp 8), some (5, true)⟩,
  ⟨some 10, .eqNil true .map (.tmp 9), some (5, true)⟩,
  ⟨some 11, .pick (.tmp 5) (.tmp 10) (.cst (.bool false)), none⟩,
  ⟨some 2, .move (.tmp 11), none⟩])
 (.ret))⟩
theorem c31 : compF Try.prog gl false [] [] Try.f31 = some F31 := by kernel_rfl
/- (*tollhouse/files.Files).Truncate$1 -/
def F32 : AFn := ⟨19, false, 3, [], .seq
 (.reg [⟨some 5, .move (.tmp 0), none⟩,
  ⟨some 6, .load none (.tmp 1), none⟩,
  ⟨some 7, .lookup false [.str] (.agg [.nil, (.int .i64 0)]) false (.tmp 5) (.tmp 6), none⟩,
  ⟨some 8, .call (.cst (.func (.func 27) [] [])) [(.tmp 7)], none⟩,
  ⟨some 4, .move (.tmp 8), none⟩])
 (.regD [⟨some 9, .move (.tmp 0), none⟩,
  ⟨some 10, .load none (.tmp 1), none⟩,
  ⟨some 11, .build [.nil, (.int .i64 0)] [], none⟩,
  ⟨some 12, .move (.tmp 4), none⟩,
  ⟨some 13, .load none (.tmp 2), none⟩,
  ⟨some 14, .move (.tmp 4), none⟩,
  ⟨some 15, .len (.tmp 14), none⟩,
  ⟨some 16, .minmax false (.tmp 13) (.tmp 15), none⟩,
  ⟨some 17, .slice .slice none (.tmp 12) none (some (.tmp 16)) none, none⟩,
  ⟨some 18, .call (.cst (.func (.func 25) [] [])) [(.tmp 11), (.tmp 17)], none⟩,
  ⟨none, .mapSet false [.str] (.tmp 9) (.tmp 10) (.tmp 18), none⟩] [(0, 1), (0, 1), (0, 0), (0, 0), (0, 0), (0, 0), (0, 0), (0, 0), (0, 0), (0, 0), (1, 1)])⟩
theorem c32 : compF Try.prog gl false [] [] Try.f32 = some F32 := by kernel_rfl
/- (*tollhouse/files.Files).did -/
def F34 : AFn := ⟨15, false, 1, [.tmp 2], .seq
 (.reg [⟨some 2, .move (.cst (.int .i64 0)), none⟩])
 (.seq
 (.seq
 (.reg [⟨some 3, .move (.tmp 0), none⟩,
  ⟨some 4, .nilCheck (.tmp 3), none⟩,
  ⟨some 5, .fieldAddr 4 1 (.tmp 4), none⟩,
  ⟨some 6, .load none (.tmp 5), none⟩,
  ⟨some 7, .bin .gtr (.tmp 6) (.cst (.int .i64 0)), none⟩])
 (.cond (.tmp 7)
 (.reg [⟨some 8, .move (.tmp 0), none⟩,
  ⟨some 9, .nilCheck (.tmp 8), none⟩,
  ⟨some 10, .fieldAddr 4 1 (.tmp 9), none⟩,
  ⟨some 11, .load none (.tmp 10), none⟩,
  ⟨some 12, .bin .sub (.tmp 11) (.cst (.int .i64 1)), none⟩,
  ⟨some 13, .nilCheck (.tmp 8), none⟩,
  ⟨some 14, .fieldAddr 4 1 (.tmp 13), none⟩,
  ⟨none, .store 1 (.tmp 14) (.tmp 12), none⟩])
 (.skip)))
 (.seq
 (.reg [⟨some 2, .move (.cst (.int .i64 0)), none⟩])
 (.ret)))⟩
theorem c34 : compF Try.prog gl false [] [] Try.f34 = some F34 := by kernel_rfl
/- maps.Keys[tollhouse/files.tree,string,tollhouse/files.file] -/
def F36 : AFn := ⟨4, false, 1, [.tmp 2], .seq
 (.reg [⟨some 1, .box (.tmp 0), none⟩,
  ⟨some 2, .move (.cst (.sc .nilFunc)), none⟩])
 (.seq
 (.reg [⟨some 3, .makeFunc (.func 47) [] [(.tmp 1)], none⟩,
  ⟨some 2, .move (.tmp 3), none⟩])
 (.ret))⟩
theorem c36 : compF Try.prog gl false [] [] Try.f36 = some F36 := by kernel_rfl
/- slices.Clone[[]tollhouse/files.act,tollhouse/files.act] -/
def F37 : AFn := ⟨8, true, 1, [.tmp 2], .seq
 (.reg [⟨some 2, .move (.cst .nil), none⟩])
 (.seq
 (.seq
 (.reg [⟨some 3, .move (.tmp 0), none⟩,
  ⟨some 4, .eqNil false .slice (.tmp 3), none⟩])
 (.cond (.tmp 4)
 (.seq
 (.reg [⟨some 2, .move (.cst .nil), none⟩])
 (.ret))
 (.skip)))
 (.seq
 (.reg [⟨some 5, .buildSlice (some 4) (.agg [(.sc .nilFunc), (.int .i64 0), (.bool false), (.sc (.string (bs [])))]) 0 [], none⟩,
  ⟨some 6, .move (.tmp 0), none⟩,
  ⟨some 7, .append (some 4) 40 (.tmp 5) (.tmp 6), none⟩,
  ⟨some 2, .move (.tmp 7), none⟩])
 (.ret)))⟩
theorem c37 : compF Try.prog gl true [] [] Try.f37 = some F37 := by kernel_rfl
/- slices.ContainsFunc[[]string,string] -/
def F38 : AFn := ⟨9, false, 2, [.tmp 4], .seq
 (.reg [⟨some 4, .move (.cst (.bool false)), none⟩])
 (.seq
 (.reg [⟨some 5, .move (.tmp 0), none⟩,
  ⟨some 6, .move (.tmp 1), none⟩,
  ⟨some 7, .call (.cst (.func (.func 48) [] [])) [(.tmp 5), (.tmp 6)], none⟩,
  ⟨some 8, .bin .geq (.tmp 7) (.cst (.int .i64 0)), none⟩,
  ⟨some 4, .move (.tmp 8), none⟩])
 (.ret))⟩
theorem c38 : compF Try.prog gl false [] [] Try.f38 = some F38 := by kernel_rfl
/- (*tollhouse/files.Files).may$1 -/
def F39 : AFn := ⟨6, true, 1, [.tmp 2], .seq
 (.reg [⟨some 2, .move (.cst (.bool false)), none⟩])
 (.seq
 (.reg [⟨some 3, .move (.tmp 0), none⟩,
  ⟨some 4, .call (.cst (.func (.func 40) [] [])) [(.tmp 3)], none⟩,
  ⟨some 5, .un .not (.tmp 4), none⟩,
  ⟨some 2, .move (.tmp 5), none⟩])
 (.ret))⟩
theorem c39 : compF Try.prog gl true [] [] Try.f39 = some F39 := by kernel_rfl
def L40_0 : AC := .seq
 (.reg [⟨some 7, .next true (.tmp 6), none⟩,
  ⟨some 8, .extract (.tmp 7) 0, none⟩])
 (.seq
 (.cond (.tmp 8)
 (.skip)
 (.exit 0))
 (.block 1
 (.seq
 (.reg [⟨some 9, .extract (.tmp 7) 2, none⟩,
  ⟨some 4, .move (.tmp 9), none⟩])
 (.seq
 (.reg [⟨some 10, .move (.tmp 4), none⟩,
  ⟨some 11, .bin .lss (.tmp 10) (.cst (.int .i32 97)), none⟩,
  ⟨some 12, .move (.tmp 11), none⟩,
  ⟨some 13, .move (.tmp 4), some (12, false)⟩,
  ⟨some 14, .bin .gtr (.tmp 13) (.cst (.int .i32 122)), some (12, false)⟩,
  ⟨some 15, .pick (.tmp 12) (.cst (.bool true)) (.tmp 14), none⟩,
  ⟨some 16, .move (.tmp 15), none⟩,
  ⟨some 17, .move (.tmp 4), some (16, true)⟩,
  ⟨some 18, .bin .lss (.tmp 17) (.cst (.int .i32 48)), some (16, true)⟩,
  ⟨some 19, .move (.tmp 18), some (16, true)⟩,
  ⟨some 20, .move (.tmp 4), some (19, false)⟩,
  ⟨some 21, .bin .gtr (.tmp 20) (.cst (.int .i32 57)), some (19, false)⟩,
  ⟨some 22, .pick (.tmp 19) (.cst (.bool true)) (.tmp 21), some (16, true)⟩,
  ⟨some 23, .pick (.tmp 16) (.tmp 22) (.cst (.bool false)), none⟩,
  ⟨some 24, .move (.tmp 23), none⟩,
  ⟨some 25, .move (.tmp 4), some (24, true)⟩,
  ⟨some 26, .bin .neq (.tmp 25) (.cst (.int .i32 45)), some (24, true)⟩,
  ⟨some 27, .pick (.tmp 24) (.tmp 26) (.cst (.bool false)), none⟩])
 (.cond (.tmp 27)
 (.seq
 (.reg [⟨some 2, .move (.cst (.bool false)), none⟩])
 (.ret))
 (.skip))))))
/- tollhouse/files.right -/
def F40 : AFn := ⟨36, true, 1, [.tmp 2], .seq
 (.reg [⟨some 2, .move (.cst (.bool false)), none⟩])
 (.seq
 (.seq
 (.reg [⟨some 5, .move (.tmp 0), none⟩,
  ⟨some 6, .range true (.tmp 5), none⟩])
 (.block 0
 (.loop [0, 6] true L40_0)))
 (.seq
 (.reg [⟨some 28, .move (.tmp 0), none⟩,
  ⟨some 29, .lenT (.tmp 28), none⟩,
  ⟨some 30, .bin .geq (.tmp 29) (.cst (.int .i64 1)), none⟩,
  ⟨some 31, .move (.tmp 30), none⟩,
  ⟨some 32, .move (.tmp 0), some (31, true)⟩,
  ⟨some 33, .lenT (.tmp 32), some (31, true)⟩,
  ⟨some 34, .bin .leq (.tmp 33) (.cst (.int .i64 32)), some (31, true)⟩,
  ⟨some 35, .pick (.tmp 31) (.tmp 34) (.cst (.bool false)), none⟩,
  ⟨some 2, .move (.tmp 35), none⟩])
 (.ret)))⟩
theorem c40 : compF Try.prog gl true [] [([0, 6], true)] Try.f40 = some F40 := by kernel_rfl
/- slices.Clip[[][]byte,[]byte] -/
def F41 : AFn := ⟨9, true, 1, [.tmp 2], .seq
 (.reg [⟨some 2, .move (.cst .nil), none⟩])
 (.seq
 (.reg [⟨some 3, .move (.tmp 0), none⟩,
  ⟨some 4, .move (.tmp 0), none⟩,
  ⟨some 5, .len (.tmp 4), none⟩,
  ⟨some 6, .move (.tmp 0), none⟩,
  ⟨some 7, .len (.tmp 6), none⟩,
  ⟨some 8, .slice .slice none (.tmp 3) none (some (.tmp 5)) (some (.tmp 7)), none⟩,
  ⟨some 2, .move (.tmp 8), none⟩])
 (.ret))⟩
theorem c41 : compF Try.prog gl true [] [] Try.f41 = some F41 := by kernel_rfl
def L42_0 : AC := .seq
 (.reg [⟨some 28, .bin .lss (.tmp 27) (.tmp 26), none⟩])
 (.seq
 (.cond (.tmp 28)
 (.skip)
 (.exit 2))
 (.seq
 (.block 3
 (.seq
 (.reg [⟨some 29, .indexAddr .slice none (.tmp 25) (.tmp 27), none⟩,
  ⟨some 30, .load none (.tmp 29), none⟩,
  ⟨some 8, .move (.tmp 30), none⟩])
 (.reg [⟨some 31, .move (.tmp 6), none⟩,
  ⟨some 32, .move (.tmp 8), none⟩,
  ⟨some 33, .append none 1 (.tmp 31) (.tmp 32), none⟩,
  ⟨some 6, .move (.tmp 33), none⟩])))
 (.reg [⟨some 34, .bin .add (.tmp 27) (.cst (.int .i64 1)), none⟩,
  ⟨some 27, .move (.tmp 34), none⟩])))
def L42_1 : AC := .seq
 (.reg [⟨some 12, .bin .lss (.tmp 11) (.tmp 10), none⟩])
 (.seq
 (.cond (.tmp 12)
 (.skip)
 (.exit 0))
 (.seq
 (.block 1
 (.seq
 (.reg [⟨some 13, .indexAddr .slice none (.tmp 9) (.tmp 11), none⟩,
  ⟨some 14, .load none (.tmp 13), none⟩,
  ⟨some 5, .move (.tmp 14), none⟩])
 (.seq
 (.reg [⟨some 15, .move (.tmp 3), none⟩,
  ⟨some 16, .move (.tmp 5), none⟩,
  ⟨some 17, .len (.tmp 16), none⟩,
  ⟨some 18, .bin .add (.tmp 15) (.tmp 17), none⟩,
  ⟨some 3, .move (.tmp 18), none⟩])
 (.seq
 (.reg [⟨some 19, .move (.tmp 3), none⟩,
  ⟨some 20, .bin .lss (.tmp 19) (.cst (.int .i64 0)), none⟩])
 (.cond (.tmp 20)
 (.reg [⟨some 21, .stuck, none⟩,
  ⟨none, .stuck, none⟩])
 (.skip))))))
 (.reg [⟨some 22, .bin .add (.tmp 11) (.cst (.int .i64 1)), none⟩,
  ⟨some 11, .move (.tmp 22), none⟩])))
/- slices.Concat[[]byte,byte] -/
def F42 : AFn := ⟨36, true, 1, [.tmp 2], .seq
 (.reg [⟨some 2, .move (.cst .nil), none⟩])
 (.seq
 (.reg [⟨some 3, .move (.cst (.int .i64 0)), none⟩])
 (.seq
 (.seq
 (.reg [⟨some 9, .move (.tmp 0), none⟩,
  ⟨some 10, .len (.tmp 9), none⟩,
  ⟨some 11, .move (.cst (.int .i64 0)), none⟩])
 (.block 0
 (.loop [0, 3, 9, 10, 11] true L42_1)))
 (.seq
 (.reg [⟨some 23, .move (.tmp 3), none⟩,
  ⟨some 24, .call (.cst (.func (.func 49) [] [])) [(.cst .nil), (.tmp 23)], none⟩,
  ⟨some 6, .move (.tmp 24), none⟩])
 (.seq
 (.seq
 (.reg [⟨some 25, .move (.tmp 0), none⟩,
  ⟨some 26, .len (.tmp 25), none⟩,
  ⟨some 27, .move (.cst (.int .i64 0)), none⟩])
 (.block 2
 (.loop [6, 25, 26, 27] true L42_0)))
 (.seq
 (.reg [⟨some 35, .move (.tmp 6), none⟩,
  ⟨some 2, .move (.tmp 35), none⟩])
 (.ret))))))⟩
theorem c42 : compF Try.prog gl true [] [([0, 3, 9, 10, 11], true), ([6, 25, 26, 27], true)] Try.f42 = some F42 := by kernel_rfl
/- (*tollhouse/files.Files).change$1 -/
def F43 : AFn := ⟨8, false, 3, [], .reg [⟨some 5, .load none (.tmp 2), none⟩,
  ⟨some 6, .move (.tmp 0), none⟩,
  ⟨some 7, .call (.tmp 5) [(.tmp 6)], none⟩]⟩
theorem c43 : compF Try.prog gl false [] [] Try.f43 = some F43 := by kernel_rfl
def L48_0 : AC := .seq
 (.reg [⟨some 9, .bin .lss (.tmp 8) (.tmp 7), none⟩])
 (.seq
 (.cond (.tmp 9)
 (.skip)
 (.exit 0))
 (.seq
 (.block 1
 (.seq
 (.reg [⟨some 10, .move (.tmp 8), none⟩,
  ⟨some 5, .move (.tmp 10), none⟩])
 (.seq
 (.reg [⟨some 11, .move (.tmp 1), none⟩,
  ⟨some 12, .move (.tmp 0), none⟩,
  ⟨some 13, .move (.tmp 5), none⟩,
  ⟨some 14, .indexAddr .slice none (.tmp 12) (.tmp 13), none⟩,
  ⟨some 15, .load none (.tmp 14), none⟩,
  ⟨some 16, .call (.tmp 11) [(.tmp 15)], none⟩])
 (.cond (.tmp 16)
 (.seq
 (.reg [⟨some 17, .move (.tmp 5), none⟩,
  ⟨some 4, .move (.tmp 17), none⟩])
 (.ret))
 (.skip)))))
 (.reg [⟨some 18, .bin .add (.tmp 8) (.cst (.int .i64 1)), none⟩,
  ⟨some 8, .move (.tmp 18), none⟩])))
/- slices.IndexFunc[[]string,string] -/
def F48 : AFn := ⟨19, false, 2, [.tmp 4], .seq
 (.reg [⟨some 4, .move (.cst (.int .i64 0)), none⟩])
 (.seq
 (.seq
 (.reg [⟨some 6, .move (.tmp 0), none⟩,
  ⟨some 7, .len (.tmp 6), none⟩,
  ⟨some 8, .move (.cst (.int .i64 0)), none⟩])
 (.block 0
 (.loop [0, 1, 7, 8] true L48_0)))
 (.seq
 (.reg [⟨some 4, .move (.cst (.int .i64 (-1))), none⟩])
 (.ret)))⟩
theorem c48 : compF Try.prog gl false [] [([0, 1, 7, 8], true)] Try.f48 = some F48 := by kernel_rfl
def fns : List (Nat × AFn) := [(3, F3), (4, F4), (5, F5), (6, F6), (7, F7), (8, F8), (9, F9), (10, F10), (11, F11), (12, F12), (14, F14), (15, F15), (16, F16), (17, F17), (18, F18), (19, F19), (20, F20), (21, F21), (22, F22), (23, F23), (24, F24), (25, F25), (26, F26), (27, F27), (28, F28), (29, F29), (30, F30), (31, F31), (32, F32), (34, F34), (36, F36), (37, F37), (38, F38), (39, F39), (40, F40), (41, F41), (42, F42), (43, F43), (48, F48)]
def nats : List (Nat × (List AV → Heap → Option (AV × Heap))) := [(49, growG), (33, cloneM33), (13, leftN), (35, sortedN)]
def exts : List (Nat × (List AV → Option AV)) := [(23, cloneE none 1), (37, cloneE (some 4) 40)]
def T : Tab := ⟨fun n => exts.lookup n, fun n => fns.lookup n, fun n => nats.lookup n⟩
theorem lookup_mem {α : Type} {f : Nat} {F : α} : ∀ {l : List (Nat × α)}, l.lookup f = some F → (f, F) ∈ l
  | [], h => by cases h
  | (g, G) :: r, h => by
    rw [List.lookup_cons] at h
    split at h
    · rename_i hb; cases h; rw [eq_of_beq hb]; exact List.mem_cons_self
    · exact List.mem_cons_of_mem _ (lookup_mem h)
theorem fnsOK : ∀ p ∈ fns, FnOK Try.prog gl p.1 p.2 := by
  intro p hp
  simp only [fns, List.mem_cons, List.not_mem_nil, or_false] at hp
  rcases hp with rfl | rfl | rfl | rfl | rfl | rfl | rfl | rfl | rfl | rfl | rfl | rfl | rfl | rfl | rfl | rfl | rfl | rfl | rfl | rfl | rfl | rfl | rfl | rfl | rfl | rfl | rfl | rfl | rfl | rfl | rfl | rfl | rfl | rfl | rfl | rfl | rfl | rfl | rfl
  · exact ⟨_, _, _, _, Try.func3, c3⟩
  · exact ⟨_, _, _, _, Try.func4, c4⟩
  · exact ⟨_, _, _, _, Try.func5, c5⟩
  · exact ⟨_, _, _, _, Try.func6, c6⟩
  · exact ⟨_, _, _, _, Try.func7, c7⟩
  · exact ⟨_, _, _, _, Try.func8, c8⟩
  · exact ⟨_, _, _, _, Try.func9, c9⟩
  · exact ⟨_, _, _, _, Try.func10, c10⟩
  · exact ⟨_, _, _, _, Try.func11, c11⟩
  · exact ⟨_, _, _, _, Try.func12, c12⟩
  · exact ⟨_, _, _, _, Try.func14, c14⟩
  · exact ⟨_, _, _, _, Try.func15, c15⟩
  · exact ⟨_, _, _, _, Try.func16, c16⟩
  · exact ⟨_, _, _, _, Try.func17, c17⟩
  · exact ⟨_, _, _, _, Try.func18, c18⟩
  · exact ⟨_, _, _, _, Try.func19, c19⟩
  · exact ⟨_, _, _, _, Try.func20, c20⟩
  · exact ⟨_, _, _, _, Try.func21, c21⟩
  · exact ⟨_, _, _, _, Try.func22, c22⟩
  · exact ⟨_, _, _, _, Try.func23, c23⟩
  · exact ⟨_, _, _, _, Try.func24, c24⟩
  · exact ⟨_, _, _, _, Try.func25, c25⟩
  · exact ⟨_, _, _, _, Try.func26, c26⟩
  · exact ⟨_, _, _, _, Try.func27, c27⟩
  · exact ⟨_, _, _, _, Try.func28, c28⟩
  · exact ⟨_, _, _, _, Try.func29, c29⟩
  · exact ⟨_, _, _, _, Try.func30, c30⟩
  · exact ⟨_, _, _, _, Try.func31, c31⟩
  · exact ⟨_, _, _, _, Try.func32, c32⟩
  · exact ⟨_, _, _, _, Try.func34, c34⟩
  · exact ⟨_, _, _, _, Try.func36, c36⟩
  · exact ⟨_, _, _, _, Try.func37, c37⟩
  · exact ⟨_, _, _, _, Try.func38, c38⟩
  · exact ⟨_, _, _, _, Try.func39, c39⟩
  · exact ⟨_, _, _, _, Try.func40, c40⟩
  · exact ⟨_, _, _, _, Try.func41, c41⟩
  · exact ⟨_, _, _, _, Try.func42, c42⟩
  · exact ⟨_, _, _, _, Try.func43, c43⟩
  · exact ⟨_, _, _, _, Try.func48, c48⟩
theorem natsOK : ∀ p ∈ nats, Callable Try.prog p.1 ∧ ∀ (args : List AV) (h : Heap) (v : AV) (h2 : Heap), p.2 args h = some (v, h2) → ∀ (S : St) (B : Nat) (W : World) (cargs : Array Value), Rel S h B W → VL S args cargs.toList → GlobOK gl S.imm → Calls Try.prog p.1 cargs W (GPost S h2 v B W) := by
  intro p hp
  simp only [nats, List.mem_cons, List.not_mem_nil, or_false] at hp
  rcases hp with rfl | rfl | rfl | rfl
  · exact ⟨grow_nat.1, fun args h v h2 hx S B W cargs r hv hg => grow_nat.2 args h v h2 hx gl S B W cargs r hv hg⟩
  · exact ⟨cloneM_ok33.1, fun args h v h2 hx S B W cargs r hv hg => cloneM_ok33.2 args h v h2 hx gl S B W cargs r hv hg⟩
  · exact ⟨leftN_ok.1, fun args h v h2 hx S B W cargs r hv hg => leftN_ok.2 args h v h2 hx gl S B W cargs r hv hg⟩
  · exact ⟨sortedN_ok.1, fun args h v h2 hx S B W cargs r hv hg => sortedN_ok.2 args h v h2 hx gl S B W cargs r hv hg⟩
theorem mixed : Try.prog.follows .mixedOrders = true := by kernel_rfl
theorem x23 : PSound Try.prog gl 23 (cloneE none 1) := by
  refine clone_PSound mixed ⟨_, _, _, _, Try.func23, c23⟩ rfl (fun o els ho he hc hf => ?_) (fun a cap => ?_) (fun cap => ?_)
  · obtain ⟨y, ys, rfl⟩ := List.exists_cons_of_ne_nil he
    have hf' : fitsB (0 + (y :: ys).length) 1 = true := by rw [Nat.zero_add]; exact hf
    rcases ho with rfl | rfl
    all_goals
      refine WP_eq (prun_wp ?_)
      simp -implicitDefEqProofs (disch := omega) only [F23, isNil, elemsOf, setEls, aappend, List.replicate_zero, hf', initE, ax_seq, ax_skip, ax_ret, ax_exit, ax_scope, ax_regK, ax_regQK, ax_condK, ax_blockK, condK_t, condK_f, blkR_normal, blkR_ret, blkR_if, norR_eq, norQ_eq, nextR_normal, nextR_ret, nextR_exit, aops_nil, aops_none, aops_some, opsK_some, opsG_tt, opsG_ft, opsG_tf, opsG_ff, aopsQ_nil, aopsQ_none, aopsQ_some, quiK_some, quiG_tt, quiG_ft, quiG_tf, quiG_ff, aop, evO_tmp, evO_cst, getE_cons, setE_some, setE_none, bin_leq, bin_geq, bin_lss, bin_gtr, bin_eql, bin_neq, bin_add, bin_sub, bin_mul, Option.bind_some, Option.map_some, Option.bind_none, Option.map_none, Nat.reduceEqDiff, ↓reduceIte, Nat.reduceAdd, finish, resOf, tupOf, frz_eq, AM.freeze, freezeL, closed, nam, namL, if_true, if_false, Bool.false_eq_true, Bool.true_and, Bool.false_and, Bool.and_true, Bool.and_false, cellsOf, deref, boxAt, exAt, ldCells, oneL, oneCell, one, List.length_nil, List.nil_append, List.cons_append, List.getElem?_cons_zero, List.getElem?_cons_succ, List.drop_zero, List.drop_succ_cons, List.take_succ_cons, List.take_zero, Nat.reduceLeDiff, Nat.le_refl, evL, List.map_cons, List.map_nil, List.append_nil, adopt, bin_quo, bin_rem, rigK_sc, rigK_agg, rigK_tup, fstV_eq, quiet_load, quiet_convStr, quiet_call, rigid, rigidL, trim, Nat.lt_irrefl, and_false, false_and, Int.reduceEq, decide_true, decide_false, Int.reduceMod, Int.reduceDiv, Int.mul_zero, Int.add_zero, ax_loop, quiet_move, quiet_pick, quiet_build, quiet_nilCheck, quiet_bin, quiet_eqBool, quiet_eqArr, quiet_eqAgg, quiet_eqNil, quiet_un, quiet_convInt, quiet_makeFunc, quiet_slice, quiet_toArr, quiet_fieldAddr, quiet_field, quiet_indexAddr, quiet_index, quiet_indexStr, quiet_extract, quiet_len, quiet_lenT, quiet_convSS, quiet_minmax, opsG_undef, quiG_undef, fin_ret, fin_normal, WP_some, WP_bind, WP_map, WP_ite, WP_opsK_ite, WP_quiK_ite, BQ_eq, MQ_eq, LQ_normal, LQ_exit, LQ_ret, if_pos, if_neg, Bool.not_true, Bool.not_false, asI, elCells, kz_some, kz_none, Nat.mul_one, Nat.zero_add, Int.toNat_natCast, lenOf, List.length_map, true_and, and_true, trim_off, forall_const, implies_true, and_self, aun_not, decide_eq_true, decide_eq_false, IntWalk.i64_in, IntWalk.u64_in, cast_succ', List.set_cons_zero, List.set_cons_succ, List.length_set, List.length_append, List.length_replicate, Int.natCast_nonneg, flat_one', List.getElem?_drop, Nat.add_zero, ax_regD, runD_nil, runD_none, runD_some, dK_some, dG_tt, dG_ft, dG_tf, dG_ff, dG_undef, WP_dK_ite, chkR_eq, chkD, chkO, chkW, chkV_some, chkV_off, grow_eq, effB, reB, beqV, beqVL, vEq, wantE_none, wantE_some, beq_self_eq_true, Nat.reduceSub, Nat.reduceLT, strip, stripO, storeB_K, stB_eq, splice_nil, splice_one, splice_more, setParts_nil, setParts_K, spK_eq, nxE_some, nxE_none, bne_ff, bne_tf, bne_ft, bne_tt, beq_ff, beq_tf, beq_ft, beq_tt, bne_f, bne_t, fits_of, Int.reduceSub, Int.reduceAdd, Int.reduceMul, Int.reduceLT, Int.reduceLE, Int.reduceToNat, optI, aslice, cutSl, cutMs, cutStr, cutOwn, Option.getD_some, Option.getD_none, get_app, get_app0, set_app, set_app0, tn_pred, convS]
      simp [freeze1, hc, WP]
  · refine WP_eq (prun_wp ?_)
    simp -implicitDefEqProofs (disch := omega) only [F23, isNil, elemsOf, setEls, aappend, List.replicate_zero, show fitsB 0 1 = true from rfl, initE, ax_seq, ax_skip, ax_ret, ax_exit, ax_scope, ax_regK, ax_regQK, ax_condK, ax_blockK, condK_t, condK_f, blkR_normal, blkR_ret, blkR_if, norR_eq, norQ_eq, nextR_normal, nextR_ret, nextR_exit, aops_nil, aops_none, aops_some, opsK_some, opsG_tt, opsG_ft, opsG_tf, opsG_ff, aopsQ_nil, aopsQ_none, aopsQ_some, quiK_some, quiG_tt, quiG_ft, quiG_tf, quiG_ff, aop, evO_tmp, evO_cst, getE_cons, setE_some, setE_none, bin_leq, bin_geq, bin_lss, bin_gtr, bin_eql, bin_neq, bin_add, bin_sub, bin_mul, Option.bind_some, Option.map_some, Option.bind_none, Option.map_none, Nat.reduceEqDiff, ↓reduceIte, Nat.reduceAdd, finish, resOf, tupOf, frz_eq, AM.freeze, freezeL, closed, nam, namL, if_true, if_false, Bool.false_eq_true, Bool.true_and, Bool.false_and, Bool.and_true, Bool.and_false, cellsOf, deref, boxAt, exAt, ldCells, oneL, oneCell, one, List.length_cons, List.length_nil, List.nil_append, List.cons_append, List.getElem?_cons_zero, List.getElem?_cons_succ, List.drop_zero, List.drop_succ_cons, List.take_succ_cons, List.take_zero, Nat.reduceLeDiff, Nat.le_refl, evL, List.map_cons, List.map_nil, List.append_nil, adopt, bin_quo, bin_rem, rigK_sc, rigK_agg, rigK_tup, fstV_eq, quiet_load, quiet_convStr, quiet_call, rigid, rigidL, trim, Nat.lt_irrefl, and_false, false_and, Int.reduceEq, decide_true, decide_false, Int.reduceMod, Int.reduceDiv, Int.mul_zero, Int.add_zero, ax_loop, quiet_move, quiet_pick, quiet_build, quiet_nilCheck, quiet_bin, quiet_eqBool, quiet_eqArr, quiet_eqAgg, quiet_eqNil, quiet_un, quiet_convInt, quiet_makeFunc, quiet_slice, quiet_toArr, quiet_fieldAddr, quiet_field, quiet_indexAddr, quiet_index, quiet_indexStr, quiet_extract, quiet_len, quiet_lenT, quiet_convSS, quiet_minmax, opsG_undef, quiG_undef, fin_ret, fin_normal, WP_some, WP_bind, WP_map, WP_ite, WP_opsK_ite, WP_quiK_ite, BQ_eq, MQ_eq, LQ_normal, LQ_exit, LQ_ret, if_pos, if_neg, Bool.not_true, Bool.not_false, asI, elCells, kz_some, kz_none, Nat.mul_one, Nat.zero_add, Int.toNat_natCast, lenOf, List.length_map, true_and, and_true, trim_off, forall_const, implies_true, and_self, aun_not, decide_eq_true, decide_eq_false, IntWalk.i64_in, IntWalk.u64_in, cast_succ', List.set_cons_zero, List.set_cons_succ, List.length_set, List.length_append, List.length_replicate, Int.natCast_nonneg, flat_one', List.getElem?_drop, Nat.add_zero, ax_regD, runD_nil, runD_none, runD_some, dK_some, dG_tt, dG_ft, dG_tf, dG_ff, dG_undef, WP_dK_ite, chkR_eq, chkD, chkO, chkW, chkV_some, chkV_off, grow_eq, effB, reB, beqV, beqVL, vEq, wantE_none, wantE_some, beq_self_eq_true, Nat.reduceSub, Nat.reduceLT, strip, stripO, storeB_K, stB_eq, splice_nil, splice_one, splice_more, setParts_nil, setParts_K, spK_eq, nxE_some, nxE_none, bne_ff, bne_tf, bne_ft, bne_tt, beq_ff, beq_tf, beq_ft, beq_tt, bne_f, bne_t, fits_of, Int.reduceSub, Int.reduceAdd, Int.reduceMul, Int.reduceLT, Int.reduceLE, Int.reduceToNat, optI, aslice, cutSl, cutMs, cutStr, cutOwn, Option.getD_some, Option.getD_none, get_app, get_app0, set_app, set_app0, tn_pred, convS]
    simp [freeze1, closed, closedL, namL, WP]
  · refine WP_eq (prun_wp ?_)
    simp -implicitDefEqProofs (disch := omega) only [F23, isNil, initE, ax_seq, ax_skip, ax_ret, ax_exit, ax_scope, ax_regK, ax_regQK, ax_condK, ax_blockK, condK_t, condK_f, blkR_normal, blkR_ret, blkR_if, norR_eq, norQ_eq, nextR_normal, nextR_ret, nextR_exit, aops_nil, aops_none, aops_some, opsK_some, opsG_tt, opsG_ft, opsG_tf, opsG_ff, aopsQ_nil, aopsQ_none, aopsQ_some, quiK_some, quiG_tt, quiG_ft, quiG_tf, quiG_ff, aop, evO_tmp, evO_cst, getE_cons, setE_some, setE_none, bin_leq, bin_geq, bin_lss, bin_gtr, bin_eql, bin_neq, bin_add, bin_sub, bin_mul, Option.bind_some, Option.map_some, Option.bind_none, Option.map_none, Nat.reduceEqDiff, ↓reduceIte, Nat.reduceAdd, finish, resOf, tupOf, frz_eq, AM.freeze, freeze1, freezeL, closed, nam, namL, if_true, if_false, Bool.false_eq_true, Bool.true_and, Bool.false_and, Bool.and_true, Bool.and_false, cellsOf, deref, boxAt, exAt, ldCells, oneL, oneCell, one, List.length_cons, List.length_nil, List.nil_append, List.cons_append, List.getElem?_cons_zero, List.getElem?_cons_succ, List.drop_zero, List.drop_succ_cons, List.take_succ_cons, List.take_zero, Nat.reduceLeDiff, Nat.le_refl, evL, List.map_cons, List.map_nil, List.append_nil, adopt, bin_quo, bin_rem, rigK_sc, rigK_agg, rigK_tup, fstV_eq, quiet_load, quiet_convStr, quiet_call, rigid, rigidL, trim, Nat.lt_irrefl, and_false, false_and, Int.reduceEq, decide_true, decide_false, Int.reduceMod, Int.reduceDiv, Int.mul_zero, Int.add_zero, ax_loop, quiet_move, quiet_pick, quiet_build, quiet_nilCheck, quiet_bin, quiet_eqBool, quiet_eqArr, quiet_eqAgg, quiet_eqNil, quiet_un, quiet_convInt, quiet_makeFunc, quiet_slice, quiet_toArr, quiet_fieldAddr, quiet_field, quiet_indexAddr, quiet_index, quiet_indexStr, quiet_extract, quiet_len, quiet_lenT, quiet_convSS, quiet_minmax, opsG_undef, quiG_undef, fin_ret, fin_normal, WP_some, WP_bind, WP_map, WP_ite, WP_opsK_ite, WP_quiK_ite, BQ_eq, MQ_eq, LQ_normal, LQ_exit, LQ_ret, if_pos, if_neg, Bool.not_true, Bool.not_false, asI, elCells, kz_some, kz_none, Nat.mul_one, Nat.zero_add, Int.toNat_natCast, lenOf, List.length_map, true_and, and_true, trim_off, forall_const, implies_true, and_self, aun_not, decide_eq_true, decide_eq_false, IntWalk.i64_in, IntWalk.u64_in, cast_succ', List.set_cons_zero, List.set_cons_succ, List.length_set, List.length_append, List.length_replicate, Int.natCast_nonneg, flat_one', List.getElem?_drop, Nat.add_zero, ax_regD, runD_nil, runD_none, runD_some, dK_some, dG_tt, dG_ft, dG_tf, dG_ff, dG_undef, WP_dK_ite, chkR_eq, chkD, chkO, chkW, chkV_some, chkV_off, grow_eq, effB, reB, beqV, beqVL, vEq, wantE_none, wantE_some, beq_self_eq_true, Nat.reduceSub, Nat.reduceLT, strip, stripO, storeB_K, stB_eq, splice_nil, splice_one, splice_more, setParts_nil, setParts_K, spK_eq, nxE_some, nxE_none, bne_ff, bne_tf, bne_ft, bne_tt, beq_ff, beq_tf, beq_ft, beq_tt, bne_f, bne_t, fits_of, Int.reduceSub, Int.reduceAdd, Int.reduceMul, Int.reduceLT, Int.reduceLE, Int.reduceToNat, optI, aslice, cutSl, cutMs, cutStr, cutOwn, Option.getD_some, Option.getD_none, get_app, get_app0, set_app, set_app0, tn_pred, convS]
theorem x37 : PSound Try.prog gl 37 (cloneE (some 4) 40) := by
  refine clone_PSound mixed ⟨_, _, _, _, Try.func37, c37⟩ rfl (fun o els ho he hc hf => ?_) (fun a cap => ?_) (fun cap => ?_)
  · obtain ⟨y, ys, rfl⟩ := List.exists_cons_of_ne_nil he
    have hf' : fitsB (0 + (y :: ys).length) 40 = true := by rw [Nat.zero_add]; exact hf
    rcases ho with rfl | rfl
    all_goals
      refine WP_eq (prun_wp ?_)
      simp -implicitDefEqProofs (disch := omega) only [F37, isNil, elemsOf, setEls, aappend, List.replicate_zero, hf', initE, ax_seq, ax_skip, ax_ret, ax_exit, ax_scope, ax_regK, ax_regQK, ax_condK, ax_blockK, condK_t, condK_f, blkR_normal, blkR_ret, blkR_if, norR_eq, norQ_eq, nextR_normal, nextR_ret, nextR_exit, aops_nil, aops_none, aops_some, opsK_some, opsG_tt, opsG_ft, opsG_tf, opsG_ff, aopsQ_nil, aopsQ_none, aopsQ_some, quiK_some, quiG_tt, quiG_ft, quiG_tf, quiG_ff, aop, evO_tmp, evO_cst, getE_cons, setE_some, setE_none, bin_leq, bin_geq, bin_lss, bin_gtr, bin_eql, bin_neq, bin_add, bin_sub, bin_mul, Option.bind_some, Option.map_some, Option.bind_none, Option.map_none, Nat.reduceEqDiff, ↓reduceIte, Nat.reduceAdd, finish, resOf, tupOf, frz_eq, AM.freeze, freezeL, closed, nam, namL, if_true, if_false, Bool.false_eq_true, Bool.true_and, Bool.false_and, Bool.and_true, Bool.and_false, cellsOf, deref, boxAt, exAt, ldCells, oneL, oneCell, one, List.length_nil, List.nil_append, List.cons_append, List.getElem?_cons_zero, List.getElem?_cons_succ, List.drop_zero, List.drop_succ_cons, List.take_succ_cons, List.take_zero, Nat.reduceLeDiff, Nat.le_refl, evL, List.map_cons, List.map_nil, List.append_nil, adopt, bin_quo, bin_rem, rigK_sc, rigK_agg, rigK_tup, fstV_eq, quiet_load, quiet_convStr, quiet_call, rigid, rigidL, trim, Nat.lt_irrefl, and_false, false_and, Int.reduceEq, decide_true, decide_false, Int.reduceMod, Int.reduceDiv, Int.mul_zero, Int.add_zero, ax_loop, quiet_move, quiet_pick, quiet_build, quiet_nilCheck, quiet_bin, quiet_eqBool, quiet_eqArr, quiet_eqAgg, quiet_eqNil, quiet_un, quiet_convInt, quiet_makeFunc, quiet_slice, quiet_toArr, quiet_fieldAddr, quiet_field, quiet_indexAddr, quiet_index, quiet_indexStr, quiet_extract, quiet_len, quiet_lenT, quiet_convSS, quiet_minmax, opsG_undef, quiG_undef, fin_ret, fin_normal, WP_some, WP_bind, WP_map, WP_ite, WP_opsK_ite, WP_quiK_ite, BQ_eq, MQ_eq, LQ_normal, LQ_exit, LQ_ret, if_pos, if_neg, Bool.not_true, Bool.not_false, asI, elCells, kz_some, kz_none, Nat.mul_one, Nat.zero_add, Int.toNat_natCast, lenOf, List.length_map, true_and, and_true, trim_off, forall_const, implies_true, and_self, aun_not, decide_eq_true, decide_eq_false, IntWalk.i64_in, IntWalk.u64_in, cast_succ', List.set_cons_zero, List.set_cons_succ, List.length_set, List.length_append, List.length_replicate, Int.natCast_nonneg, flat_one', List.getElem?_drop, Nat.add_zero, ax_regD, runD_nil, runD_none, runD_some, dK_some, dG_tt, dG_ft, dG_tf, dG_ff, dG_undef, WP_dK_ite, chkR_eq, chkD, chkO, chkW, chkV_some, chkV_off, grow_eq, effB, reB, beqV, beqVL, vEq, wantE_none, wantE_some, beq_self_eq_true, Nat.reduceSub, Nat.reduceLT, strip, stripO, storeB_K, stB_eq, splice_nil, splice_one, splice_more, setParts_nil, setParts_K, spK_eq, nxE_some, nxE_none, bne_ff, bne_tf, bne_ft, bne_tt, beq_ff, beq_tf, beq_ft, beq_tt, bne_f, bne_t, fits_of, Int.reduceSub, Int.reduceAdd, Int.reduceMul, Int.reduceLT, Int.reduceLE, Int.reduceToNat, optI, aslice, cutSl, cutMs, cutStr, cutOwn, Option.getD_some, Option.getD_none, get_app, get_app0, set_app, set_app0, tn_pred, convS]
      simp [freeze1, hc, WP]
  · refine WP_eq (prun_wp ?_)
    simp -implicitDefEqProofs (disch := omega) only [F37, isNil, elemsOf, setEls, aappend, List.replicate_zero, show fitsB 0 40 = true from rfl, initE, ax_seq, ax_skip, ax_ret, ax_exit, ax_scope, ax_regK, ax_regQK, ax_condK, ax_blockK, condK_t, condK_f, blkR_normal, blkR_ret, blkR_if, norR_eq, norQ_eq, nextR_normal, nextR_ret, nextR_exit, aops_nil, aops_none, aops_some, opsK_some, opsG_tt, opsG_ft, opsG_tf, opsG_ff, aopsQ_nil, aopsQ_none, aopsQ_some, quiK_some, quiG_tt, quiG_ft, quiG_tf, quiG_ff, aop, evO_tmp, evO_cst, getE_cons, setE_some, setE_none, bin_leq, bin_geq, bin_lss, bin_gtr, bin_eql, bin_neq, bin_add, bin_sub, bin_mul, Option.bind_some, Option.map_some, Option.bind_none, Option.map_none, Nat.reduceEqDiff, ↓reduceIte, Nat.reduceAdd, finish, resOf, tupOf, frz_eq, AM.freeze, freezeL, closed, nam, namL, if_true, if_false, Bool.false_eq_true, Bool.true_and, Bool.false_and, Bool.and_true, Bool.and_false, cellsOf, deref, boxAt, exAt, ldCells, oneL, oneCell, one, List.length_cons, List.length_nil, List.nil_append, List.cons_append, List.getElem?_cons_zero, List.getElem?_cons_succ, List.drop_zero, List.drop_succ_cons, List.take_succ_cons, List.take_zero, Nat.reduceLeDiff, Nat.le_refl, evL, List.map_cons, List.map_nil, List.append_nil, adopt, bin_quo, bin_rem, rigK_sc, rigK_agg, rigK_tup, fstV_eq, quiet_load, quiet_convStr, quiet_call, rigid, rigidL, trim, Nat.lt_irrefl, and_false, false_and, Int.reduceEq, decide_true, decide_false, Int.reduceMod, Int.reduceDiv, Int.mul_zero, Int.add_zero, ax_loop, quiet_move, quiet_pick, quiet_build, quiet_nilCheck, quiet_bin, quiet_eqBool, quiet_eqArr, quiet_eqAgg, quiet_eqNil, quiet_un, quiet_convInt, quiet_makeFunc, quiet_slice, quiet_toArr, quiet_fieldAddr, quiet_field, quiet_indexAddr, quiet_index, quiet_indexStr, quiet_extract, quiet_len, quiet_lenT, quiet_convSS, quiet_minmax, opsG_undef, quiG_undef, fin_ret, fin_normal, WP_some, WP_bind, WP_map, WP_ite, WP_opsK_ite, WP_quiK_ite, BQ_eq, MQ_eq, LQ_normal, LQ_exit, LQ_ret, if_pos, if_neg, Bool.not_true, Bool.not_false, asI, elCells, kz_some, kz_none, Nat.mul_one, Nat.zero_add, Int.toNat_natCast, lenOf, List.length_map, true_and, and_true, trim_off, forall_const, implies_true, and_self, aun_not, decide_eq_true, decide_eq_false, IntWalk.i64_in, IntWalk.u64_in, cast_succ', List.set_cons_zero, List.set_cons_succ, List.length_set, List.length_append, List.length_replicate, Int.natCast_nonneg, flat_one', List.getElem?_drop, Nat.add_zero, ax_regD, runD_nil, runD_none, runD_some, dK_some, dG_tt, dG_ft, dG_tf, dG_ff, dG_undef, WP_dK_ite, chkR_eq, chkD, chkO, chkW, chkV_some, chkV_off, grow_eq, effB, reB, beqV, beqVL, vEq, wantE_none, wantE_some, beq_self_eq_true, Nat.reduceSub, Nat.reduceLT, strip, stripO, storeB_K, stB_eq, splice_nil, splice_one, splice_more, setParts_nil, setParts_K, spK_eq, nxE_some, nxE_none, bne_ff, bne_tf, bne_ft, bne_tt, beq_ff, beq_tf, beq_ft, beq_tt, bne_f, bne_t, fits_of, Int.reduceSub, Int.reduceAdd, Int.reduceMul, Int.reduceLT, Int.reduceLE, Int.reduceToNat, optI, aslice, cutSl, cutMs, cutStr, cutOwn, Option.getD_some, Option.getD_none, get_app, get_app0, set_app, set_app0, tn_pred, convS]
    simp [freeze1, closed, closedL, namL, WP]
  · refine WP_eq (prun_wp ?_)
    simp -implicitDefEqProofs (disch := omega) only [F37, isNil, initE, ax_seq, ax_skip, ax_ret, ax_exit, ax_scope, ax_regK, ax_regQK, ax_condK, ax_blockK, condK_t, condK_f, blkR_normal, blkR_ret, blkR_if, norR_eq, norQ_eq, nextR_normal, nextR_ret, nextR_exit, aops_nil, aops_none, aops_some, opsK_some, opsG_tt, opsG_ft, opsG_tf, opsG_ff, aopsQ_nil, aopsQ_none, aopsQ_some, quiK_some, quiG_tt, quiG_ft, quiG_tf, quiG_ff, aop, evO_tmp, evO_cst, getE_cons, setE_some, setE_none, bin_leq, bin_geq, bin_lss, bin_gtr, bin_eql, bin_neq, bin_add, bin_sub, bin_mul, Option.bind_some, Option.map_some, Option.bind_none, Option.map_none, Nat.reduceEqDiff, ↓reduceIte, Nat.reduceAdd, finish, resOf, tupOf, frz_eq, AM.freeze, freeze1, freezeL, closed, nam, namL, if_true, if_false, Bool.false_eq_true, Bool.true_and, Bool.false_and, Bool.and_true, Bool.and_false, cellsOf, deref, boxAt, exAt, ldCells, oneL, oneCell, one, List.length_cons, List.length_nil, List.nil_append, List.cons_append, List.getElem?_cons_zero, List.getElem?_cons_succ, List.drop_zero, List.drop_succ_cons, List.take_succ_cons, List.take_zero, Nat.reduceLeDiff, Nat.le_refl, evL, List.map_cons, List.map_nil, List.append_nil, adopt, bin_quo, bin_rem, rigK_sc, rigK_agg, rigK_tup, fstV_eq, quiet_load, quiet_convStr, quiet_call, rigid, rigidL, trim, Nat.lt_irrefl, and_false, false_and, Int.reduceEq, decide_true, decide_false, Int.reduceMod, Int.reduceDiv, Int.mul_zero, Int.add_zero, ax_loop, quiet_move, quiet_pick, quiet_build, quiet_nilCheck, quiet_bin, quiet_eqBool, quiet_eqArr, quiet_eqAgg, quiet_eqNil, quiet_un, quiet_convInt, quiet_makeFunc, quiet_slice, quiet_toArr, quiet_fieldAddr, quiet_field, quiet_indexAddr, quiet_index, quiet_indexStr, quiet_extract, quiet_len, quiet_lenT, quiet_convSS, quiet_minmax, opsG_undef, quiG_undef, fin_ret, fin_normal, WP_some, WP_bind, WP_map, WP_ite, WP_opsK_ite, WP_quiK_ite, BQ_eq, MQ_eq, LQ_normal, LQ_exit, LQ_ret, if_pos, if_neg, Bool.not_true, Bool.not_false, asI, elCells, kz_some, kz_none, Nat.mul_one, Nat.zero_add, Int.toNat_natCast, lenOf, List.length_map, true_and, and_true, trim_off, forall_const, implies_true, and_self, aun_not, decide_eq_true, decide_eq_false, IntWalk.i64_in, IntWalk.u64_in, cast_succ', List.set_cons_zero, List.set_cons_succ, List.length_set, List.length_append, List.length_replicate, Int.natCast_nonneg, flat_one', List.getElem?_drop, Nat.add_zero, ax_regD, runD_nil, runD_none, runD_some, dK_some, dG_tt, dG_ft, dG_tf, dG_ff, dG_undef, WP_dK_ite, chkR_eq, chkD, chkO, chkW, chkV_some, chkV_off, grow_eq, effB, reB, beqV, beqVL, vEq, wantE_none, wantE_some, beq_self_eq_true, Nat.reduceSub, Nat.reduceLT, strip, stripO, storeB_K, stB_eq, splice_nil, splice_one, splice_more, setParts_nil, setParts_K, spK_eq, nxE_some, nxE_none, bne_ff, bne_tf, bne_ft, bne_tt, beq_ff, beq_tf, beq_ft, beq_tt, bne_f, bne_t, fits_of, Int.reduceSub, Int.reduceAdd, Int.reduceMul, Int.reduceLT, Int.reduceLE, Int.reduceToNat, optI, aslice, cutSl, cutMs, cutStr, cutOwn, Option.getD_some, Option.getD_none, get_app, get_app0, set_app, set_app0, tn_pred, convS]
theorem extsOK : ∀ p ∈ exts, Callable Try.prog p.1 ∧ PSound Try.prog gl p.1 p.2 := by
  intro p hp
  simp only [exts, List.mem_cons, List.not_mem_nil, or_false] at hp
  rcases hp with rfl | rfl
  · exact ⟨(fnsOK (23, F23) (lookup_mem (l := fns) (f := 23) rfl)).callable, x23⟩
  · exact ⟨(fnsOK (37, F37) (lookup_mem (l := fns) (f := 37) rfl)).callable, x37⟩
theorem e23 : T.ext 23 = some (cloneE none 1) := rfl
theorem e37 : T.ext 37 = some (cloneE (some 4) 40) := rfl
theorem tabOK : TabOK Try.prog gl T := ⟨fun f g h => extsOK (f, g) (lookup_mem h), fun f F h => fnsOK (f, F) (lookup_mem h), fun f g h => natsOK (f, g) (lookup_mem h)⟩
theorem n49 : T.nat 49 = some growG := rfl
theorem nf49 : T.fn 49 = none := rfl
theorem n33 : T.nat 33 = some cloneM33 := rfl
theorem nf33 : T.fn 33 = none := rfl
theorem n13 : T.nat 13 = some leftN := rfl
theorem nf13 : T.fn 13 = none := rfl
theorem n35 : T.nat 35 = some sortedN := rfl
theorem nf35 : T.fn 35 = none := rfl
theorem t3 : T.fn 3 = some F3 := rfl
theorem t4 : T.fn 4 = some F4 := rfl
theorem t5 : T.fn 5 = some F5 := rfl
theorem t6 : T.fn 6 = some F6 := rfl
theorem t7 : T.fn 7 = some F7 := rfl
theorem t8 : T.fn 8 = some F8 := rfl
theorem t9 : T.fn 9 = some F9 := rfl
theorem t10 : T.fn 10 = some F10 := rfl
theorem t11 : T.fn 11 = some F11 := rfl
theorem t12 : T.fn 12 = some F12 := rfl
theorem t14 : T.fn 14 = some F14 := rfl
theorem t15 : T.fn 15 = some F15 := rfl
theorem t16 : T.fn 16 = some F16 := rfl
theorem t17 : T.fn 17 = some F17 := rfl
theorem t18 : T.fn 18 = some F18 := rfl
theorem t19 : T.fn 19 = some F19 := rfl
theorem t20 : T.fn 20 = some F20 := rfl
theorem t21 : T.fn 21 = some F21 := rfl
theorem t22 : T.fn 22 = some F22 := rfl
theorem t23 : T.fn 23 = some F23 := rfl
theorem t24 : T.fn 24 = some F24 := rfl
theorem t25 : T.fn 25 = some F25 := rfl
theorem t26 : T.fn 26 = some F26 := rfl
theorem t27 : T.fn 27 = some F27 := rfl
theorem t28 : T.fn 28 = some F28 := rfl
theorem t29 : T.fn 29 = some F29 := rfl
theorem t30 : T.fn 30 = some F30 := rfl
theorem t31 : T.fn 31 = some F31 := rfl
theorem t32 : T.fn 32 = some F32 := rfl
theorem t34 : T.fn 34 = some F34 := rfl
theorem t36 : T.fn 36 = some F36 := rfl
theorem t37 : T.fn 37 = some F37 := rfl
theorem t38 : T.fn 38 = some F38 := rfl
theorem t39 : T.fn 39 = some F39 := rfl
theorem t40 : T.fn 40 = some F40 := rfl
theorem t41 : T.fn 41 = some F41 := rfl
theorem t42 : T.fn 42 = some F42 := rfl
theorem t43 : T.fn 43 = some F43 := rfl
theorem t48 : T.fn 48 = some F48 := rfl
theorem p3 : T.pure 3 = true := rfl
theorem p4 : T.pure 4 = true := rfl
theorem p5 : T.pure 5 = true := rfl
theorem p7 : T.pure 7 = true := rfl
theorem p10 : T.pure 10 = true := rfl
theorem p23 : T.pure 23 = true := rfl
theorem p25 : T.pure 25 = true := rfl
theorem p27 : T.pure 27 = true := rfl
theorem p37 : T.pure 37 = true := rfl
theorem p39 : T.pure 39 = true := rfl
theorem p40 : T.pure 40 = true := rfl
theorem p41 : T.pure 41 = true := rfl
theorem p42 : T.pure 42 = true := rfl
end Go.Proofs.Ytccllndmknnehaa.AM

/- layer 10: what must come of every program; a nil disk. -/
namespace Go.Proofs.Ytccllndmknnehaa.AM
open Go
set_option maxRecDepth 100000
set_option linter.unusedVariables false
theorem k_wp {f : Nat} {F : AFn} {args : List AV} {h : Heap} {Q : AV × Heap → Prop} (hx : T.ext f = none) (hf : T.fn f = some F) (hp : F.pure = false) (hl : args.length = F.np) (hw : WP (BQ (fin F.res) Q) (ax T F.body (initE 0 args) h)) : WP Q (ag T f args h) := by
  rw [ag_gen hx hf hp args hl, WP_bind]
  exact hw
theorem k_any {f : Nat} {F : AFn} {args : List AV} {v : Value} (hx : T.ext f = none) (hf : T.fn f = some F) (hp : F.pure = true) (hl : args.length = F.np) (hm : args.map strip = args) (hc : closedL args = true) (hr : ag T f args [] = some (.sc v, [])) (h : Heap) : ag T f args h = some (.sc v, h) := by
  rw [ag_pure hx hf hp args hl] at hr ⊢
  simp only [pcall, prep, hm, if_pos hc, Option.bind_some, Bool.false_eq_true, if_false, Option.bind_eq_some_iff] at hr ⊢
  obtain ⟨w, h1, h2⟩ := hr
  refine ⟨w, h1, ?_⟩
  unfold adopt at h2 ⊢
  split at h2
  · cases h2
  · cases h2
  · cases h2; rfl
theorem lives_g : gcall T 200 7 [] [] = some (.sc (.bool true), []) := by kernel_rfl
theorem call_lives (h : Heap) : ag T 7 [] h = some (.sc (.bool true), h) := k_any rfl t7 rfl rfl rfl rfl (ag_of_gcall lives_g) h
/-- a run that the kernel makes -/
theorem prun_run {F : AFn} {a : List AV} {v : AV} {n : Nat} (h : ((aexec (Cn T n) n F.body (initE 0 a) []).bind (finish F)).bind frz = some v) : prun T F a = some v := by
  rw [Option.bind_eq_some_iff] at h
  obtain ⟨p, h1, h2⟩ := h
  rw [Option.bind_eq_some_iff] at h1
  obtain ⟨r, h0, h1⟩ := h1
  have hr : ax T F.body (initE 0 a) [] = some r := (lim_iff (mono_ax F.body (initE 0 a) [])).2 ⟨n, h0⟩
  rw [prun_eq, hr, Option.bind_some, h1, Option.bind_some, h2]
theorem nobody_ok (k n m : Int) (nm to : ByteArray) (o : AOwn) (q : Option Nat) (l : List AV) : prun T F5 [.agg [.int .i64 k, .str nm, .str to, .slice o q l, .int .i64 n, .int .i64 m]] = some (.bool true) := prun_run (n := 200) (by kernel_rfl)
end Go.Proofs.Ytccllndmknnehaa.AM

/- What comes in: bytes, numbers. -/
namespace Go.Proofs.Ytccllndmknnehaa.AM
open Go
set_option linter.unusedSimpArgs false
set_option linter.unusedVariables false
theorem oc_slice {S : St} {xs : List AV} {a : Option Addr} {n c : Nat} (h : VL S xs (Value.slice a n c).cells.toList) : VL S xs [.slice a n c] := h
theorem oc_agg {S : St} {xs : List AV} {c : Array Value} (h : VL S xs (Value.agg c).cells.toList) : VL S [.agg xs] [.agg c] := VL_cons (by simp only [V]; exact ⟨c, rfl, h⟩) VL_nil
theorem okWide_array {P : Program} {w : World} {r : Reach} {base : Nat} {t : TypeId} {v : Value} {n : Nat} {e : TypeId} (ht : P.underlying t = some (.array n e)) (h : Value.okWide P w r base t v) : ∃ cs, v = .agg cs ∧ cs.size = P.cellsOf t := by
  simp only [Value.okWide, ht] at h
  obtain ⟨cs, h1, h2, _⟩ := h
  exact ⟨cs, h1, h2⟩
theorem wf_i64 {x : Int} (h : (Lit.int .i64 x).wf = true) : I64 x := by
  simp [Lit.wf, IntKind.min, IntKind.max, IntKind.bits, IntKind.signed] at h
  unfold I64
  omega
theorem wf_u64 {x : Int} (h : (Lit.int .u64 x).wf = true) : U64 x := by
  simp [Lit.wf, IntKind.min, IntKind.max, IntKind.bits, IntKind.signed] at h
  unfold U64
  omega
theorem wf_b {x : Int} (h : (Lit.int .u8 x).wf = true) : 0 ≤ x ∧ x ≤ 255 := by
  simp [Lit.wf, IntKind.min, IntKind.max, IntKind.bits, IntKind.signed] at h
  omega
theorem reads_i64 {P : Program} {t : TypeId} (ht : P.underlying t = some (.int .i64)) : Reads P t (fun xs => ∃ x, xs = [i64 x] ∧ I64 x) :=
  (Reads.int ht).imp fun xs ⟨x, h, w⟩ => ⟨x, h, wf_i64 w⟩
theorem reads_u64 {P : Program} {t : TypeId} (ht : P.underlying t = some (.int .u64)) : Reads P t (fun xs => ∃ x, xs = [u64 x] ∧ U64 x) :=
  (Reads.int ht).imp fun xs ⟨x, h, w⟩ => ⟨x, h, wf_u64 w⟩
theorem els_of {I : List AV → Prop} {α : Type} {k : Option Nat} {f : α → AV} {p : α → Prop} (hI : ∀ y, I y ∧ y.length = kz k ∧ oneL y = true → ∃ x, mkEl k y = f x ∧ p x) : ∀ {ys : List (List AV)}, (∀ y ∈ ys, I y ∧ y.length = kz k ∧ oneL y = true) → ∃ l : List α, ys.map (mkEl k) = l.map f ∧ l.length = ys.length ∧ ∀ x ∈ l, p x := by
  intro ys
  induction ys with
  | nil => intro _; exact ⟨[], rfl, rfl, by intro c hc; cases hc⟩
  | cons y ys ih =>
    intro h
    obtain ⟨l, h1, h2, h3⟩ := ih fun z hz => h z (List.mem_cons_of_mem _ hz)
    obtain ⟨x, hx, px⟩ := hI y (h y List.mem_cons_self)
    refine ⟨x :: l, by rw [List.map_cons, List.map_cons, h1, hx], by simp [h2], ?_⟩
    intro c hc
    rcases List.mem_cons.1 hc with rfl | hc
    · exact px
    · exact h3 c hc
theorem reads_sl {P : Program} {t e : TypeId} {k : Option Nat} {I : List AV → Prop} {α : Type} {f : α → AV} {p : α → Prop} (ht : P.underlying t = some (.slice e)) (hc : P.cellsOf e = kz k) (hz : 0 < kz k) (B : Nat) (hb : P.bytesOf e = B) (h : Reads P e I)
    (hI : ∀ y, I y ∧ y.length = kz k ∧ oneL y = true → ∃ x, mkEl k y = f x ∧ p x) : Reads P t (fun xs => ∃ l : List α, xs = [.slice .none k (l.map f)] ∧ (∀ x ∈ l, p x) ∧ l.length * B ≤ 140737488351232) :=
  (Reads.slice ht hc hz h).imp fun xs ⟨ys, h1, h2, h3⟩ => by
    obtain ⟨l, g1, g2, g3⟩ := els_of hI h3
    refine ⟨l, by rw [h1, g1], g3, ?_⟩
    rw [g2, ← hb]
    exact h2
theorem reads_bytes {P : Program} {t e : TypeId} (ht : P.underlying t = some (.slice e)) (he : P.underlying e = some (.int .u8)) (hc : P.cellsOf e = 1) (hb : P.bytesOf e = 1) : Reads P t (fun xs => ∃ l : List Int, xs = [.slice .none none (l.map u8)] ∧ Bytes l ∧ l.length ≤ 140737488351232) :=
  (reads_sl (k := none) (f := u8) (p := fun c => 0 ≤ c ∧ c ≤ 255) ht hc (by decide) 1 hb (Reads.int he) (fun y ⟨⟨x, hy, hw⟩, _, _⟩ => ⟨x, by rw [hy]; rfl, wf_b hw⟩)).imp fun xs ⟨l, h1, h2, h3⟩ => ⟨l, h1, h2, by omega⟩
theorem reads_nums {P : Program} {t e : TypeId} (ht : P.underlying t = some (.slice e)) (he : P.underlying e = some (.int .u64)) (hc : P.cellsOf e = 1) (hb : P.bytesOf e = 8) : Reads P t (fun xs => ∃ l : List Int, xs = [.slice .none none (l.map u64)] ∧ (∀ x ∈ l, U64 x) ∧ l.length * 8 ≤ 140737488351232) :=
  reads_sl (k := none) (f := u64) ht hc (by decide) 8 hb (Reads.int he) (fun y ⟨⟨x, hy, hw⟩, _, _⟩ => ⟨x, by rw [hy]; rfl, wf_u64 hw⟩)
end Go.Proofs.Ytccllndmknnehaa.AM

/- layer 10: what comes in. -/
namespace Go.Proofs.Ytccllndmknnehaa.AM
open Go
set_option linter.unusedSimpArgs false
set_option linter.unusedVariables false
/-- a call, as data -/
structure Op10 where
  k : Int
  nm : ByteArray
  to : ByteArray
  b : List Int
  n : Int
  m : Int
def Op10.av (o : Op10) : AV := .agg [i64 o.k, .str o.nm, .str o.to, .slice .none none (o.b.map u8), i64 o.n, i64 o.m]
structure Op10.ok (o : Op10) : Prop where
  k : I64 o.k
  n : I64 o.n
  m : I64 o.m
  b : Bytes o.b
  bl : o.b.length ≤ 140737488351232
  nl : o.nm.size ≤ 140737488351232
  tl : o.to.size ≤ 140737488351232
theorem reads_op {P : Program} {t ti ts tb e : TypeId} {f1 f2 f3 f4 f5 f6 : Field} (ht : P.underlying t = some (.struct #[f1, f2, f3, f4, f5, f6])) (hc : P.cellsOf t = 6)
    (ho : [f1.offset, f2.offset, f3.offset, f4.offset, f5.offset, f6.offset] = [0, 1, 2, 3, 4, 5])
    (hg : [f1.type, f2.type, f3.type, f4.type, f5.type, f6.type] = [ti, ts, ts, tb, ti, ti])
    (hi : P.underlying ti = some (.int .i64)) (ci : P.cellsOf ti = 1) (hs : P.underlying ts = some .string) (cs : P.cellsOf ts = 1) (hb : P.underlying tb = some (.slice e)) (cb : P.cellsOf tb = 1) (he : P.underlying e = some (.int .u8)) (ce : P.cellsOf e = 1) (be : P.bytesOf e = 1) :
    Reads P t (fun xs => ∃ o : Op10, xs = [i64 o.k, .str o.nm, .str o.to, .slice .none none (o.b.map u8), i64 o.n, i64 o.m] ∧ o.ok) := by
  simp only [List.cons.injEq, and_true] at ho hg
  obtain ⟨o1, o2, o3, o4, o5, o6⟩ := ho
  obtain ⟨g1, g2, g3, g4, g5, g6⟩ := hg
  have rI : Reads P ti _ := reads_i64 hi
  have rS : Reads P ts _ := Reads.string hs
  have rB : Reads P tb _ := reads_bytes hb he ce be
  refine (Reads.struct (fs := [f1, f2, f3, f4, f5, f6]) ht (by rw [hc]; simp [g1, g2, g3, g4, g5, g6, ci, cs, cb])
    (ReadsF.cons (a := 1) (by rw [g1]; exact rI) (by rw [o1]) (by rw [g1]; exact ci) (ReadsF.cons (a := 1) (by rw [g2]; exact rS) (by rw [o2]) (by rw [g2]; exact cs) (ReadsF.cons (a := 1) (by rw [g3]; exact rS) (by rw [o3]) (by rw [g3]; exact cs) (ReadsF.cons (a := 1) (by rw [g4]; exact rB) (by rw [o4]) (by rw [g4]; exact cb) (ReadsF.cons (a := 1) (by rw [g5]; exact rI) (by rw [o5]) (by rw [g5]; exact ci) (ReadsF.cons (a := 1) (by rw [g6]; exact rI) (by rw [o6]) (by rw [g6]; exact ci) ReadsF.nil))))))).imp ?_
  rintro xs ⟨_, _, rfl, ⟨x1, rfl, w1⟩, _, _, rfl, ⟨x2, rfl, w2⟩, _, _, rfl, ⟨x3, rfl, w3⟩, _, _, rfl, ⟨x4, rfl, w4, n4⟩, _, _, rfl, ⟨x5, rfl, w5⟩, _, _, rfl, ⟨x6, rfl, w6⟩, rfl⟩
  exact ⟨⟨x1, x2, x3, x4, x5, x6⟩, rfl, ⟨w1, w5, w6, w4, n4, w2, w3⟩⟩
theorem u8_nam (p : Nat → Bool) : ∀ l : List Int, namL p (l.map u8) = true
  | [] => rfl
  | x :: l => u8_nam p l
theorem call_nobody (o : Op10) : ag T 5 [.agg [i64 o.k, .str o.nm, .str o.to, .slice .none none (o.b.map u8), i64 o.n, i64 o.m]] [] = some (.sc (.bool true), []) :=
  call_sc rfl t5 rfl rfl rfl (by
    have h1 := u8_nam (fun _ => false) o.b
    simp only [closedL, namL, nam, h1, Bool.and_self]) (nobody_ok _ _ _ _ _ _ _ _)
end Go.Proofs.Ytccllndmknnehaa.AM

/- layer 10: which names may be. -/
namespace Go.Proofs.Ytccllndmknnehaa.AM
open Go
set_option maxRecDepth 100000
set_option maxHeartbeats 4000000
set_option linter.unusedVariables false
set_option linter.unusedSimpArgs false
def okB (b : Nat) : Bool := decide (97 ≤ b ∧ b ≤ 122) || decide (48 ≤ b ∧ b ≤ 57) || decide (b = 45)
def allB (s : ByteArray) : Bool := s.data.toList.all fun b => okB b.toNat
def rightS (s : ByteArray) : Bool := allB s && decide (1 ≤ s.size ∧ s.size ≤ 32)
theorem nextM_go {h : Heap} {id c : Nat} {s : ByteArray} {bs : List Nat} {es : List (AV × AV)} (hh : h[id]? = some (.map (some (.sc (.string s))) c bs es)) (hc : c < s.size) : nextM h true id = some (.tup [.bool true, .int .i64 c, .int .i32 (Utf8.decode s c).1], h.set id (.map (some (.str s)) (c + (Utf8.decode s c).2) [] [])) := by
  simp [nextM, hh, hc]
theorem nextM_over {h : Heap} {id c : Nat} {s : ByteArray} {bs : List Nat} {es : List (AV × AV)} (hh : h[id]? = some (.map (some (.sc (.string s))) c bs es)) (hc : ¬ c < s.size) : nextM h true id = some (.tup [.bool false], h) := by
  simp [nextM, hh, hc]
theorem allB_from {s : ByteArray} (h : ∀ (i : Nat) (hi : i < s.size), okB (s[i]'hi).toNat = true) : allB s = true := by
  unfold allB
  rw [List.all_eq_true]
  intro b hb
  obtain ⟨i, hi, rfl⟩ := List.mem_iff_getElem.1 hb
  exact h i (by simpa using hi)
theorem allB_not {s : ByteArray} {i : Nat} (hi : i < s.size) (h : okB (s[i]'hi).toNat = false) : allB s = false := by
  cases hc : allB s with
  | false => rfl
  | true =>
    unfold allB at hc
    rw [List.all_eq_true] at hc
    have := hc (s[i]'hi) (List.mem_of_getElem? (i := i) (by simp [hi]; rfl))
    rw [h] at this
    cases this
theorem right_loop (s : ByteArray) (e : Env) (e0 : getE e 0 = .str s) (e6 : getE e 6 = .ptr 0 0) {Q : Res → Prop} (hQ1 : allB s = true → ∀ e' h', getE e' 0 = .str s → Q (.exit 0, e', h')) (hQ2 : allB s = false → ∀ e' h', getE e' 2 = .bool false → Q (.ret, e', h')) :
    WP Q (axl T [0, 6] true L40_0 1 e [.map (some (.str s)) 0 [] []]) := by
  refine WP_loop (I := fun f e h => ∃ c : Nat, f = s.size - c ∧ c ≤ s.size ∧ (∀ (i : Nat) (hi : i < s.size), i < c → okB (s[i]'hi).toNat = true) ∧ getE e 0 = .str s ∧ getE e 6 = .ptr 0 0 ∧ h = [.map (some (.str s)) c [] []]) ?_ s.size _ _
    ⟨0, rfl, Nat.zero_le _, fun i hi h => by omega, e0, e6, rfl⟩
  clear e0 e6 e
  rintro f e h ⟨c, rfl, hc, hall, e0, e6, rfl⟩
  rw [trim_same' (by simp)]
  by_cases hlt : c < s.size
  · have hn : nextM [.map (some (.str s)) c [] []] true 0 = _ := nextM_go rfl hlt
    by_cases hb : (s[c]'hlt).toNat < 128
    · have hd := decode_ascii s c hlt hb
      rw [hd] at hn
      by_cases hk : okB (s[c]'hlt).toNat = true
      · have hgo : ∀ (i : Nat) (hi : i < s.size), i < c + 1 → okB (s[i]'hi).toNat = true := fun i hi h => by
          by_cases hic : i = c
          · subst hic; exact hk
          · exact hall i hi (by omega)
        generalize (s[c]'hlt).toNat = b at *
        unfold okB at hk
        simp only [Bool.or_eq_true, decide_eq_true_eq] at hk
        first | have hb := hb | have hb := trivial
        repeat' (first | (simp -implicitDefEqProofs (disch := omega) only [hb, L40_0, e0, e6, hn, wC, initE, aop, Nat.reduceEqDiff, ↓reduceIte, Nat.reduceAdd, finish, resOf, tupOf, AM.freeze, freeze1, freezeL, closed, nam, namL, if_true, if_false, deref, boxAt, exAt, ldCells, oneL, oneCell, Nat.reduceLeDiff, evL, adopt, rigid, rigidL, trim, Int.reduceEq, Int.reduceMod, Int.reduceDiv, if_pos, if_neg, asI, forall_const, implies_true, chkD, chkO, chkW, effB, reB, vEq, beq_self_eq_true, Nat.reduceSub, Nat.reduceLT, Int.reduceSub, Int.reduceAdd, Int.reduceMul, Int.reduceLT, Int.reduceLE, Int.reduceToNat, optI, aslice, cutSl, cutMs, cutStr, cutOwn, cellsOf, one, elCells, lenOf, beqV, beqVL, strip, stripO, convS]) | ((first | rw [WP_condK] | rw [WP_opsG] | rw [WP_quiG] | rw [WP_dG]); refine And.intro (fun hb => ?_) (fun hb => ?_) <;> (first | have hd := dq1 hb | have hd := dq2 hb | have hd := dq3 hb | have hd := dq4 hb | skip)))
        all_goals first
          | omega
          | exact ⟨s.size - (c + 1), by omega, c + 1, rfl, by omega, hgo, rfl⟩
      · have hbad := allB_not hlt (by simpa using hk)
        have hQ := hQ2 hbad
        generalize (s[c]'hlt).toNat = b at *
        unfold okB at hk
        simp only [Bool.or_eq_true, decide_eq_true_eq] at hk
        first | have hb := hb | have hb := trivial
        repeat' (first | (simp -implicitDefEqProofs (disch := omega) only [hb, L40_0, e0, e6, hn, wC, initE, aop, Nat.reduceEqDiff, ↓reduceIte, Nat.reduceAdd, finish, resOf, tupOf, AM.freeze, freeze1, freezeL, closed, nam, namL, if_true, if_false, deref, boxAt, exAt, ldCells, oneL, oneCell, Nat.reduceLeDiff, evL, adopt, rigid, rigidL, trim, Int.reduceEq, Int.reduceMod, Int.reduceDiv, if_pos, if_neg, asI, forall_const, implies_true, chkD, chkO, chkW, effB, reB, vEq, beq_self_eq_true, Nat.reduceSub, Nat.reduceLT, Int.reduceSub, Int.reduceAdd, Int.reduceMul, Int.reduceLT, Int.reduceLE, Int.reduceToNat, optI, aslice, cutSl, cutMs, cutStr, cutOwn, cellsOf, one, elCells, lenOf, beqV, beqVL, strip, stripO, convS]) | ((first | rw [WP_condK] | rw [WP_opsG] | rw [WP_quiG] | rw [WP_dG]); refine And.intro (fun hb => ?_) (fun hb => ?_) <;> (first | have hd := dq1 hb | have hd := dq2 hb | have hd := dq3 hb | have hd := dq4 hb | skip)))
        all_goals first
          | omega
          | exact hQ _ _ rfl
    · obtain ⟨h1, h2⟩ := decode_high s c hlt (by omega)
      have hbad := allB_not hlt (by unfold okB; simp; omega)
      have hQ := hQ2 hbad
      generalize Utf8.decode s c = d at *
      first | have hb := hb | have hb := trivial
      repeat' (first | (simp -implicitDefEqProofs (disch := omega) only [hb, L40_0, e0, e6, hn, wC, initE, aop, Nat.reduceEqDiff, ↓reduceIte, Nat.reduceAdd, finish, resOf, tupOf, AM.freeze, freeze1, freezeL, closed, nam, namL, if_true, if_false, deref, boxAt, exAt, ldCells, oneL, oneCell, Nat.reduceLeDiff, evL, adopt, rigid, rigidL, trim, Int.reduceEq, Int.reduceMod, Int.reduceDiv, if_pos, if_neg, asI, forall_const, implies_true, chkD, chkO, chkW, effB, reB, vEq, beq_self_eq_true, Nat.reduceSub, Nat.reduceLT, Int.reduceSub, Int.reduceAdd, Int.reduceMul, Int.reduceLT, Int.reduceLE, Int.reduceToNat, optI, aslice, cutSl, cutMs, cutStr, cutOwn, cellsOf, one, elCells, lenOf, beqV, beqVL, strip, stripO, convS]) | ((first | rw [WP_condK] | rw [WP_opsG] | rw [WP_quiG] | rw [WP_dG]); refine And.intro (fun hb => ?_) (fun hb => ?_) <;> (first | have hd := dq1 hb | have hd := dq2 hb | have hd := dq3 hb | have hd := dq4 hb | skip)))
      all_goals first
        | omega
        | exact hQ _ _ rfl
  · have hn : nextM [.map (some (.str s)) c [] []] true 0 = _ := nextM_over rfl hlt
    have hQ := hQ1 (allB_from fun i hi => hall i hi (by omega))
    first | have hb := hb | have hb := trivial
    repeat' (first | (simp -implicitDefEqProofs (disch := omega) only [hb, L40_0, e0, e6, hn, wC, initE, aop, Nat.reduceEqDiff, ↓reduceIte, Nat.reduceAdd, finish, resOf, tupOf, AM.freeze, freeze1, freezeL, closed, nam, namL, if_true, if_false, deref, boxAt, exAt, ldCells, oneL, oneCell, Nat.reduceLeDiff, evL, adopt, rigid, rigidL, trim, Int.reduceEq, Int.reduceMod, Int.reduceDiv, if_pos, if_neg, asI, forall_const, implies_true, chkD, chkO, chkW, effB, reB, vEq, beq_self_eq_true, Nat.reduceSub, Nat.reduceLT, Int.reduceSub, Int.reduceAdd, Int.reduceMul, Int.reduceLT, Int.reduceLE, Int.reduceToNat, optI, aslice, cutSl, cutMs, cutStr, cutOwn, cellsOf, one, elCells, lenOf, beqV, beqVL, strip, stripO, convS]) | ((first | rw [WP_condK] | rw [WP_opsG] | rw [WP_quiG] | rw [WP_dG]); refine And.intro (fun hb => ?_) (fun hb => ?_) <;> (first | have hd := dq1 hb | have hd := dq2 hb | have hd := dq3 hb | have hd := dq4 hb | skip)))
    exact hQ _ _ rfl
theorem right_ok (s : ByteArray) (hs : s.size ≤ 9223372036854775807) : prun T F40 [.str s] = some (.bool (rightS s)) := by
  refine WP_eq (prun_wp ?_)
  first | have hb := hb | have hb := trivial
  repeat' (first | (simp -implicitDefEqProofs (disch := omega) only [hb, F40, wC, initE, aop, Nat.reduceEqDiff, ↓reduceIte, Nat.reduceAdd, finish, resOf, tupOf, AM.freeze, freeze1, freezeL, closed, nam, namL, if_true, if_false, deref, boxAt, exAt, ldCells, oneL, oneCell, Nat.reduceLeDiff, evL, adopt, rigid, rigidL, trim, Int.reduceEq, Int.reduceMod, Int.reduceDiv, if_pos, if_neg, asI, forall_const, implies_true, chkD, chkO, chkW, effB, reB, vEq, beq_self_eq_true, Nat.reduceSub, Nat.reduceLT, Int.reduceSub, Int.reduceAdd, Int.reduceMul, Int.reduceLT, Int.reduceLE, Int.reduceToNat, optI, aslice, cutSl, cutMs, cutStr, cutOwn, cellsOf, one, elCells, lenOf, beqV, beqVL, strip, stripO, convS]) | ((first | rw [WP_condK] | rw [WP_opsG] | rw [WP_quiG] | rw [WP_dG]); refine And.intro (fun hb => ?_) (fun hb => ?_) <;> (first | have hd := dq1 hb | have hd := dq2 hb | have hd := dq3 hb | have hd := dq4 hb | skip)))
  refine right_loop s _ rfl rfl (fun ha e' h' e0 => ?_) (fun ha e' h' e2 => ?_)
  · have hr : rightS s = decide (1 ≤ s.size ∧ s.size ≤ 32) := by unfold rightS; rw [ha]; rfl
    rw [hr]
    first | have hb := hb | have hb := trivial
    repeat' (first | (simp -implicitDefEqProofs (disch := omega) only [hb, F40, e0, wC, initE, aop, Nat.reduceEqDiff, ↓reduceIte, Nat.reduceAdd, finish, resOf, tupOf, AM.freeze, freeze1, freezeL, closed, nam, namL, if_true, if_false, deref, boxAt, exAt, ldCells, oneL, oneCell, Nat.reduceLeDiff, evL, adopt, rigid, rigidL, trim, Int.reduceEq, Int.reduceMod, Int.reduceDiv, if_pos, if_neg, asI, forall_const, implies_true, chkD, chkO, chkW, effB, reB, vEq, beq_self_eq_true, Nat.reduceSub, Nat.reduceLT, Int.reduceSub, Int.reduceAdd, Int.reduceMul, Int.reduceLT, Int.reduceLE, Int.reduceToNat, optI, aslice, cutSl, cutMs, cutStr, cutOwn, cellsOf, one, elCells, lenOf, beqV, beqVL, strip, stripO, convS]) | ((first | rw [WP_condK] | rw [WP_opsG] | rw [WP_quiG] | rw [WP_dG]); refine And.intro (fun hb => ?_) (fun hb => ?_) <;> (first | have hd := dq1 hb | have hd := dq2 hb | have hd := dq3 hb | have hd := dq4 hb | skip)))
    all_goals (first | omega | (congr 2; rw [Bool.eq_iff_iff]; simp only [decide_eq_true_eq, Bool.false_eq_true, false_iff]; omega))
  · have hr : rightS s = false := by unfold rightS; rw [ha]; rfl
    rw [hr]
    first | have hb := hb | have hb := trivial
    repeat' (first | (simp -implicitDefEqProofs (disch := omega) only [hb, F40, e2, wC, initE, aop, Nat.reduceEqDiff, ↓reduceIte, Nat.reduceAdd, finish, resOf, tupOf, AM.freeze, freeze1, freezeL, closed, nam, namL, if_true, if_false, deref, boxAt, exAt, ldCells, oneL, oneCell, Nat.reduceLeDiff, evL, adopt, rigid, rigidL, trim, Int.reduceEq, Int.reduceMod, Int.reduceDiv, if_pos, if_neg, asI, forall_const, implies_true, chkD, chkO, chkW, effB, reB, vEq, beq_self_eq_true, Nat.reduceSub, Nat.reduceLT, Int.reduceSub, Int.reduceAdd, Int.reduceMul, Int.reduceLT, Int.reduceLE, Int.reduceToNat, optI, aslice, cutSl, cutMs, cutStr, cutOwn, cellsOf, one, elCells, lenOf, beqV, beqVL, strip, stripO, convS]) | ((first | rw [WP_condK] | rw [WP_opsG] | rw [WP_quiG] | rw [WP_dG]); refine And.intro (fun hb => ?_) (fun hb => ?_) <;> (first | have hd := dq1 hb | have hd := dq2 hb | have hd := dq3 hb | have hd := dq4 hb | skip)))
theorem call_right (s : ByteArray) (hs : s.size ≤ 9223372036854775807) (h : Heap) : ag T 40 [.str s] h = some (.sc (.bool (rightS s)), h) :=
  call_sc rfl t40 rfl rfl rfl rfl (right_ok s hs)
theorem at_byte {s : ByteArray} {i : Nat} (hi : i < s.size) : s.data.toList[i]? = some (s[i]'hi) := by
  rw [Array.getElem?_toList]
  exact Array.getElem?_eq_getElem hi
theorem rright_loop (s : ByteArray) (hs : s.size ≤ 9223372036854775807) (e : Env) (h : Heap) (e0 : getE e 0 = .str s) (e3 : getE e 3 = .int .i64 0) {Q : Res → Prop} (hQ1 : allB s = true → ∀ e', getE e' 0 = .str s → Q (.exit 0, e', h)) (hQ2 : allB s = false → ∀ e', getE e' 2 = .bool false → Q (.ret, e', h)) :
    WP Q (axl T [0, 3] true L10_0 h.length e h) := by
  refine WP_loop (I := fun f e h' => ∃ c : Nat, f = s.size - c ∧ c ≤ s.size ∧ (∀ (i : Nat) (hi : i < s.size), i < c → okB (s[i]'hi).toNat = true) ∧ getE e 0 = .str s ∧ getE e 3 = .int .i64 c ∧ h' = h) ?_ s.size _ _
    ⟨0, rfl, Nat.zero_le _, fun i hi h => by omega, e0, e3, rfl⟩
  clear e0 e3 e
  rintro f e h' ⟨c, rfl, hc, hall, e0, e3, rfl⟩
  rw [trim_same' (Nat.le_refl _)]
  by_cases hlt : c < s.size
  · have hwr : IntKind.i64.wrap ((c : Int) + 1) = ((c + 1 : Nat) : Int) := by rw [IntKind.wrap_i64]; omega
    have hc0 : (c : Int) < (s.size : Int) := by omega
    have hat := at_byte hlt
    by_cases hk : okB (s[c]'hlt).toNat = true
    · have hgo : ∀ (i : Nat) (hi : i < s.size), i < c + 1 → okB (s[i]'hi).toNat = true := fun i hi h => by
        by_cases hic : i = c
        · subst hic; exact hk
        · exact hall i hi (by omega)
      generalize s[c]'hlt = b at *
      unfold okB at hk
      simp only [Bool.or_eq_true, decide_eq_true_eq] at hk
      first | have hb := hb | have hb := trivial
      repeat' (first | (simp -implicitDefEqProofs (disch := omega) only [hb, L10_0, e0, e3, hc0, hat, hwr, wC, initE, aop, Nat.reduceEqDiff, ↓reduceIte, Nat.reduceAdd, finish, resOf, tupOf, AM.freeze, freeze1, freezeL, closed, nam, namL, if_true, if_false, deref, boxAt, exAt, ldCells, oneL, oneCell, Nat.reduceLeDiff, evL, adopt, rigid, rigidL, trim, Int.reduceEq, Int.reduceMod, Int.reduceDiv, if_pos, if_neg, asI, forall_const, implies_true, chkD, chkO, chkW, effB, reB, vEq, beq_self_eq_true, Nat.reduceSub, Nat.reduceLT, Int.reduceSub, Int.reduceAdd, Int.reduceMul, Int.reduceLT, Int.reduceLE, Int.reduceToNat, optI, aslice, cutSl, cutMs, cutStr, cutOwn, cellsOf, one, elCells, lenOf, beqV, beqVL, strip, stripO, convS]) | ((first | rw [WP_condK] | rw [WP_opsG] | rw [WP_quiG] | rw [WP_dG]); refine And.intro (fun hb => ?_) (fun hb => ?_) <;> (first | have hd := dq1 hb | have hd := dq2 hb | have hd := dq3 hb | have hd := dq4 hb | skip)))
      all_goals first
        | omega
        | exact ⟨s.size - (c + 1), by omega, c + 1, rfl, by omega, hgo, rfl⟩
    · have hbad := allB_not hlt (by simpa using hk)
      have hQ := hQ2 hbad
      generalize s[c]'hlt = b at *
      unfold okB at hk
      simp only [Bool.or_eq_true, decide_eq_true_eq] at hk
      first | have hb := hb | have hb := trivial
      repeat' (first | (simp -implicitDefEqProofs (disch := omega) only [hb, L10_0, e0, e3, hc0, hat, wC, initE, aop, Nat.reduceEqDiff, ↓reduceIte, Nat.reduceAdd, finish, resOf, tupOf, AM.freeze, freeze1, freezeL, closed, nam, namL, if_true, if_false, deref, boxAt, exAt, ldCells, oneL, oneCell, Nat.reduceLeDiff, evL, adopt, rigid, rigidL, trim, Int.reduceEq, Int.reduceMod, Int.reduceDiv, if_pos, if_neg, asI, forall_const, implies_true, chkD, chkO, chkW, effB, reB, vEq, beq_self_eq_true, Nat.reduceSub, Nat.reduceLT, Int.reduceSub, Int.reduceAdd, Int.reduceMul, Int.reduceLT, Int.reduceLE, Int.reduceToNat, optI, aslice, cutSl, cutMs, cutStr, cutOwn, cellsOf, one, elCells, lenOf, beqV, beqVL, strip, stripO, convS]) | ((first | rw [WP_condK] | rw [WP_opsG] | rw [WP_quiG] | rw [WP_dG]); refine And.intro (fun hb => ?_) (fun hb => ?_) <;> (first | have hd := dq1 hb | have hd := dq2 hb | have hd := dq3 hb | have hd := dq4 hb | skip)))
      all_goals first
        | omega
        | exact hQ _ rfl
  · have hc0 : ¬ ((c : Int) < (s.size : Int)) := by omega
    have hQ := hQ1 (allB_from fun i hi => hall i hi (by omega))
    first | have hb := hb | have hb := trivial
    repeat' (first | (simp -implicitDefEqProofs (disch := omega) only [hb, L10_0, e0, e3, hc0, wC, initE, aop, Nat.reduceEqDiff, ↓reduceIte, Nat.reduceAdd, finish, resOf, tupOf, AM.freeze, freeze1, freezeL, closed, nam, namL, if_true, if_false, deref, boxAt, exAt, ldCells, oneL, oneCell, Nat.reduceLeDiff, evL, adopt, rigid, rigidL, trim, Int.reduceEq, Int.reduceMod, Int.reduceDiv, if_pos, if_neg, asI, forall_const, implies_true, chkD, chkO, chkW, effB, reB, vEq, beq_self_eq_true, Nat.reduceSub, Nat.reduceLT, Int.reduceSub, Int.reduceAdd, Int.reduceMul, Int.reduceLT, Int.reduceLE, Int.reduceToNat, optI, aslice, cutSl, cutMs, cutStr, cutOwn, cellsOf, one, elCells, lenOf, beqV, beqVL, strip, stripO, convS]) | ((first | rw [WP_condK] | rw [WP_opsG] | rw [WP_quiG] | rw [WP_dG]); refine And.intro (fun hb => ?_) (fun hb => ?_) <;> (first | have hd := dq1 hb | have hd := dq2 hb | have hd := dq3 hb | have hd := dq4 hb | skip)))
    exact hQ _ rfl
theorem rright_ok (s : ByteArray) (hs : s.size ≤ 9223372036854775807) : prun T F10 [.str s] = some (.bool (rightS s)) := by
  refine WP_eq (prun_wp ?_)
  first | have hb := hb | have hb := trivial
  repeat' (first | (simp -implicitDefEqProofs (disch := omega) only [hb, F10, wC, initE, aop, Nat.reduceEqDiff, ↓reduceIte, Nat.reduceAdd, finish, resOf, tupOf, AM.freeze, freeze1, freezeL, closed, nam, namL, if_true, if_false, deref, boxAt, exAt, ldCells, oneL, oneCell, Nat.reduceLeDiff, evL, adopt, rigid, rigidL, trim, Int.reduceEq, Int.reduceMod, Int.reduceDiv, if_pos, if_neg, asI, forall_const, implies_true, chkD, chkO, chkW, effB, reB, vEq, beq_self_eq_true, Nat.reduceSub, Nat.reduceLT, Int.reduceSub, Int.reduceAdd, Int.reduceMul, Int.reduceLT, Int.reduceLE, Int.reduceToNat, optI, aslice, cutSl, cutMs, cutStr, cutOwn, cellsOf, one, elCells, lenOf, beqV, beqVL, strip, stripO, convS]) | ((first | rw [WP_condK] | rw [WP_opsG] | rw [WP_quiG] | rw [WP_dG]); refine And.intro (fun hb => ?_) (fun hb => ?_) <;> (first | have hd := dq1 hb | have hd := dq2 hb | have hd := dq3 hb | have hd := dq4 hb | skip)))
  refine rright_loop s hs _ [] rfl rfl (fun ha e' e0 => ?_) (fun ha e' e2 => ?_)
  · have hr : rightS s = decide (1 ≤ s.size ∧ s.size ≤ 32) := by unfold rightS; rw [ha]; rfl
    rw [hr]
    first | have hb := hb | have hb := trivial
    repeat' (first | (simp -implicitDefEqProofs (disch := omega) only [hb, F10, e0, wC, initE, aop, Nat.reduceEqDiff, ↓reduceIte, Nat.reduceAdd, finish, resOf, tupOf, AM.freeze, freeze1, freezeL, closed, nam, namL, if_true, if_false, deref, boxAt, exAt, ldCells, oneL, oneCell, Nat.reduceLeDiff, evL, adopt, rigid, rigidL, trim, Int.reduceEq, Int.reduceMod, Int.reduceDiv, if_pos, if_neg, asI, forall_const, implies_true, chkD, chkO, chkW, effB, reB, vEq, beq_self_eq_true, Nat.reduceSub, Nat.reduceLT, Int.reduceSub, Int.reduceAdd, Int.reduceMul, Int.reduceLT, Int.reduceLE, Int.reduceToNat, optI, aslice, cutSl, cutMs, cutStr, cutOwn, cellsOf, one, elCells, lenOf, beqV, beqVL, strip, stripO, convS]) | ((first | rw [WP_condK] | rw [WP_opsG] | rw [WP_quiG] | rw [WP_dG]); refine And.intro (fun hb => ?_) (fun hb => ?_) <;> (first | have hd := dq1 hb | have hd := dq2 hb | have hd := dq3 hb | have hd := dq4 hb | skip)))
    all_goals (first | omega | (congr 2; rw [Bool.eq_iff_iff]; simp only [decide_eq_true_eq, Bool.false_eq_true, false_iff]; omega))
  · have hr : rightS s = false := by unfold rightS; rw [ha]; rfl
    rw [hr]
    first | have hb := hb | have hb := trivial
    repeat' (first | (simp -implicitDefEqProofs (disch := omega) only [hb, F10, e2, wC, initE, aop, Nat.reduceEqDiff, ↓reduceIte, Nat.reduceAdd, finish, resOf, tupOf, AM.freeze, freeze1, freezeL, closed, nam, namL, if_true, if_false, deref, boxAt, exAt, ldCells, oneL, oneCell, Nat.reduceLeDiff, evL, adopt, rigid, rigidL, trim, Int.reduceEq, Int.reduceMod, Int.reduceDiv, if_pos, if_neg, asI, forall_const, implies_true, chkD, chkO, chkW, effB, reB, vEq, beq_self_eq_true, Nat.reduceSub, Nat.reduceLT, Int.reduceSub, Int.reduceAdd, Int.reduceMul, Int.reduceLT, Int.reduceLE, Int.reduceToNat, optI, aslice, cutSl, cutMs, cutStr, cutOwn, cellsOf, one, elCells, lenOf, beqV, beqVL, strip, stripO, convS]) | ((first | rw [WP_condK] | rw [WP_opsG] | rw [WP_quiG] | rw [WP_dG]); refine And.intro (fun hb => ?_) (fun hb => ?_) <;> (first | have hd := dq1 hb | have hd := dq2 hb | have hd := dq3 hb | have hd := dq4 hb | skip)))
theorem call_rright (s : ByteArray) (hs : s.size ≤ 9223372036854775807) (h : Heap) : ag T 10 [.str s] h = some (.sc (.bool (rightS s)), h) :=
  call_sc rfl t10 rfl rfl rfl rfl (rright_ok s hs)
theorem call_may1 (s : ByteArray) (hs : s.size ≤ 9223372036854775807) (h : Heap) : ag T 39 [.str s] h = some (.sc (.bool (!rightS s)), h) := by
  have h1 := fun h => call_right s hs h
  refine call_sc rfl t39 rfl rfl rfl rfl (WP_eq (prun_wp ?_))
  first | have hb := hb | have hb := trivial
  repeat' (first | (simp -implicitDefEqProofs (disch := omega) only [hb, F39, h1, wC, initE, aop, Nat.reduceEqDiff, ↓reduceIte, Nat.reduceAdd, finish, resOf, tupOf, AM.freeze, freeze1, freezeL, closed, nam, namL, if_true, if_false, deref, boxAt, exAt, ldCells, oneL, oneCell, Nat.reduceLeDiff, evL, adopt, rigid, rigidL, trim, Int.reduceEq, Int.reduceMod, Int.reduceDiv, if_pos, if_neg, asI, forall_const, implies_true, chkD, chkO, chkW, effB, reB, vEq, beq_self_eq_true, Nat.reduceSub, Nat.reduceLT, Int.reduceSub, Int.reduceAdd, Int.reduceMul, Int.reduceLT, Int.reduceLE, Int.reduceToNat, optI, aslice, cutSl, cutMs, cutStr, cutOwn, cellsOf, one, elCells, lenOf, beqV, beqVL, strip, stripO, convS]) | ((first | rw [WP_condK] | rw [WP_opsG] | rw [WP_quiG] | rw [WP_dG]); refine And.intro (fun hb => ?_) (fun hb => ?_) <;> (first | have hd := dq1 hb | have hd := dq2 hb | have hd := dq3 hb | have hd := dq4 hb | skip)))
end Go.Proofs.Ytccllndmknnehaa.AM

/- layer 10: texts; what files a tree has, as data. -/
namespace Go.Proofs.Ytccllndmknnehaa.AM
open Go
set_option linter.unusedVariables false
set_option linter.unusedSimpArgs false
set_option maxRecDepth 100000
theorem st_data (l : List Int) : (strOfNums l).data.toList = l.map fun n => UInt8.ofNat n.toNat := by rw [strOfNums_data]
theorem st_size (l : List Int) : (strOfNums l).size = l.length := by
  show (strOfNums l).data.size = _
  rw [← Array.length_toList, st_data, List.length_map]
theorem u8_nat {c : Int} (h : 0 ≤ c ∧ c ≤ 255) : ((UInt8.ofNat c.toNat).toNat : Int) = c := by
  simp only [UInt8.toNat_ofNat']
  omega
theorem st_of (s : ByteArray) : ∃ l, Bytes l ∧ s = strOfNums l := by
  refine ⟨s.data.toList.map fun b => (b.toNat : Int), fun c hc => ?_, ?_⟩
  · obtain ⟨b, _, rfl⟩ := List.mem_map.1 hc
    have := b.toNat_lt
    omega
  · apply ByteArray.ext
    apply Array.toList_inj.1
    rw [st_data, List.map_map]
    conv => lhs; rw [← List.map_id s.data.toList]
    refine List.map_congr_left fun b _ => ?_
    simp
theorem st_beq {a b : List Int} (ha : Bytes a) (hb : Bytes b) : ((strOfNums a).toList == (strOfNums b).toList) = decide (a = b) := by
  by_cases h : a = b
  · subst h; simp
  · rw [decide_eq_false h, beq_eq_false_iff_ne]
    exact fun hh => h (str_inj ha hb hh)
theorem st_eq {a b : List Int} (ha : Bytes a) (hb : Bytes b) : abin .eql (.string (strOfNums a)) (.string (strOfNums b)) = some (.bool (decide (a = b))) := by
  simp only [abin, astr, st_beq ha hb]
theorem st_ne {a b : List Int} (ha : Bytes a) (hb : Bytes b) : abin .neq (.string (strOfNums a)) (.string (strOfNums b)) = some (.bool (!decide (a = b))) := by
  have := st_eq ha hb
  simp only [abin, astr, Option.some.injEq, Value.bool.injEq] at this ⊢
  rw [this]
theorem mapO (n : Nat) : cellsOf (.map n) = some [.map n] ∧ one (.map n) = true ∧ strip (.map n) = .map n ∧ beqV (.map n) (.map n) = true := ⟨rfl, rfl, rfl, by simp [beqV]⟩
/-- a file's parts; files by their names -/
abbrev Fl := List (List Int)
abbrev Fs := List (List Int × Fl)
def partV (l : List Int) : AV := .slice .none none (l.map u8)
def fileV (ps : Fl) : AV := .agg [.slice .none none (ps.map partV), i64 (ps.flatten.length : Nat)]
def entV (x : List Int × Fl) : AV × AV := (.str (strOfNums x.1), fileV x.2)
def fsV (fs : Fs) : List (AV × AV) := fs.map entV
def findF (nm : List Int) : Fs → Nat → Option (Nat × Fl)
  | [], _ => none
  | x :: r, i => if nm = x.1 then some (i, x.2) else findF nm r (i + 1)
def Names (fs : Fs) : Prop := ∀ x ∈ fs, Bytes x.1
theorem findM_fs {nm : List Int} (hn : Bytes nm) : ∀ {fs : Fs}, Names fs → ∀ i, findM [.str] (.str (strOfNums nm)) (fsV fs) i = some ((findF nm fs i).map fun r => (r.1, fileV r.2))
  | [], _, i => rfl
  | x :: r, h, i => by
    have hx := h x List.mem_cons_self
    have ih := findM_fs hn (fs := r) (fun y hy => h y (List.mem_cons_of_mem _ hy)) (i + 1)
    have hk : keyEq [.str] (.str (strOfNums nm)) (.str (strOfNums x.1)) = some (decide (nm = x.1)) := by
      simp only [keyEq, eqAV, Option.map_some, st_beq hn hx, Bool.and_true]
    show findM [.str] (.str (strOfNums nm)) (entV x :: fsV r) i = _
    rw [findM]
    show (match keyEq [.str] (.str (strOfNums nm)) (.str (strOfNums x.1)) with
      | some true => some (some (i, fileV x.2))
      | some false => findM [.str] (.str (strOfNums nm)) (fsV r) (i + 1)
      | none => none) = _
    rw [hk]
    by_cases e : nm = x.1
    · simp only [decide_eq_true e, findF, if_pos e, Option.map_some]
    · simp only [decide_eq_false e, findF, if_neg e, ih]
def putF (fs : Fs) (nm : List Int) (ps : Fl) : Option (Nat × Fl) → Fs
  | some r => fs.set r.1 (nm, ps)
  | none => fs ++ [(nm, ps)]
theorem putM_fs (fs : Fs) (nm : List Int) (ps : Fl) (r : Option (Nat × Fl)) : putM (fsV fs) (.str (strOfNums nm)) (fileV ps) (r.map fun r => (r.1, fileV r.2)) = fsV (putF fs nm ps r) := by
  cases r with
  | none => simp [putM, putF, fsV, entV]
  | some r => simp [putM, putF, fsV, entV, List.map_set]
theorem erase_fs (fs : Fs) (i : Nat) : (fsV fs).eraseIdx i = fsV (fs.eraseIdx i) := by
  unfold fsV
  rw [ChangeMaps.map_eraseIdx]
def valF : Option (Nat × Fl) → AV
  | some r => fileV r.2
  | none => .agg [.nil, .int .i64 0]
theorem valM_fs (r : Option (Nat × Fl)) : valM (.agg [.nil, .int .i64 0]) (r.map fun r => (r.1, fileV r.2)) = valF r := by cases r <;> rfl
def totF (fs : Fs) : Nat := (fs.map fun x => x.2.flatten.length).sum
theorem szA_fs (fs : Fs) : ((fsV fs).map szA).sum = (totF fs : Int) := by
  unfold totF fsV
  induction fs with
  | nil => rfl
  | cons x r ih =>
    simp only [List.map_cons, List.sum_cons] at ih ⊢
    rw [ih]
    simp [entV, szA, fileV]
theorem fileB_fs (fs : Fs) : (fsV fs).all fileB = true := by
  rw [List.all_eq_true]
  intro x hx
  obtain ⟨y, _, rfl⟩ := List.mem_map.1 hx
  rfl
theorem partV_nam (p : Nat → Bool) (l : List Int) : nam p (partV l) = true := by
  unfold partV
  simp only [nam, u8_nam, Bool.and_self]
theorem parts_nam (p : Nat → Bool) : ∀ ps : Fl, namL p (ps.map partV) = true
  | [] => rfl
  | x :: r => by simp only [List.map_cons, namL, partV_nam, parts_nam p r, Bool.and_self]
theorem fileV_nam (p : Nat → Bool) (ps : Fl) : nam p (fileV ps) = true := by
  unfold fileV
  simp only [nam, namL, parts_nam, Bool.and_self]
end Go.Proofs.Ytccllndmknnehaa.AM

/- layer 10: what a file has; a file with more. -/
namespace Go.Proofs.Ytccllndmknnehaa.AM
open Go
set_option maxRecDepth 100000
set_option maxHeartbeats 4000000
set_option linter.unusedVariables false
set_option linter.unusedSimpArgs false
theorem parts_snoc {ps : Fl} {j : Nat} {x : List Int} (hx : ps[j]? = some x) : (ps.take (j + 1)).flatten = (ps.take j).flatten ++ x := by
  rw [List.take_add_one, hx]
  simp
theorem flat_le (ps : Fl) (j : Nat) : (ps.take j).flatten.length ≤ ps.flatten.length := by
  conv => rhs; rw [← List.take_append_drop j ps]
  rw [List.flatten_append, List.length_append]
  omega
theorem concat1 (ps : Fl) (hB : ps.flatten.length ≤ 140737488355328) (hl : ps.length ≤ 140737488355328) (o : AOwn) (e : Env) (h : Heap) (e0 : getE e 0 = .slice o none (ps.map partV)) (e3 : getE e 3 = i64 0) (e9 : getE e 9 = .slice o none (ps.map partV)) (e10 : getE e 10 = i64 ps.length) (e11 : getE e 11 = i64 0) {Q : Res → Prop}
    (hQ : ∀ e', getE e' 0 = .slice o none (ps.map partV) → getE e' 3 = i64 (ps.flatten.length : Nat) → Q (.exit 0, e', h)) :
    WP Q (axl T [0, 3, 9, 10, 11] true L42_1 h.length e h) := by
  refine WP_loop (I := fun f e h' => ∃ j : Nat, f = ps.length - j ∧ j ≤ ps.length ∧ getE e 0 = .slice o none (ps.map partV) ∧ getE e 3 = i64 ((ps.take j).flatten.length : Nat) ∧ getE e 9 = .slice o none (ps.map partV) ∧ getE e 10 = i64 ps.length ∧ getE e 11 = i64 j ∧ h' = h) ?_ ps.length _ _
    ⟨0, rfl, Nat.zero_le _, e0, by rw [e3]; rfl, e9, e10, e11, rfl⟩
  clear e0 e3 e9 e10 e11 e
  rintro f e h' ⟨j, rfl, hj, e0, e3, e9, e10, e11, rfl⟩
  rw [trim_same' (Nat.le_refl _)]
  by_cases hjn : j = ps.length
  · have hlt : ¬ ((j : Int) < (ps.length : Int)) := by omega
    rw [List.take_of_length_le (by omega)] at e3
    first | have hb := hb | have hb := trivial
    repeat' (first | (simp -implicitDefEqProofs (disch := omega) only [hb, L42_1, e0, e3, e9, e10, e11, hlt, wC, initE, aop, Nat.reduceEqDiff, ↓reduceIte, Nat.reduceAdd, finish, resOf, tupOf, AM.freeze, freeze1, freezeL, closed, nam, namL, if_true, if_false, deref, boxAt, exAt, ldCells, oneL, oneCell, Nat.reduceLeDiff, evL, adopt, rigid, rigidL, trim, Int.reduceEq, Int.reduceMod, Int.reduceDiv, if_pos, if_neg, asI, forall_const, implies_true, chkD, chkO, chkW, effB, reB, vEq, beq_self_eq_true, Nat.reduceSub, Nat.reduceLT, Int.reduceSub, Int.reduceAdd, Int.reduceMul, Int.reduceLT, Int.reduceLE, Int.reduceToNat, optI, aslice, cutSl, cutMs, cutStr, cutOwn, cellsOf, one, elCells, lenOf, beqV, beqVL, strip, stripO, convS]) | ((first | rw [WP_condK] | rw [WP_opsG] | rw [WP_quiG] | rw [WP_dG]); refine And.intro (fun hb => ?_) (fun hb => ?_) <;> (first | have hd := dq1 hb | have hd := dq2 hb | have hd := dq3 hb | have hd := dq4 hb | skip)))
    exact hQ _ rfl rfl
  · have hlt : (j : Int) < (ps.length : Int) := by omega
    obtain ⟨x, hx⟩ : ∃ x, ps[j]? = some x := ⟨_, List.getElem?_eq_getElem (by omega)⟩
    have hg : (ps.map partV)[j]? = some (.slice .none none (x.map u8)) := by rw [List.getElem?_map, hx]; rfl
    have hf := parts_snoc hx
    have hle := flat_le ps (j + 1)
    rw [hf, List.length_append] at hle
    have hs : IntKind.i64.wrap (((ps.take j).flatten.length : Int) + (x.length : Int)) = (((ps.take (j + 1)).flatten.length : Nat) : Int) := by
      rw [IntKind.wrap_i64, hf, List.length_append]; omega
    have hnn : ¬ ((((ps.take (j + 1)).flatten.length : Nat) : Int) < 0) := by omega
    have hw : IntKind.i64.wrap ((j : Int) + 1) = ((j + 1 : Nat) : Int) := by rw [IntKind.wrap_i64]; omega
    first | have hb := hb | have hb := trivial
    repeat' (first | (simp -implicitDefEqProofs (disch := omega) only [hb, L42_1, e0, e3, e9, e10, e11, hlt, hg, hs, hnn, hw, wC, initE, aop, Nat.reduceEqDiff, ↓reduceIte, Nat.reduceAdd, finish, resOf, tupOf, AM.freeze, freeze1, freezeL, closed, nam, namL, if_true, if_false, deref, boxAt, exAt, ldCells, oneL, oneCell, Nat.reduceLeDiff, evL, adopt, rigid, rigidL, trim, Int.reduceEq, Int.reduceMod, Int.reduceDiv, if_pos, if_neg, asI, forall_const, implies_true, chkD, chkO, chkW, effB, reB, vEq, beq_self_eq_true, Nat.reduceSub, Nat.reduceLT, Int.reduceSub, Int.reduceAdd, Int.reduceMul, Int.reduceLT, Int.reduceLE, Int.reduceToNat, optI, aslice, cutSl, cutMs, cutStr, cutOwn, cellsOf, one, elCells, lenOf, beqV, beqVL, strip, stripO, convS]) | ((first | rw [WP_condK] | rw [WP_opsG] | rw [WP_quiG] | rw [WP_dG]); refine And.intro (fun hb => ?_) (fun hb => ?_) <;> (first | have hd := dq1 hb | have hd := dq2 hb | have hd := dq3 hb | have hd := dq4 hb | skip)))
    exact ⟨ps.length - (j + 1), by omega, j + 1, rfl, by omega, rfl, rfl⟩
theorem concat2 (ps : Fl) (hB : ps.flatten.length ≤ 140737488355328) (hl : ps.length ≤ 140737488355328) (o : AOwn) (e : Env) (e6 : getE e 6 = .slice (.tok 1) none []) (e25 : getE e 25 = .slice o none (ps.map partV)) (e26 : getE e 26 = i64 ps.length) (e27 : getE e 27 = i64 0) {Q : Res → Prop}
    (hQ : ∀ e', getE e' 6 = .slice (.tok 1) none (ps.flatten.map u8) → Q (.exit 2, e', [.row none 1, .row none ps.flatten.length])) :
    WP Q (axl T [6, 25, 26, 27] true L42_0 2 e [.row none 1, .row none 0]) := by
  refine WP_loop (I := fun f e h' => ∃ j : Nat, f = ps.length - j ∧ j ≤ ps.length ∧ getE e 6 = .slice (.tok 1) none ((ps.take j).flatten.map u8) ∧ getE e 25 = .slice o none (ps.map partV) ∧ getE e 26 = i64 ps.length ∧ getE e 27 = i64 j ∧ h' = [.row none 1, .row none (ps.take j).flatten.length]) ?_ ps.length _ _
    ⟨0, rfl, Nat.zero_le _, by rw [e6]; rfl, e25, e26, e27, rfl⟩
  clear e6 e25 e26 e27 e
  rintro f e h' ⟨j, rfl, hj, e6, e25, e26, e27, rfl⟩
  rw [trim_same' (by simp)]
  by_cases hjn : j = ps.length
  · have hlt : ¬ ((j : Int) < (ps.length : Int)) := by omega
    rw [List.take_of_length_le (by omega)] at e6 ⊢
    first | have hb := hb | have hb := trivial
    repeat' (first | (simp -implicitDefEqProofs (disch := omega) only [hb, L42_0, e6, e25, e26, e27, hlt, wC, initE, aop, Nat.reduceEqDiff, ↓reduceIte, Nat.reduceAdd, finish, resOf, tupOf, AM.freeze, freeze1, freezeL, closed, nam, namL, if_true, if_false, deref, boxAt, exAt, ldCells, oneL, oneCell, Nat.reduceLeDiff, evL, adopt, rigid, rigidL, trim, Int.reduceEq, Int.reduceMod, Int.reduceDiv, if_pos, if_neg, asI, forall_const, implies_true, chkD, chkO, chkW, effB, reB, vEq, beq_self_eq_true, Nat.reduceSub, Nat.reduceLT, Int.reduceSub, Int.reduceAdd, Int.reduceMul, Int.reduceLT, Int.reduceLE, Int.reduceToNat, optI, aslice, cutSl, cutMs, cutStr, cutOwn, cellsOf, one, elCells, lenOf, beqV, beqVL, strip, stripO, convS]) | ((first | rw [WP_condK] | rw [WP_opsG] | rw [WP_quiG] | rw [WP_dG]); refine And.intro (fun hb => ?_) (fun hb => ?_) <;> (first | have hd := dq1 hb | have hd := dq2 hb | have hd := dq3 hb | have hd := dq4 hb | skip)))
    exact hQ _ rfl
  · have hlt : (j : Int) < (ps.length : Int) := by omega
    obtain ⟨x, hx⟩ : ∃ x, ps[j]? = some x := ⟨_, List.getElem?_eq_getElem (by omega)⟩
    have hg : (ps.map partV)[j]? = some (.slice .none none (x.map u8)) := by rw [List.getElem?_map, hx]; rfl
    have hf := parts_snoc hx
    have hle := flat_le ps (j + 1)
    rw [hf, List.length_append] at hle
    have hw : IntKind.i64.wrap ((j : Int) + 1) = ((j + 1 : Nat) : Int) := by rw [IntKind.wrap_i64]; omega
    have hfit : fitsB ((ps.take j).flatten.length + x.length) 1 = true := fits_of (.inl (by omega))
    generalize hg0 : (ps.take j).flatten = F at *
    first | have hb := hb | have hb := trivial
    repeat' (first | (simp -implicitDefEqProofs (disch := omega) only [hb, L42_0, e6, e25, e26, e27, hlt, hg, hw, hfit, aappend, elemsOf, wC, initE, aop, Nat.reduceEqDiff, ↓reduceIte, Nat.reduceAdd, finish, resOf, tupOf, AM.freeze, freeze1, freezeL, closed, nam, namL, if_true, if_false, deref, boxAt, exAt, ldCells, oneL, oneCell, Nat.reduceLeDiff, evL, adopt, rigid, rigidL, trim, Int.reduceEq, Int.reduceMod, Int.reduceDiv, if_pos, if_neg, asI, forall_const, implies_true, chkD, chkO, chkW, effB, reB, vEq, beq_self_eq_true, Nat.reduceSub, Nat.reduceLT, Int.reduceSub, Int.reduceAdd, Int.reduceMul, Int.reduceLT, Int.reduceLE, Int.reduceToNat, optI, aslice, cutSl, cutMs, cutStr, cutOwn, cellsOf, one, elCells, lenOf, beqV, beqVL, strip, stripO, convS]) | ((first | rw [WP_condK] | rw [WP_opsG] | rw [WP_quiG] | rw [WP_dG]); refine And.intro (fun hb => ?_) (fun hb => ?_) <;> (first | have hd := dq1 hb | have hd := dq2 hb | have hd := dq3 hb | have hd := dq4 hb | skip)))
    refine ⟨ps.length - (j + 1), by omega, j + 1, rfl, by omega, ?_, rfl, ?_⟩
    · rw [hf, List.map_append]
    · rw [hf, List.length_append]
theorem concat_ok (ps : Fl) (hB : ps.flatten.length ≤ 140737488355328) (hl : ps.length ≤ 140737488355328) (o : AOwn) : prun T F42 [.slice o none (ps.map partV)] = some (.slice .fresh none (ps.flatten.map u8)) := by
  refine WP_eq (prun_wp ?_)
  first | have hb := hb | have hb := trivial
  repeat' (first | (simp -implicitDefEqProofs (disch := omega) only [hb, F42, wC, initE, aop, Nat.reduceEqDiff, ↓reduceIte, Nat.reduceAdd, finish, resOf, tupOf, AM.freeze, freeze1, freezeL, closed, nam, namL, if_true, if_false, deref, boxAt, exAt, ldCells, oneL, oneCell, Nat.reduceLeDiff, evL, adopt, rigid, rigidL, trim, Int.reduceEq, Int.reduceMod, Int.reduceDiv, if_pos, if_neg, asI, forall_const, implies_true, chkD, chkO, chkW, effB, reB, vEq, beq_self_eq_true, Nat.reduceSub, Nat.reduceLT, Int.reduceSub, Int.reduceAdd, Int.reduceMul, Int.reduceLT, Int.reduceLE, Int.reduceToNat, optI, aslice, cutSl, cutMs, cutStr, cutOwn, cellsOf, one, elCells, lenOf, beqV, beqVL, strip, stripO, convS]) | ((first | rw [WP_condK] | rw [WP_opsG] | rw [WP_quiG] | rw [WP_dG]); refine And.intro (fun hb => ?_) (fun hb => ?_) <;> (first | have hd := dq1 hb | have hd := dq2 hb | have hd := dq3 hb | have hd := dq4 hb | skip)))
  refine concat1 ps hB hl o _ [] rfl rfl rfl ?_ rfl (fun e' e0 e3 => ?_)
  · rfl
  have hgr : ag T 49 [.nil, i64 (ps.flatten.length : Nat)] [] = some (.slice (.tok 1) none [], [.row none 1, .row none 0]) := by
    rw [ag_nat rfl nf49 n49]
    have h0 : (0 : Int) ≤ (ps.flatten.length : Nat) := Int.natCast_nonneg _
    have h1 : ((ps.flatten.length : Nat) : Int) + ((0 : Nat) : Int) ≤ 140737488355328 := by omega
    simp only [growG, growT, List.nil_append, List.length_nil, List.getElem?_cons_zero, h0, h1, and_self, if_true]
    rfl
  first | have hb := hb | have hb := trivial
  repeat' (first | (simp -implicitDefEqProofs (disch := omega) only [hb, F42, e0, e3, hgr, wC, initE, aop, Nat.reduceEqDiff, ↓reduceIte, Nat.reduceAdd, finish, resOf, tupOf, AM.freeze, freeze1, freezeL, closed, nam, namL, if_true, if_false, deref, boxAt, exAt, ldCells, oneL, oneCell, Nat.reduceLeDiff, evL, adopt, rigid, rigidL, trim, Int.reduceEq, Int.reduceMod, Int.reduceDiv, if_pos, if_neg, asI, forall_const, implies_true, chkD, chkO, chkW, effB, reB, vEq, beq_self_eq_true, Nat.reduceSub, Nat.reduceLT, Int.reduceSub, Int.reduceAdd, Int.reduceMul, Int.reduceLT, Int.reduceLE, Int.reduceToNat, optI, aslice, cutSl, cutMs, cutStr, cutOwn, cellsOf, one, elCells, lenOf, beqV, beqVL, strip, stripO, convS]) | ((first | rw [WP_condK] | rw [WP_opsG] | rw [WP_quiG] | rw [WP_dG]); refine And.intro (fun hb => ?_) (fun hb => ?_) <;> (first | have hd := dq1 hb | have hd := dq2 hb | have hd := dq3 hb | have hd := dq4 hb | skip)))
  refine concat2 ps hB hl o _ rfl rfl ?_ rfl (fun e' e6 => ?_)
  · rfl
  have hc := u8_nam (fun _ => false) ps.flatten
  first | have hb := hb | have hb := trivial
  repeat' (first | (simp -implicitDefEqProofs (disch := omega) only [hb, F42, e6, hc, wC, initE, aop, Nat.reduceEqDiff, ↓reduceIte, Nat.reduceAdd, finish, resOf, tupOf, AM.freeze, freeze1, freezeL, closed, nam, namL, if_true, if_false, deref, boxAt, exAt, ldCells, oneL, oneCell, Nat.reduceLeDiff, evL, adopt, rigid, rigidL, trim, Int.reduceEq, Int.reduceMod, Int.reduceDiv, if_pos, if_neg, asI, forall_const, implies_true, chkD, chkO, chkW, effB, reB, vEq, beq_self_eq_true, Nat.reduceSub, Nat.reduceLT, Int.reduceSub, Int.reduceAdd, Int.reduceMul, Int.reduceLT, Int.reduceLE, Int.reduceToNat, optI, aslice, cutSl, cutMs, cutStr, cutOwn, cellsOf, one, elCells, lenOf, beqV, beqVL, strip, stripO, convS]) | ((first | rw [WP_condK] | rw [WP_opsG] | rw [WP_quiG] | rw [WP_dG]); refine And.intro (fun hb => ?_) (fun hb => ?_) <;> (first | have hd := dq1 hb | have hd := dq2 hb | have hd := dq3 hb | have hd := dq4 hb | skip)))
theorem call_concat (ps : Fl) (hB : ps.flatten.length ≤ 140737488355328) (hl : ps.length ≤ 140737488355328) (h : Heap) : ag T 42 [.slice .none none (ps.map partV)] h = some (.slice (.tok h.length) none (ps.flatten.map u8), h ++ [.row none ps.flatten.length]) := by
  have := call_pure (T := T) (h := h) (args := [.slice .none none (ps.map partV)]) rfl t42 rfl rfl (by have := parts_nam (fun _ => false) ps; simp only [List.map_cons, List.map_nil, strip, stripO, closedL, namL, nam, this, Bool.and_self]) (concat_ok ps hB hl .none)
  rw [this]
  simp only [adopt, List.length_map]
theorem bytes_ok (ps : Fl) (hB : ps.flatten.length ≤ 140737488355328) (hl : ps.length ≤ 140737488355328) : prun T F27 [fileV ps] = some (.slice .fresh none (ps.flatten.map u8)) := by
  refine WP_eq (prun_wp ?_)
  have hc := fun h => call_concat ps hB hl h
  have hn := u8_nam (fun _ => false) ps.flatten
  first | have hb := hb | have hb := trivial
  repeat' (first | (simp -implicitDefEqProofs (disch := omega) only [hb, F27, fileV, hc, hn, wC, initE, aop, Nat.reduceEqDiff, ↓reduceIte, Nat.reduceAdd, finish, resOf, tupOf, AM.freeze, freeze1, freezeL, closed, nam, namL, if_true, if_false, deref, boxAt, exAt, ldCells, oneL, oneCell, Nat.reduceLeDiff, evL, adopt, rigid, rigidL, trim, Int.reduceEq, Int.reduceMod, Int.reduceDiv, if_pos, if_neg, asI, forall_const, implies_true, chkD, chkO, chkW, effB, reB, vEq, beq_self_eq_true, Nat.reduceSub, Nat.reduceLT, Int.reduceSub, Int.reduceAdd, Int.reduceMul, Int.reduceLT, Int.reduceLE, Int.reduceToNat, optI, aslice, cutSl, cutMs, cutStr, cutOwn, cellsOf, one, elCells, lenOf, beqV, beqVL, strip, stripO, convS]) | ((first | rw [WP_condK] | rw [WP_opsG] | rw [WP_quiG] | rw [WP_dG]); refine And.intro (fun hb => ?_) (fun hb => ?_) <;> (first | have hd := dq1 hb | have hd := dq2 hb | have hd := dq3 hb | have hd := dq4 hb | skip)))
theorem call_bytes (ps : Fl) (hB : ps.flatten.length ≤ 140737488355328) (hl : ps.length ≤ 140737488355328) (h : Heap) : ag T 27 [fileV ps] h = some (.slice (.tok h.length) none (ps.flatten.map u8), h ++ [.row none ps.flatten.length]) := by
  have := call_pure (T := T) (h := h) (args := [fileV ps]) rfl t27 rfl rfl (by have := fileV_nam (fun _ => false) ps; simp only [List.map_cons, List.map_nil, fileV, strip, closedL, namL, nam] at this ⊢; simpa using this) (bytes_ok ps hB hl)
  rw [this]
  simp only [adopt, List.length_map]
theorem clip_ok (els : List AV) (hc : closedL els = true) : prun T F41 [.slice .none none els] = some (.slice .full none els) := by
  refine WP_eq (prun_wp ?_)
  have h0 : (0 : Int) ≤ els.length := Int.natCast_nonneg _
  have hc' : namL (fun _ => false) els = true := hc
  first | have hb := hb | have hb := trivial
  repeat' (first | (simp -implicitDefEqProofs (disch := omega) only [hb, F41, h0, Int.le_refl, hc', List.take_length, wC, initE, aop, Nat.reduceEqDiff, ↓reduceIte, Nat.reduceAdd, finish, resOf, tupOf, AM.freeze, freeze1, freezeL, closed, nam, namL, if_true, if_false, deref, boxAt, exAt, ldCells, oneL, oneCell, Nat.reduceLeDiff, evL, adopt, rigid, rigidL, trim, Int.reduceEq, Int.reduceMod, Int.reduceDiv, if_pos, if_neg, asI, forall_const, implies_true, chkD, chkO, chkW, effB, reB, vEq, beq_self_eq_true, Nat.reduceSub, Nat.reduceLT, Int.reduceSub, Int.reduceAdd, Int.reduceMul, Int.reduceLT, Int.reduceLE, Int.reduceToNat, optI, aslice, cutSl, cutMs, cutStr, cutOwn, cellsOf, one, elCells, lenOf, beqV, beqVL, strip, stripO, convS]) | ((first | rw [WP_condK] | rw [WP_opsG] | rw [WP_quiG] | rw [WP_dG]); refine And.intro (fun hb => ?_) (fun hb => ?_) <;> (first | have hd := dq1 hb | have hd := dq2 hb | have hd := dq3 hb | have hd := dq4 hb | skip)))
theorem call_clip (els : List AV) (hc : closedL els = true) (h : Heap) : ag T 41 [.slice .none none els] h = some (.slice .full none els, h) :=
  call_pure (T := T) (h := h) (args := [.slice .none none els]) rfl t41 rfl rfl (by have hc' : namL (fun _ => false) els = true := hc; simp only [List.map_cons, List.map_nil, strip, stripO, closedL, namL, nam, hc', Bool.and_self]) (clip_ok els hc)
theorem clip_nil : prun T F41 [.nil] = some .nil := prun_run (n := 20) (by kernel_rfl)
theorem call_clip_nil (h : Heap) : ag T 41 [.nil] h = some (.nil, h) :=
  call_sc rfl t41 rfl rfl rfl rfl clip_nil
theorem with_ok (ps : Fl) (l : List Int) (hl : ps.length ≤ 1000000000) (hB : ps.flatten.length + l.length ≤ 140737488355328) : prun T F25 [fileV ps, .slice .none none (l.map u8)] = some (fileV (ps ++ [l])) := by
  refine WP_eq (prun_wp ?_)
  have hc := fun h => call_clip (ps.map partV) (parts_nam _ ps) h
  have hn := u8_nam (fun _ => false) l
  have hp := parts_nam (fun _ => false) ps
  have hf : fitsB ((ps.map partV).length + 1) 24 = true := fits_of (.inl (by rw [List.length_map]; omega))
  have hw : IntKind.i64.wrap ((ps.flatten.length : Int) + (l.length : Int)) = (((ps ++ [l]).flatten.length : Nat) : Int) := by
    rw [IntKind.wrap_i64, List.flatten_append, List.length_append, List.flatten_cons, List.flatten_nil, List.append_nil]
    omega
  have e1 : (ps ++ [l]).map partV = ps.map partV ++ [.slice .none none (l.map u8)] := by rw [List.map_append]; rfl
  have hp2 := parts_nam (fun _ => false) (ps ++ [l])
  rw [e1] at hp2
  simp only [fileV, e1]
  generalize ps.map partV = P at *
  generalize (ps ++ [l]).flatten.length = n at *
  generalize ps.flatten.length = m at *
  first | have hb := hb | have hb := trivial
  repeat' (first | (simp -implicitDefEqProofs (disch := omega) only [hb, F25, hc, hn, hp, hf, hw, hp2, setEls, List.replicate_succ, List.replicate_zero, elFits, stripEl, aappend, elemsOf, wC, initE, aop, Nat.reduceEqDiff, ↓reduceIte, Nat.reduceAdd, finish, resOf, tupOf, AM.freeze, freeze1, freezeL, closed, nam, namL, if_true, if_false, deref, boxAt, exAt, ldCells, oneL, oneCell, Nat.reduceLeDiff, evL, adopt, rigid, rigidL, trim, Int.reduceEq, Int.reduceMod, Int.reduceDiv, if_pos, if_neg, asI, forall_const, implies_true, chkD, chkO, chkW, effB, reB, vEq, beq_self_eq_true, Nat.reduceSub, Nat.reduceLT, Int.reduceSub, Int.reduceAdd, Int.reduceMul, Int.reduceLT, Int.reduceLE, Int.reduceToNat, optI, aslice, cutSl, cutMs, cutStr, cutOwn, cellsOf, one, elCells, lenOf, beqV, beqVL, strip, stripO, convS]) | ((first | rw [WP_condK] | rw [WP_opsG] | rw [WP_quiG] | rw [WP_dG]); refine And.intro (fun hb => ?_) (fun hb => ?_) <;> (first | have hd := dq1 hb | have hd := dq2 hb | have hd := dq3 hb | have hd := dq4 hb | skip)))
theorem with_nil (l : List Int) (hB : l.length ≤ 140737488355328) : prun T F25 [.agg [.nil, .int .i64 0], .slice .none none (l.map u8)] = some (fileV [l]) := by
  refine WP_eq (prun_wp ?_)
  have hc := fun h => call_clip_nil h
  have hn := u8_nam (fun _ => false) l
  have hf : fitsB 1 24 = true := rfl
  have hw : IntKind.i64.wrap ((0 : Int) + (l.length : Int)) = ((([l] : Fl).flatten.length : Nat) : Int) := by
    rw [IntKind.wrap_i64, List.flatten_cons, List.flatten_nil, List.append_nil]
    omega
  simp only [fileV, List.map_cons, List.map_nil, partV]
  generalize ([l] : Fl).flatten.length = n at *
  first | have hb := hb | have hb := trivial
  repeat' (first | (simp -implicitDefEqProofs (disch := omega) only [hb, F25, hc, hn, hf, hw, setEls, List.replicate_succ, List.replicate_zero, elFits, stripEl, aappend, elemsOf, wC, initE, aop, Nat.reduceEqDiff, ↓reduceIte, Nat.reduceAdd, finish, resOf, tupOf, AM.freeze, freeze1, freezeL, closed, nam, namL, if_true, if_false, deref, boxAt, exAt, ldCells, oneL, oneCell, Nat.reduceLeDiff, evL, adopt, rigid, rigidL, trim, Int.reduceEq, Int.reduceMod, Int.reduceDiv, if_pos, if_neg, asI, forall_const, implies_true, chkD, chkO, chkW, effB, reB, vEq, beq_self_eq_true, Nat.reduceSub, Nat.reduceLT, Int.reduceSub, Int.reduceAdd, Int.reduceMul, Int.reduceLT, Int.reduceLE, Int.reduceToNat, optI, aslice, cutSl, cutMs, cutStr, cutOwn, cellsOf, one, elCells, lenOf, beqV, beqVL, strip, stripO, convS]) | ((first | rw [WP_condK] | rw [WP_opsG] | rw [WP_quiG] | rw [WP_dG]); refine And.intro (fun hb => ?_) (fun hb => ?_) <;> (first | have hd := dq1 hb | have hd := dq2 hb | have hd := dq3 hb | have hd := dq4 hb | skip)))
/-- a file, or none, with more -/
def moreF (r : Option (Nat × Fl)) (l : List Int) : Fl := match r with | some r => r.2 ++ [l] | none => [l]
theorem call_with (r : Option (Nat × Fl)) (l : List Int) (hr : ∀ p, r = some p → p.2.length ≤ 1000000000) (hB : (moreF r l).flatten.length ≤ 140737488355328) (h : Heap) : ag T 25 [valF r, .slice .none none (l.map u8)] h = some (fileV (moreF r l), h) := by
  have hn := u8_nam (fun _ => false) l
  have fin : ∀ ps : Fl, adopt (fileV ps) h = (fileV ps, h) := fun ps => rfl
  cases r with
  | none =>
    have := call_pure (T := T) (h := h) (args := [valF none, .slice .none none (l.map u8)]) rfl t25 rfl rfl (by simp only [valF, List.map_cons, List.map_nil, strip, stripO, closedL, namL, nam, hn, Bool.and_self]) (with_nil l (by simpa [moreF] using hB))
    rw [this, fin]; rfl
  | some p =>
    have hf := fileV_nam (fun _ => false) p.2
    have hle : p.2.flatten.length + l.length ≤ 140737488355328 := by
      have e : (moreF (some p) l).flatten = p.2.flatten ++ l := by simp [moreF]
      rw [e, List.length_append] at hB
      exact hB
    have := call_pure (T := T) (h := h) (args := [valF (some p), .slice .none none (l.map u8)]) rfl t25 rfl rfl (by
      simp only [valF, List.map_cons, List.map_nil, fileV, strip, stripO, closedL, namL, nam, hn] at hf ⊢
      simpa using hf) (with_ok p.2 l (hr p rfl) hle)
    rw [this, fin]; rfl
end Go.Proofs.Ytccllndmknnehaa.AM

/- layer 10: a disk in a store of which no more is known; what only reads. -/
namespace Go.Proofs.Ytccllndmknnehaa.AM
open Go
set_option maxRecDepth 100000
set_option maxHeartbeats 4000000
set_option linter.unusedVariables false
set_option linter.unusedSimpArgs false
/-- a store with three places that change -/
structure Hd (H : List AV → AObj → AObj → Heap) (p n s m : Nat) : Prop where
  len : ∀ X N S, (H X N S).length = m
  gp : ∀ X N S, (H X N S)[p]? = some (.cells X)
  gn : ∀ X N S, (H X N S)[n]? = some N
  gs : ∀ X N S, (H X N S)[s]? = some S
  gpa : ∀ X N S g, (H X N S ++ g)[p]? = some (.cells X)
  gna : ∀ X N S g, (H X N S ++ g)[n]? = some N
  gsa : ∀ X N S g, (H X N S ++ g)[s]? = some S
  sp : ∀ X N S Y, (H X N S).set p (.cells Y) = H Y N S
  sn : ∀ X N S Y, (H X N S).set n Y = H X Y S
  ss : ∀ X N S Y, (H X N S).set s Y = H X N Y
  spa : ∀ X N S Y g, (H X N S ++ g).set p (.cells Y) = H Y N S ++ g
  sna : ∀ X N S Y g, (H X N S ++ g).set n Y = H X Y S ++ g
  ssa : ∀ X N S Y g, (H X N S ++ g).set s Y = H X N Y ++ g
  g0 : ∀ X N S x g, (H X N S ++ (x :: g))[m]? = some x
  g1 : ∀ X N S x y g, (H X N S ++ (x :: y :: g))[m + 1]? = some y
  g2 : ∀ X N S x y z g, (H X N S ++ (x :: y :: z :: g))[m + 2]? = some z
  g3 : ∀ X N S x y z w g, (H X N S ++ (x :: y :: z :: w :: g))[m + 3]? = some w
  g4 : ∀ X N S x y z w v g, (H X N S ++ (x :: y :: z :: w :: v :: g))[m + 4]? = some v
  s0 : ∀ X N S x g u, (H X N S ++ (x :: g)).set m u = H X N S ++ (u :: g)
  s1 : ∀ X N S x y g u, (H X N S ++ (x :: y :: g)).set (m + 1) u = H X N S ++ (x :: u :: g)
  s2 : ∀ X N S x y z g u, (H X N S ++ (x :: y :: z :: g)).set (m + 2) u = H X N S ++ (x :: y :: u :: g)
  s3 : ∀ X N S x y z w g u, (H X N S ++ (x :: y :: z :: w :: g)).set (m + 3) u = H X N S ++ (x :: y :: z :: u :: g)
theorem app_get {α : Type} (h t : List α) (m n : Nat) (hm : h.length = m) : (h ++ t)[m + n]? = t[n]? := by rw [← hm]; exact get_app h t n
theorem app_set {α : Type} (h t : List α) (m n : Nat) (x : α) (hm : h.length = m) : (h ++ t).set (m + n) x = h ++ t.set n x := by rw [← hm]; exact set_app h t n x
def H3 (h : Heap) (p n s : Nat) (X : List AV) (N S : AObj) : Heap := ((h.set p (.cells X)).set n N).set s S
theorem hd_of {h : Heap} {p n s : Nat} {X0 : List AV} {N0 S0 : AObj} (hp : h[p]? = some (.cells X0)) (hn : h[n]? = some N0) (hs : h[s]? = some S0) (pn : p ≠ n) (ps : p ≠ s) (ns : n ≠ s) : Hd (H3 h p n s) p n s h.length ∧ H3 h p n s X0 N0 S0 = h := by
  obtain ⟨lp, ep⟩ := List.getElem?_eq_some_iff.1 hp
  obtain ⟨ln, en⟩ := List.getElem?_eq_some_iff.1 hn
  obtain ⟨ls, es⟩ := List.getElem?_eq_some_iff.1 hs
  have hl : ∀ X N S, (H3 h p n s X N S).length = h.length := fun X N S => by simp only [H3, List.length_set]
  have gp : ∀ X N S, (H3 h p n s X N S)[p]? = some (.cells X) := fun X N S => by
    unfold H3
    rw [List.getElem?_set_ne ps.symm, List.getElem?_set_ne pn.symm, List.getElem?_set_self lp]
  have gn : ∀ X N S, (H3 h p n s X N S)[n]? = some N := fun X N S => by
    unfold H3
    rw [List.getElem?_set_ne ns.symm, List.getElem?_set_self (by rw [List.length_set]; exact ln)]
  have gs : ∀ X N S, (H3 h p n s X N S)[s]? = some S := fun X N S => by
    unfold H3
    rw [List.getElem?_set_self (by simp only [List.length_set]; exact ls)]
  have sp : ∀ X N S Y, (H3 h p n s X N S).set p (.cells Y) = H3 h p n s Y N S := fun X N S Y => by
    unfold H3
    rw [List.set_comm _ _ ps.symm, List.set_comm _ _ pn.symm, List.set_set]
  have sn : ∀ X N S Y, (H3 h p n s X N S).set n Y = H3 h p n s X Y S := fun X N S Y => by
    unfold H3
    rw [List.set_comm _ _ ns.symm, List.set_set]
  have ss : ∀ X N S Y, (H3 h p n s X N S).set s Y = H3 h p n s X N Y := fun X N S Y => by
    unfold H3
    rw [List.set_set]
  refine ⟨⟨hl, gp, gn, gs, ?_, ?_, ?_, sp, sn, ss, ?_, ?_, ?_, ?_, ?_, ?_, ?_, ?_, ?_, ?_, ?_, ?_⟩, ?_⟩
  · intro X N S g; rw [List.getElem?_append_left (by rw [hl]; exact lp), gp]
  · intro X N S g; rw [List.getElem?_append_left (by rw [hl]; exact ln), gn]
  · intro X N S g; rw [List.getElem?_append_left (by rw [hl]; exact ls), gs]
  · intro X N S Y g; rw [List.set_append_left _ _ (by rw [hl]; exact lp), sp]
  · intro X N S Y g; rw [List.set_append_left _ _ (by rw [hl]; exact ln), sn]
  · intro X N S Y g; rw [List.set_append_left _ _ (by rw [hl]; exact ls), ss]
  · intro X N S x g; exact app_get _ _ _ 0 (hl X N S)
  · intro X N S x y g; exact app_get _ _ _ 1 (hl X N S)
  · intro X N S x y z g; exact app_get _ _ _ 2 (hl X N S)
  · intro X N S x y z w g; exact app_get _ _ _ 3 (hl X N S)
  · intro X N S x y z w v g; exact app_get _ _ _ 4 (hl X N S)
  · intro X N S x g u; exact app_set _ _ _ 0 u (hl X N S)
  · intro X N S x y g u; exact app_set _ _ _ 1 u (hl X N S)
  · intro X N S x y z g u; exact app_set _ _ _ 2 u (hl X N S)
  · intro X N S x y z w g u; exact app_set _ _ _ 3 u (hl X N S)
  · unfold H3
    rw [show h.set p (.cells X0) = h from by rw [← ep, List.set_getElem_self], show h.set n N0 = h from by rw [← en, List.set_getElem_self], ← es, List.set_getElem_self]
/-- what stays as it was -/
def Keep (h h' : Heap) (T : List Nat) : Prop := h.length ≤ h'.length ∧ ∀ i, i < h.length → i ∉ T → h'[i]? = h[i]?
theorem Keep.refl (h : Heap) (T : List Nat) : Keep h h T := ⟨Nat.le_refl _, fun _ _ _ => rfl⟩
theorem Keep.trans {a b c : Heap} {T U : List Nat} (h : Keep a b T) (k : Keep b c U) (hU : ∀ i ∈ U, i ∈ T ∨ a.length ≤ i) : Keep a c T :=
  ⟨Nat.le_trans h.1 k.1, fun i hi hn => by
    rw [k.2 i (Nat.lt_of_lt_of_le hi h.1) (fun hh => by rcases hU i hh with h1 | h1; exact hn h1; omega), h.2 i hi hn]⟩
theorem Keep.get {h h' : Heap} {T : List Nat} (k : Keep h h' T) {i : Nat} {o : AObj} (hi : h[i]? = some o) (hn : i ∉ T) : h'[i]? = some o := by
  rw [k.2 i (List.getElem?_eq_some_iff.1 hi).1 hn]; exact hi
theorem keep_app (h g : Heap) (T : List Nat) : Keep h (h ++ g) T := ⟨by simp, fun i hi _ => List.getElem?_append_left hi⟩
theorem keep_H3 {h : Heap} {p n s : Nat} {X : List AV} {N S : AObj} (g : Heap) : Keep h (H3 h p n s X N S ++ g) [p, n, s] := by
  have hl : (H3 h p n s X N S).length = h.length := by simp only [H3, List.length_set]
  refine ⟨by simp [hl], fun i hi hn => ?_⟩
  simp only [List.mem_cons, List.not_mem_nil, or_false, not_or] at hn
  rw [List.getElem?_append_left (by rw [hl]; exact hi)]
  unfold H3
  rw [List.getElem?_set_ne (fun e => hn.2.2 e.symm), List.getElem?_set_ne (fun e => hn.2.1 e.symm), List.getElem?_set_ne (fun e => hn.1 e.symm)]
end Go.Proofs.Ytccllndmknnehaa.AM

/- layer 10: a disk's calls that only read. -/
namespace Go.Proofs.Ytccllndmknnehaa.AM
open Go
set_option maxRecDepth 100000
set_option maxHeartbeats 4000000
set_option linter.unusedVariables false
set_option linter.unusedSimpArgs false
/-- a disk's cells -/
def dC (size : Int) (s n : Nat) (A : AV) (c : Int) : List AV := [i64 size, .map s, .map n, A, i64 c]
section
variable {h : Heap} {p s n : Nat} {size c : Int} {A : AV}
theorem c_made (hb : h[p]? = some (.cells (dC size s n A c))) : ag T 31 [.ptr p 0] h = some (.bool true, h) := by
  refine WP_eq (k_wp rfl t31 rfl rfl ?_)
  unfold dC at hb
  first | have hb := hb | have hb := trivial
  repeat' (first | (simp -implicitDefEqProofs (disch := omega) only [hb, F31, isNil, hb, wC, initE, aop, Nat.reduceEqDiff, ↓reduceIte, Nat.reduceAdd, finish, resOf, tupOf, AM.freeze, freeze1, freezeL, closed, nam, namL, if_true, if_false, deref, boxAt, exAt, ldCells, oneL, oneCell, Nat.reduceLeDiff, evL, adopt, rigid, rigidL, trim, Int.reduceEq, Int.reduceMod, Int.reduceDiv, if_pos, if_neg, asI, forall_const, implies_true, chkD, chkO, chkW, effB, reB, vEq, beq_self_eq_true, Nat.reduceSub, Nat.reduceLT, Int.reduceSub, Int.reduceAdd, Int.reduceMul, Int.reduceLT, Int.reduceLE, Int.reduceToNat, optI, aslice, cutSl, cutMs, cutStr, cutOwn, cellsOf, one, elCells, lenOf, beqV, beqVL, strip, stripO, convS]) | ((first | rw [WP_condK] | rw [WP_opsG] | rw [WP_quiG] | rw [WP_dG]); refine And.intro (fun hb => ?_) (fun hb => ?_) <;> (first | have hd := dq1 hb | have hd := dq2 hb | have hd := dq3 hb | have hd := dq4 hb | skip)))
theorem c_off (hb : h[p]? = some (.cells (dC size s n A c))) : ag T 20 [.ptr p 0] h = some (.sc (.bool (decide (c = 0))), h) := by
  refine WP_eq (k_wp rfl t20 rfl rfl ?_)
  have hm := c_made hb
  unfold dC at hb
  first | have hb := hb | have hb := trivial
  repeat' (first | (simp -implicitDefEqProofs (disch := omega) only [hb, F20, isNil, hb, hm, wC, initE, aop, Nat.reduceEqDiff, ↓reduceIte, Nat.reduceAdd, finish, resOf, tupOf, AM.freeze, freeze1, freezeL, closed, nam, namL, if_true, if_false, deref, boxAt, exAt, ldCells, oneL, oneCell, Nat.reduceLeDiff, evL, adopt, rigid, rigidL, trim, Int.reduceEq, Int.reduceMod, Int.reduceDiv, if_pos, if_neg, asI, forall_const, implies_true, chkD, chkO, chkW, effB, reB, vEq, beq_self_eq_true, Nat.reduceSub, Nat.reduceLT, Int.reduceSub, Int.reduceAdd, Int.reduceMul, Int.reduceLT, Int.reduceLE, Int.reduceToNat, optI, aslice, cutSl, cutMs, cutStr, cutOwn, cellsOf, one, elCells, lenOf, beqV, beqVL, strip, stripO, convS]) | ((first | rw [WP_condK] | rw [WP_opsG] | rw [WP_quiG] | rw [WP_dG]); refine And.intro (fun hb => ?_) (fun hb => ?_) <;> (first | have hd := dq1 hb | have hd := dq2 hb | have hd := dq3 hb | have hd := dq4 hb | skip)))
theorem c_did (hb : h[p]? = some (.cells (dC size s n A c))) (hc : 0 ≤ c → c ≤ 9223372036854775807) : ag T 34 [.ptr p 0] h = some (i64 0, h.set p (.cells (dC size s n A (if 0 < c then c - 1 else c)))) := by
  refine WP_eq (k_wp rfl t34 rfl rfl ?_)
  have hset : c ≤ 0 → h.set p (.cells (dC size s n A c)) = h := fun _ => by
    obtain ⟨lp, ep⟩ := List.getElem?_eq_some_iff.1 hb
    rw [← ep, List.set_getElem_self]
  by_cases h0 : 0 < c
  · have hw : IntKind.i64.wrap (c - 1) = c - 1 := by rw [IntKind.wrap_i64]; have := hc (by omega); omega
    rw [if_pos h0]
    unfold dC at hb ⊢
    first | have hb := hb | have hb := trivial
    repeat' (first | (simp -implicitDefEqProofs (disch := omega) only [hb, F34, isNil, hb, h0, hw, wC, initE, aop, Nat.reduceEqDiff, ↓reduceIte, Nat.reduceAdd, finish, resOf, tupOf, AM.freeze, freeze1, freezeL, closed, nam, namL, if_true, if_false, deref, boxAt, exAt, ldCells, oneL, oneCell, Nat.reduceLeDiff, evL, adopt, rigid, rigidL, trim, Int.reduceEq, Int.reduceMod, Int.reduceDiv, if_pos, if_neg, asI, forall_const, implies_true, chkD, chkO, chkW, effB, reB, vEq, beq_self_eq_true, Nat.reduceSub, Nat.reduceLT, Int.reduceSub, Int.reduceAdd, Int.reduceMul, Int.reduceLT, Int.reduceLE, Int.reduceToNat, optI, aslice, cutSl, cutMs, cutStr, cutOwn, cellsOf, one, elCells, lenOf, beqV, beqVL, strip, stripO, convS]) | ((first | rw [WP_condK] | rw [WP_opsG] | rw [WP_quiG] | rw [WP_dG]); refine And.intro (fun hb => ?_) (fun hb => ?_) <;> (first | have hd := dq1 hb | have hd := dq2 hb | have hd := dq3 hb | have hd := dq4 hb | skip)))
  · rw [if_neg h0, hset (by omega)]
    unfold dC at hb
    first | have hb := hb | have hb := trivial
    repeat' (first | (simp -implicitDefEqProofs (disch := omega) only [hb, F34, isNil, hb, h0, wC, initE, aop, Nat.reduceEqDiff, ↓reduceIte, Nat.reduceAdd, finish, resOf, tupOf, AM.freeze, freeze1, freezeL, closed, nam, namL, if_true, if_false, deref, boxAt, exAt, ldCells, oneL, oneCell, Nat.reduceLeDiff, evL, adopt, rigid, rigidL, trim, Int.reduceEq, Int.reduceMod, Int.reduceDiv, if_pos, if_neg, asI, forall_const, implies_true, chkD, chkO, chkW, effB, reB, vEq, beq_self_eq_true, Nat.reduceSub, Nat.reduceLT, Int.reduceSub, Int.reduceAdd, Int.reduceMul, Int.reduceLT, Int.reduceLE, Int.reduceToNat, optI, aslice, cutSl, cutMs, cutStr, cutOwn, cellsOf, one, elCells, lenOf, beqV, beqVL, strip, stripO, convS]) | ((first | rw [WP_condK] | rw [WP_opsG] | rw [WP_quiG] | rw [WP_dG]); refine And.intro (fun hb => ?_) (fun hb => ?_) <;> (first | have hd := dq1 hb | have hd := dq2 hb | have hd := dq3 hb | have hd := dq4 hb | skip)))
abbrev rightC : AV := .func (.func 39) [] []
def badS (l : List ByteArray) : Bool := l.any fun x => !rightS x
theorem index_loop (l : List ByteArray) (hl : ∀ x ∈ l, x.size ≤ 9223372036854775807) (hn : l.length ≤ 1000) (e : Env) (h : Heap) (e0 : getE e 0 = .slice .full none (l.map .str)) (e1 : getE e 1 = rightC) (e7 : getE e 7 = i64 l.length) (e8 : getE e 8 = i64 0) {Q : Res → Prop} (hQ1 : badS l = false → ∀ e', Q (.exit 0, e', h)) (hQ2 : badS l = true → ∀ e' (j : Nat), getE e' 4 = i64 j → Q (.ret, e', h)) :
    WP Q (axl T [0, 1, 7, 8] true L48_0 h.length e h) := by
  refine WP_loop (I := fun f e h' => ∃ j : Nat, f = l.length - j ∧ j ≤ l.length ∧ badS (l.take j) = false ∧ getE e 0 = .slice .full none (l.map .str) ∧ getE e 1 = rightC ∧ getE e 7 = i64 l.length ∧ getE e 8 = i64 j ∧ h' = h) ?_ l.length _ _
    ⟨0, rfl, Nat.zero_le _, rfl, e0, e1, e7, e8, rfl⟩
  clear e0 e1 e7 e8 e
  rintro f e h' ⟨j, rfl, hj, hbad, e0, e1, e7, e8, rfl⟩
  rw [trim_same' (Nat.le_refl _)]
  by_cases hjn : j = l.length
  · have hlt : ¬ ((j : Int) < (l.length : Int)) := by omega
    rw [List.take_of_length_le (by omega)] at hbad
    have hQ := hQ1 hbad
    first | have hb := hb | have hb := trivial
    repeat' (first | (simp -implicitDefEqProofs (disch := omega) only [hb, L48_0, e0, e1, e7, e8, hlt, wC, initE, aop, Nat.reduceEqDiff, ↓reduceIte, Nat.reduceAdd, finish, resOf, tupOf, AM.freeze, freeze1, freezeL, closed, nam, namL, if_true, if_false, deref, boxAt, exAt, ldCells, oneL, oneCell, Nat.reduceLeDiff, evL, adopt, rigid, rigidL, trim, Int.reduceEq, Int.reduceMod, Int.reduceDiv, if_pos, if_neg, asI, forall_const, implies_true, chkD, chkO, chkW, effB, reB, vEq, beq_self_eq_true, Nat.reduceSub, Nat.reduceLT, Int.reduceSub, Int.reduceAdd, Int.reduceMul, Int.reduceLT, Int.reduceLE, Int.reduceToNat, optI, aslice, cutSl, cutMs, cutStr, cutOwn, cellsOf, one, elCells, lenOf, beqV, beqVL, strip, stripO, convS]) | ((first | rw [WP_condK] | rw [WP_opsG] | rw [WP_quiG] | rw [WP_dG]); refine And.intro (fun hb => ?_) (fun hb => ?_) <;> (first | have hd := dq1 hb | have hd := dq2 hb | have hd := dq3 hb | have hd := dq4 hb | skip)))
    exact hQ _
  · have hlt : (j : Int) < (l.length : Int) := by omega
    obtain ⟨x, hx⟩ : ∃ x, l[j]? = some x := ⟨_, List.getElem?_eq_getElem (by omega)⟩
    have hg : (l.map AV.str)[j]? = some (.str x) := by rw [List.getElem?_map, hx]; rfl
    have hm := call_may1 x (hl x (List.mem_of_getElem? hx)) h'
    have hw : IntKind.i64.wrap ((j : Int) + 1) = ((j + 1 : Nat) : Int) := by rw [IntKind.wrap_i64]; omega
    by_cases hr : rightS x = true
    · rw [hr] at hm
      have hgo : badS (l.take (j + 1)) = false := by
        unfold badS at hbad ⊢
        rw [List.take_add_one, hx, List.any_append, hbad]
        simp [hr]
      first | have hb := hb | have hb := trivial
      repeat' (first | (simp -implicitDefEqProofs (disch := omega) only [hb, L48_0, e0, e1, e7, e8, hlt, hg, hm, hw, wC, initE, aop, Nat.reduceEqDiff, ↓reduceIte, Nat.reduceAdd, finish, resOf, tupOf, AM.freeze, freeze1, freezeL, closed, nam, namL, if_true, if_false, deref, boxAt, exAt, ldCells, oneL, oneCell, Nat.reduceLeDiff, evL, adopt, rigid, rigidL, trim, Int.reduceEq, Int.reduceMod, Int.reduceDiv, if_pos, if_neg, asI, forall_const, implies_true, chkD, chkO, chkW, effB, reB, vEq, beq_self_eq_true, Nat.reduceSub, Nat.reduceLT, Int.reduceSub, Int.reduceAdd, Int.reduceMul, Int.reduceLT, Int.reduceLE, Int.reduceToNat, optI, aslice, cutSl, cutMs, cutStr, cutOwn, cellsOf, one, elCells, lenOf, beqV, beqVL, strip, stripO, convS]) | ((first | rw [WP_condK] | rw [WP_opsG] | rw [WP_quiG] | rw [WP_dG]); refine And.intro (fun hb => ?_) (fun hb => ?_) <;> (first | have hd := dq1 hb | have hd := dq2 hb | have hd := dq3 hb | have hd := dq4 hb | skip)))
      exact ⟨l.length - (j + 1), by omega, j + 1, rfl, by omega, hgo, rfl⟩
    · have hr' : rightS x = false := by simpa using hr
      rw [hr'] at hm
      have hb : badS l = true := by
        unfold badS
        rw [List.any_eq_true]
        exact ⟨x, List.mem_of_getElem? hx, by simp [hr']⟩
      have hQ := hQ2 hb
      first | have hb := hb | have hb := trivial
      repeat' (first | (simp -implicitDefEqProofs (disch := omega) only [hb, L48_0, e0, e1, e7, e8, hlt, hg, hm, wC, initE, aop, Nat.reduceEqDiff, ↓reduceIte, Nat.reduceAdd, finish, resOf, tupOf, AM.freeze, freeze1, freezeL, closed, nam, namL, if_true, if_false, deref, boxAt, exAt, ldCells, oneL, oneCell, Nat.reduceLeDiff, evL, adopt, rigid, rigidL, trim, Int.reduceEq, Int.reduceMod, Int.reduceDiv, if_pos, if_neg, asI, forall_const, implies_true, chkD, chkO, chkW, effB, reB, vEq, beq_self_eq_true, Nat.reduceSub, Nat.reduceLT, Int.reduceSub, Int.reduceAdd, Int.reduceMul, Int.reduceLT, Int.reduceLE, Int.reduceToNat, optI, aslice, cutSl, cutMs, cutStr, cutOwn, cellsOf, one, elCells, lenOf, beqV, beqVL, strip, stripO, convS]) | ((first | rw [WP_condK] | rw [WP_opsG] | rw [WP_quiG] | rw [WP_dG]); refine And.intro (fun hb => ?_) (fun hb => ?_) <;> (first | have hd := dq1 hb | have hd := dq2 hb | have hd := dq3 hb | have hd := dq4 hb | skip)))
      exact hQ _ j rfl
theorem c_contains (l : List ByteArray) (hl : ∀ x ∈ l, x.size ≤ 9223372036854775807) (hn : l.length ≤ 1000) (h : Heap) : ag T 38 [.slice .full none (l.map .str), rightC] h = some (.sc (.bool (badS l)), h) := by
  refine WP_eq (k_wp rfl t38 rfl rfl ?_)
  have hi : ∃ i : Int, decide (0 ≤ i) = badS l ∧ ag T 48 [.slice .full none (l.map .str), rightC] h = some (i64 i, h) := by
    have : WP (fun r : AV × Heap => ∃ i : Int, decide (0 ≤ i) = badS l ∧ r = (i64 i, h)) (ag T 48 [.slice .full none (l.map .str), rightC] h) := by
      refine k_wp rfl t48 rfl rfl ?_
      first | have hb := hb | have hb := trivial
      repeat' (first | (simp -implicitDefEqProofs (disch := omega) only [hb, F48, wC, initE, aop, Nat.reduceEqDiff, ↓reduceIte, Nat.reduceAdd, finish, resOf, tupOf, AM.freeze, freeze1, freezeL, closed, nam, namL, if_true, if_false, deref, boxAt, exAt, ldCells, oneL, oneCell, Nat.reduceLeDiff, evL, adopt, rigid, rigidL, trim, Int.reduceEq, Int.reduceMod, Int.reduceDiv, if_pos, if_neg, asI, forall_const, implies_true, chkD, chkO, chkW, effB, reB, vEq, beq_self_eq_true, Nat.reduceSub, Nat.reduceLT, Int.reduceSub, Int.reduceAdd, Int.reduceMul, Int.reduceLT, Int.reduceLE, Int.reduceToNat, optI, aslice, cutSl, cutMs, cutStr, cutOwn, cellsOf, one, elCells, lenOf, beqV, beqVL, strip, stripO, convS]) | ((first | rw [WP_condK] | rw [WP_opsG] | rw [WP_quiG] | rw [WP_dG]); refine And.intro (fun hb => ?_) (fun hb => ?_) <;> (first | have hd := dq1 hb | have hd := dq2 hb | have hd := dq3 hb | have hd := dq4 hb | skip)))
      refine index_loop l hl hn _ h rfl rfl rfl rfl (fun hb e' => ?_) (fun hb e' j e4 => ?_)
      · first | have hb := hb | have hb := trivial
        repeat' (first | (simp -implicitDefEqProofs (disch := omega) only [hb, F48, wC, initE, aop, Nat.reduceEqDiff, ↓reduceIte, Nat.reduceAdd, finish, resOf, tupOf, AM.freeze, freeze1, freezeL, closed, nam, namL, if_true, if_false, deref, boxAt, exAt, ldCells, oneL, oneCell, Nat.reduceLeDiff, evL, adopt, rigid, rigidL, trim, Int.reduceEq, Int.reduceMod, Int.reduceDiv, if_pos, if_neg, asI, forall_const, implies_true, chkD, chkO, chkW, effB, reB, vEq, beq_self_eq_true, Nat.reduceSub, Nat.reduceLT, Int.reduceSub, Int.reduceAdd, Int.reduceMul, Int.reduceLT, Int.reduceLE, Int.reduceToNat, optI, aslice, cutSl, cutMs, cutStr, cutOwn, cellsOf, one, elCells, lenOf, beqV, beqVL, strip, stripO, convS]) | ((first | rw [WP_condK] | rw [WP_opsG] | rw [WP_quiG] | rw [WP_dG]); refine And.intro (fun hb => ?_) (fun hb => ?_) <;> (first | have hd := dq1 hb | have hd := dq2 hb | have hd := dq3 hb | have hd := dq4 hb | skip)))
        exact ⟨-1, by first | rfl | (rw [hb]; rfl), rfl⟩
      · first | have hb := hb | have hb := trivial
        repeat' (first | (simp -implicitDefEqProofs (disch := omega) only [hb, F48, e4, wC, initE, aop, Nat.reduceEqDiff, ↓reduceIte, Nat.reduceAdd, finish, resOf, tupOf, AM.freeze, freeze1, freezeL, closed, nam, namL, if_true, if_false, deref, boxAt, exAt, ldCells, oneL, oneCell, Nat.reduceLeDiff, evL, adopt, rigid, rigidL, trim, Int.reduceEq, Int.reduceMod, Int.reduceDiv, if_pos, if_neg, asI, forall_const, implies_true, chkD, chkO, chkW, effB, reB, vEq, beq_self_eq_true, Nat.reduceSub, Nat.reduceLT, Int.reduceSub, Int.reduceAdd, Int.reduceMul, Int.reduceLT, Int.reduceLE, Int.reduceToNat, optI, aslice, cutSl, cutMs, cutStr, cutOwn, cellsOf, one, elCells, lenOf, beqV, beqVL, strip, stripO, convS]) | ((first | rw [WP_condK] | rw [WP_opsG] | rw [WP_quiG] | rw [WP_dG]); refine And.intro (fun hb => ?_) (fun hb => ?_) <;> (first | have hd := dq1 hb | have hd := dq2 hb | have hd := dq3 hb | have hd := dq4 hb | skip)))
        exact ⟨j, by first | exact decide_eq_true (Int.natCast_nonneg j) | (rw [hb]; exact decide_eq_true (Int.natCast_nonneg j)), rfl⟩
    obtain ⟨r, h1, i, h2, rfl⟩ := WP_ex this
    exact ⟨i, h2, h1⟩
  obtain ⟨i, h1, h2⟩ := hi
  first | have hb := hb | have hb := trivial
  repeat' (first | (simp -implicitDefEqProofs (disch := omega) only [hb, F38, h2, h1, wC, initE, aop, Nat.reduceEqDiff, ↓reduceIte, Nat.reduceAdd, finish, resOf, tupOf, AM.freeze, freeze1, freezeL, closed, nam, namL, if_true, if_false, deref, boxAt, exAt, ldCells, oneL, oneCell, Nat.reduceLeDiff, evL, adopt, rigid, rigidL, trim, Int.reduceEq, Int.reduceMod, Int.reduceDiv, if_pos, if_neg, asI, forall_const, implies_true, chkD, chkO, chkW, effB, reB, vEq, beq_self_eq_true, Nat.reduceSub, Nat.reduceLT, Int.reduceSub, Int.reduceAdd, Int.reduceMul, Int.reduceLT, Int.reduceLE, Int.reduceToNat, optI, aslice, cutSl, cutMs, cutStr, cutOwn, cellsOf, one, elCells, lenOf, beqV, beqVL, strip, stripO, convS]) | ((first | rw [WP_condK] | rw [WP_opsG] | rw [WP_quiG] | rw [WP_dG]); refine And.intro (fun hb => ?_) (fun hb => ?_) <;> (first | have hd := dq1 hb | have hd := dq2 hb | have hd := dq3 hb | have hd := dq4 hb | skip)))
/-- why there may be no act -/
def mayS (l : List ByteArray) (c : Int) : Int := if badS l = true then 1 else if c = 0 then 100 else 0
theorem c_may (hb : h[p]? = some (.cells (dC size s n A c))) (l : List ByteArray) (hl : ∀ x ∈ l, x.size ≤ 9223372036854775807) (hn : l.length ≤ 1000) : ag T 22 [.ptr p 0, .slice .full none (l.map .str)] h = some (i64 (mayS l c), h) := by
  refine WP_eq (k_wp rfl t22 rfl rfl ?_)
  have hm := c_made hb
  have ho := c_off hb
  have hc := c_contains l hl hn h
  unfold mayS
  by_cases h1 : badS l = true
  · rw [h1] at hc
    rw [if_pos h1]
    first | have hb := hb | have hb := trivial
    repeat' (first | (simp -implicitDefEqProofs (disch := omega) only [hb, F22, hm, hc, wC, initE, aop, Nat.reduceEqDiff, ↓reduceIte, Nat.reduceAdd, finish, resOf, tupOf, AM.freeze, freeze1, freezeL, closed, nam, namL, if_true, if_false, deref, boxAt, exAt, ldCells, oneL, oneCell, Nat.reduceLeDiff, evL, adopt, rigid, rigidL, trim, Int.reduceEq, Int.reduceMod, Int.reduceDiv, if_pos, if_neg, asI, forall_const, implies_true, chkD, chkO, chkW, effB, reB, vEq, beq_self_eq_true, Nat.reduceSub, Nat.reduceLT, Int.reduceSub, Int.reduceAdd, Int.reduceMul, Int.reduceLT, Int.reduceLE, Int.reduceToNat, optI, aslice, cutSl, cutMs, cutStr, cutOwn, cellsOf, one, elCells, lenOf, beqV, beqVL, strip, stripO, convS]) | ((first | rw [WP_condK] | rw [WP_opsG] | rw [WP_quiG] | rw [WP_dG]); refine And.intro (fun hb => ?_) (fun hb => ?_) <;> (first | have hd := dq1 hb | have hd := dq2 hb | have hd := dq3 hb | have hd := dq4 hb | skip)))
  · rw [if_neg h1]
    rw [show badS l = false by simpa using h1] at hc
    by_cases h2 : c = 0
    · rw [if_pos h2]
      rw [decide_eq_true h2] at ho
      first | have hb := hb | have hb := trivial
      repeat' (first | (simp -implicitDefEqProofs (disch := omega) only [hb, F22, hm, hc, ho, wC, initE, aop, Nat.reduceEqDiff, ↓reduceIte, Nat.reduceAdd, finish, resOf, tupOf, AM.freeze, freeze1, freezeL, closed, nam, namL, if_true, if_false, deref, boxAt, exAt, ldCells, oneL, oneCell, Nat.reduceLeDiff, evL, adopt, rigid, rigidL, trim, Int.reduceEq, Int.reduceMod, Int.reduceDiv, if_pos, if_neg, asI, forall_const, implies_true, chkD, chkO, chkW, effB, reB, vEq, beq_self_eq_true, Nat.reduceSub, Nat.reduceLT, Int.reduceSub, Int.reduceAdd, Int.reduceMul, Int.reduceLT, Int.reduceLE, Int.reduceToNat, optI, aslice, cutSl, cutMs, cutStr, cutOwn, cellsOf, one, elCells, lenOf, beqV, beqVL, strip, stripO, convS]) | ((first | rw [WP_condK] | rw [WP_opsG] | rw [WP_quiG] | rw [WP_dG]); refine And.intro (fun hb => ?_) (fun hb => ?_) <;> (first | have hd := dq1 hb | have hd := dq2 hb | have hd := dq3 hb | have hd := dq4 hb | skip)))
    · rw [if_neg h2]
      rw [decide_eq_false h2] at ho
      first | have hb := hb | have hb := trivial
      repeat' (first | (simp -implicitDefEqProofs (disch := omega) only [hb, F22, hm, hc, ho, wC, initE, aop, Nat.reduceEqDiff, ↓reduceIte, Nat.reduceAdd, finish, resOf, tupOf, AM.freeze, freeze1, freezeL, closed, nam, namL, if_true, if_false, deref, boxAt, exAt, ldCells, oneL, oneCell, Nat.reduceLeDiff, evL, adopt, rigid, rigidL, trim, Int.reduceEq, Int.reduceMod, Int.reduceDiv, if_pos, if_neg, asI, forall_const, implies_true, chkD, chkO, chkW, effB, reB, vEq, beq_self_eq_true, Nat.reduceSub, Nat.reduceLT, Int.reduceSub, Int.reduceAdd, Int.reduceMul, Int.reduceLT, Int.reduceLE, Int.reduceToNat, optI, aslice, cutSl, cutMs, cutStr, cutOwn, cellsOf, one, elCells, lenOf, beqV, beqVL, strip, stripO, convS]) | ((first | rw [WP_condK] | rw [WP_opsG] | rw [WP_quiG] | rw [WP_dG]); refine And.intro (fun hb => ?_) (fun hb => ?_) <;> (first | have hd := dq1 hb | have hd := dq2 hb | have hd := dq3 hb | have hd := dq4 hb | skip)))
theorem c_may0 (hb : h[p]? = some (.cells (dC size s n A c))) : ag T 22 [.ptr p 0, .nil] h = some (i64 (if c = 0 then 100 else 0), h) := by
  refine WP_eq (k_wp rfl t22 rfl rfl ?_)
  have hm := c_made hb
  have ho := c_off hb
  have hc : ag T 38 [.nil, rightC] h = some (.sc (.bool false), h) := by
    refine WP_eq (k_wp rfl t38 rfl rfl ?_)
    have hi : ag T 48 [.nil, rightC] h = some (i64 (-1), h) := by
      refine WP_eq (k_wp rfl t48 rfl rfl ?_)
      first | have hb := hb | have hb := trivial
      repeat' (first | (simp -implicitDefEqProofs (disch := omega) only [hb, F48, wC, initE, aop, Nat.reduceEqDiff, ↓reduceIte, Nat.reduceAdd, finish, resOf, tupOf, AM.freeze, freeze1, freezeL, closed, nam, namL, if_true, if_false, deref, boxAt, exAt, ldCells, oneL, oneCell, Nat.reduceLeDiff, evL, adopt, rigid, rigidL, trim, Int.reduceEq, Int.reduceMod, Int.reduceDiv, if_pos, if_neg, asI, forall_const, implies_true, chkD, chkO, chkW, effB, reB, vEq, beq_self_eq_true, Nat.reduceSub, Nat.reduceLT, Int.reduceSub, Int.reduceAdd, Int.reduceMul, Int.reduceLT, Int.reduceLE, Int.reduceToNat, optI, aslice, cutSl, cutMs, cutStr, cutOwn, cellsOf, one, elCells, lenOf, beqV, beqVL, strip, stripO, convS]) | ((first | rw [WP_condK] | rw [WP_opsG] | rw [WP_quiG] | rw [WP_dG]); refine And.intro (fun hb => ?_) (fun hb => ?_) <;> (first | have hd := dq1 hb | have hd := dq2 hb | have hd := dq3 hb | have hd := dq4 hb | skip)))
      refine WP_loop (I := fun f e h' => f = 0 ∧ getE e 7 = i64 0 ∧ getE e 8 = i64 0 ∧ h' = h) ?_ 0 _ _ ⟨rfl, rfl, rfl, rfl⟩
      rintro f e h' ⟨rfl, e7, e8, rfl⟩
      rw [trim_same' (Nat.le_refl _)]
      first | have hb := hb | have hb := trivial
      repeat' (first | (simp -implicitDefEqProofs (disch := omega) only [hb, L48_0, e7, e8, Int.lt_irrefl, F48, wC, initE, aop, Nat.reduceEqDiff, ↓reduceIte, Nat.reduceAdd, finish, resOf, tupOf, AM.freeze, freeze1, freezeL, closed, nam, namL, if_true, if_false, deref, boxAt, exAt, ldCells, oneL, oneCell, Nat.reduceLeDiff, evL, adopt, rigid, rigidL, trim, Int.reduceEq, Int.reduceMod, Int.reduceDiv, if_pos, if_neg, asI, forall_const, implies_true, chkD, chkO, chkW, effB, reB, vEq, beq_self_eq_true, Nat.reduceSub, Nat.reduceLT, Int.reduceSub, Int.reduceAdd, Int.reduceMul, Int.reduceLT, Int.reduceLE, Int.reduceToNat, optI, aslice, cutSl, cutMs, cutStr, cutOwn, cellsOf, one, elCells, lenOf, beqV, beqVL, strip, stripO, convS]) | ((first | rw [WP_condK] | rw [WP_opsG] | rw [WP_quiG] | rw [WP_dG]); refine And.intro (fun hb => ?_) (fun hb => ?_) <;> (first | have hd := dq1 hb | have hd := dq2 hb | have hd := dq3 hb | have hd := dq4 hb | skip)))
    first | have hb := hb | have hb := trivial
    repeat' (first | (simp -implicitDefEqProofs (disch := omega) only [hb, F38, hi, wC, initE, aop, Nat.reduceEqDiff, ↓reduceIte, Nat.reduceAdd, finish, resOf, tupOf, AM.freeze, freeze1, freezeL, closed, nam, namL, if_true, if_false, deref, boxAt, exAt, ldCells, oneL, oneCell, Nat.reduceLeDiff, evL, adopt, rigid, rigidL, trim, Int.reduceEq, Int.reduceMod, Int.reduceDiv, if_pos, if_neg, asI, forall_const, implies_true, chkD, chkO, chkW, effB, reB, vEq, beq_self_eq_true, Nat.reduceSub, Nat.reduceLT, Int.reduceSub, Int.reduceAdd, Int.reduceMul, Int.reduceLT, Int.reduceLE, Int.reduceToNat, optI, aslice, cutSl, cutMs, cutStr, cutOwn, cellsOf, one, elCells, lenOf, beqV, beqVL, strip, stripO, convS]) | ((first | rw [WP_condK] | rw [WP_opsG] | rw [WP_quiG] | rw [WP_dG]); refine And.intro (fun hb => ?_) (fun hb => ?_) <;> (first | have hd := dq1 hb | have hd := dq2 hb | have hd := dq3 hb | have hd := dq4 hb | skip)))
  by_cases h2 : c = 0
  · rw [if_pos h2]
    rw [decide_eq_true h2] at ho
    first | have hb := hb | have hb := trivial
    repeat' (first | (simp -implicitDefEqProofs (disch := omega) only [hb, F22, hm, hc, ho, wC, initE, aop, Nat.reduceEqDiff, ↓reduceIte, Nat.reduceAdd, finish, resOf, tupOf, AM.freeze, freeze1, freezeL, closed, nam, namL, if_true, if_false, deref, boxAt, exAt, ldCells, oneL, oneCell, Nat.reduceLeDiff, evL, adopt, rigid, rigidL, trim, Int.reduceEq, Int.reduceMod, Int.reduceDiv, if_pos, if_neg, asI, forall_const, implies_true, chkD, chkO, chkW, effB, reB, vEq, beq_self_eq_true, Nat.reduceSub, Nat.reduceLT, Int.reduceSub, Int.reduceAdd, Int.reduceMul, Int.reduceLT, Int.reduceLE, Int.reduceToNat, optI, aslice, cutSl, cutMs, cutStr, cutOwn, cellsOf, one, elCells, lenOf, beqV, beqVL, strip, stripO, convS]) | ((first | rw [WP_condK] | rw [WP_opsG] | rw [WP_quiG] | rw [WP_dG]); refine And.intro (fun hb => ?_) (fun hb => ?_) <;> (first | have hd := dq1 hb | have hd := dq2 hb | have hd := dq3 hb | have hd := dq4 hb | skip)))
  · rw [if_neg h2]
    rw [decide_eq_false h2] at ho
    first | have hb := hb | have hb := trivial
    repeat' (first | (simp -implicitDefEqProofs (disch := omega) only [hb, F22, hm, hc, ho, wC, initE, aop, Nat.reduceEqDiff, ↓reduceIte, Nat.reduceAdd, finish, resOf, tupOf, AM.freeze, freeze1, freezeL, closed, nam, namL, if_true, if_false, deref, boxAt, exAt, ldCells, oneL, oneCell, Nat.reduceLeDiff, evL, adopt, rigid, rigidL, trim, Int.reduceEq, Int.reduceMod, Int.reduceDiv, if_pos, if_neg, asI, forall_const, implies_true, chkD, chkO, chkW, effB, reB, vEq, beq_self_eq_true, Nat.reduceSub, Nat.reduceLT, Int.reduceSub, Int.reduceAdd, Int.reduceMul, Int.reduceLT, Int.reduceLE, Int.reduceToNat, optI, aslice, cutSl, cutMs, cutStr, cutOwn, cellsOf, one, elCells, lenOf, beqV, beqVL, strip, stripO, convS]) | ((first | rw [WP_condK] | rw [WP_opsG] | rw [WP_quiG] | rw [WP_dG]); refine And.intro (fun hb => ?_) (fun hb => ?_) <;> (first | have hd := dq1 hb | have hd := dq2 hb | have hd := dq3 hb | have hd := dq4 hb | skip)))
end
end Go.Proofs.Ytccllndmknnehaa.AM

/- layer 10: what acts do to a tree. -/
namespace Go.Proofs.Ytccllndmknnehaa.AM
open Go
set_option maxRecDepth 100000
set_option maxHeartbeats 4000000
set_option linter.unusedVariables false
set_option linter.unusedSimpArgs false
abbrev stB' (l : List Int) : AV := .str (strOfNums l)
/-- a name that may be -/
def Nm (nm : List Int) : Prop := Bytes nm ∧ nm.length ≤ 1000
/-- a tree is well: stamps, names, and not too many parts -/
structure Wf (c : Nat) (bs : List Nat) (fs : Fs) : Prop where
  len : bs.length = fs.length
  nd : bs.Nodup
  lt : ∀ b ∈ bs, b < c
  names : Names fs
  keys : (fs.map (·.1)).Nodup
  few : ∀ x ∈ fs, x.2.length ≤ 1000000000
  short : ∀ x ∈ fs, x.1.length ≤ 1000
theorem findF_some {nm : List Int} : ∀ {fs : Fs} {i : Nat} {r : Nat × Fl}, findF nm fs i = some r → i ≤ r.1 ∧ fs[r.1 - i]? = some (nm, r.2)
  | [], i, r, h => by cases h
  | x :: fs, i, r, h => by
    rw [findF] at h
    split at h
    · rename_i e; cases h; exact ⟨Nat.le_refl _, by rw [Nat.sub_self]; simp [e]⟩
    · obtain ⟨h1, h2⟩ := findF_some h
      refine ⟨by omega, ?_⟩
      rw [show r.1 - i = (r.1 - (i + 1)) + 1 by omega]
      simpa using h2
theorem findF_none {nm : List Int} : ∀ {fs : Fs} {i : Nat}, findF nm fs i = none → ∀ x ∈ fs, x.1 ≠ nm
  | [], i, h, x, hx => by simp at hx
  | y :: fs, i, h, x, hx => by
    rw [findF] at h
    split at h
    · cases h
    · rename_i e
      rcases List.mem_cons.1 hx with rfl | hx
      · exact fun h => e h.symm
      · exact findF_none h x hx
theorem Wf.found {c : Nat} {bs : List Nat} {fs : Fs} (w : Wf c bs fs) {nm : List Int} {r : Nat × Fl} (h : findF nm fs 0 = some r) : fs[r.1]? = some (nm, r.2) ∧ r.2.length ≤ 1000000000 := by
  obtain ⟨_, h2⟩ := findF_some h
  rw [Nat.sub_zero] at h2
  exact ⟨h2, w.few _ (List.mem_of_getElem? h2)⟩
def resM (r : Option (Nat × Fl)) : Option (Nat × AV) := r.map fun r => (r.1, fileV r.2)
theorem Wf.put {c : Nat} {bs : List Nat} {fs : Fs} (w : Wf c bs fs) {nm : List Int} (hn : Nm nm) {ps : Fl} (hp : ps.length ≤ 1000000000) : Wf (putB c bs (resM (findF nm fs 0))).1 (putB c bs (resM (findF nm fs 0))).2 (putF fs nm ps (findF nm fs 0)) := by
  cases h : findF nm fs 0 with
  | some r =>
    obtain ⟨h1, _⟩ := w.found h
    have hl := (List.getElem?_eq_some_iff.1 h1).1
    refine ⟨by simpa [putF, putB, resM] using w.len, w.nd, w.lt, ?_, ?_, ?_, ?_⟩
    · intro x hx
      rcases List.mem_or_eq_of_mem_set hx with hx | rfl
      · exact w.names x hx
      · exact hn.1
    · have : (fs.set r.1 (nm, ps)).map (·.1) = fs.map (·.1) := by
        rw [List.map_set]
        have : (fs.map (·.1))[r.1]? = some nm := by rw [List.getElem?_map, h1]; rfl
        obtain ⟨q1, q2⟩ := List.getElem?_eq_some_iff.1 this
        show (fs.map (·.1)).set r.1 nm = _
        conv => lhs; rw [← q2]
        exact List.set_getElem_self ..
      show ((fs.set r.1 (nm, ps)).map (·.1)).Nodup
      rw [this]
      exact w.keys
    · intro x hx
      rcases List.mem_or_eq_of_mem_set hx with hx | rfl
      · exact w.few x hx
      · exact hp
    · intro x hx
      rcases List.mem_or_eq_of_mem_set hx with hx | rfl
      · exact w.short x hx
      · exact hn.2
  | none =>
    have hne := findF_none h
    refine ⟨by simpa [putF, putB, resM] using w.len, ?_, ?_, ?_, ?_, ?_, ?_⟩
    · show (bs ++ [c]).Nodup
      rw [List.nodup_append]
      exact ⟨w.nd, by simp, fun a ha b hb => by simp at hb; subst hb; have := w.lt a ha; omega⟩
    · intro b hb
      show b < c + 1
      rcases List.mem_append.1 hb with hb | hb
      · have := w.lt b hb; omega
      · simp at hb; omega
    · intro x hx
      rcases List.mem_append.1 hx with hx | hx
      · exact w.names x hx
      · simp at hx; subst hx; exact hn.1
    · show ((fs ++ [(nm, ps)]).map (·.1)).Nodup
      rw [List.map_append, List.nodup_append]
      refine ⟨w.keys, by simp, fun a ha b hb => ?_⟩
      simp at hb
      subst hb
      obtain ⟨x, hx, rfl⟩ := List.mem_map.1 ha
      exact hne x hx
    · intro x hx
      rcases List.mem_append.1 hx with hx | hx
      · exact w.few x hx
      · simp at hx; subst hx; exact hp
    · intro x hx
      rcases List.mem_append.1 hx with hx | hx
      · exact w.short x hx
      · simp at hx; subst hx; exact hn.2
section
variable {h : Heap} {n q c k : Nat} {bs : List Nat} {fs : Fs} {nm l : List Int} {o : AOwn}
/-- a tree behind an act -/
def putO (c : Nat) (bs : List Nat) (fs : Fs) (nm : List Int) (ps : Fl) : AObj := .map none (putB c bs (resM (findF nm fs 0))).1 (putB c bs (resM (findF nm fs 0))).2 (fsV (putF fs nm ps (findF nm fs 0)))
theorem c_add (hn : h[n]? = some (.map none c bs (fsV fs))) (hq : h[q]? = some (.cells [.slice o none (l.map u8)])) (w : Wf c bs fs) (hnm : Bytes nm) (hk : k ≤ l.length) (hB : (moreF (findF nm fs 0) (l.take k)).flatten.length ≤ 140737488355328) :
    ag T 24 [.map n, i64 k, .ref [stB' nm], .ptr q 0] h = some (.tup [], h.set n (putO c bs fs nm (moreF (findF nm fs 0) (l.take k)))) := by
  refine WP_eq (k_wp rfl t24 rfl rfl ?_)
  have hme : mapEs h (.map n) = some (fsV fs) := by simp [mapEs, mapAt, hn]
  have hma : mapAt h n = some (c, bs, fsV fs) := by simp [mapAt, hn]
  have hf := findM_fs hnm w.names 0
  have hv := valM_fs (findF nm fs 0)
  have hw := call_with (findF nm fs 0) (l.take k) (fun p hp => (w.found hp).2) hB h
  have hpm := putM_fs fs nm (moreF (findF nm fs 0) (l.take k)) (findF nm fs 0)
  have hk0 : (0 : Int) ≤ k := Int.natCast_nonneg k
  have hk1 : (k : Int) ≤ l.length := by omega
  have htk : (l.map u8).take k = (l.take k).map u8 := by rw [List.map_take]
  unfold putO resM
  generalize findF nm fs 0 = r at *
  generalize moreF r (l.take k) = P at *
  generalize fsV fs = E at *
  first | have hb := hb | have hb := trivial
  repeat' (first | (simp -implicitDefEqProofs (disch := omega) only [hb, F24, hme, hma, hf, hv, hw, hpm, hq, hk0, hk1, htk, keyB, wC, initE, aop, Nat.reduceEqDiff, ↓reduceIte, Nat.reduceAdd, finish, resOf, tupOf, AM.freeze, freeze1, freezeL, closed, nam, namL, if_true, if_false, deref, boxAt, exAt, ldCells, oneL, oneCell, Nat.reduceLeDiff, evL, adopt, rigid, rigidL, trim, Int.reduceEq, Int.reduceMod, Int.reduceDiv, if_pos, if_neg, asI, forall_const, implies_true, chkD, chkO, chkW, effB, reB, vEq, beq_self_eq_true, Nat.reduceSub, Nat.reduceLT, Int.reduceSub, Int.reduceAdd, Int.reduceMul, Int.reduceLT, Int.reduceLE, Int.reduceToNat, optI, aslice, cutSl, cutMs, cutStr, cutOwn, cellsOf, one, elCells, lenOf, beqV, beqVL, strip, stripO, convS]) | ((first | rw [WP_condK] | rw [WP_opsG] | rw [WP_quiG] | rw [WP_dG]); refine And.intro (fun hb => ?_) (fun hb => ?_) <;> (first | have hd := dq1 hb | have hd := dq2 hb | have hd := dq3 hb | have hd := dq4 hb | skip)))
theorem Wf.erase {c : Nat} {bs : List Nat} {fs : Fs} (w : Wf c bs fs) (i : Nat) : Wf c (bs.eraseIdx i) (fs.eraseIdx i) := by
  have sub : ∀ {α : Type} {l : List α} {x : α}, x ∈ l.eraseIdx i → x ∈ l := fun hx => (List.eraseIdx_sublist _ _).subset hx
  refine ⟨?_, w.nd.sublist (List.eraseIdx_sublist _ _), fun b hb => w.lt b (sub hb), fun x hx => w.names x (sub hx), ?_, fun x hx => w.few x (sub hx), fun x hx => w.short x (sub hx)⟩
  · rw [List.length_eraseIdx, List.length_eraseIdx, w.len]
  · rw [ChangeMaps.map_eraseIdx]
    exact w.keys.sublist (List.eraseIdx_sublist _ _)
/-- without one -/
def delO (c : Nat) (bs : List Nat) (fs : Fs) : Option (Nat × Fl) → AObj
  | some r => .map none c (bs.eraseIdx r.1) (fsV (fs.eraseIdx r.1))
  | none => .map none c bs (fsV fs)
theorem c_rem (hn : h[n]? = some (.map none c bs (fsV fs))) (w : Wf c bs fs) (hnm : Bytes nm) {r : Nat × Fl} (hr : findF nm fs 0 = some r) :
    ag T 30 [.map n, .ref [stB' nm]] h = some (.tup [], h.set n (delO c bs fs (some r))) := by
  refine WP_eq (k_wp rfl t30 rfl rfl ?_)
  have hma : mapAt h n = some (c, bs, fsV fs) := by simp [mapAt, hn]
  have hf := findM_fs hnm w.names 0
  rw [hr] at hf
  have he := erase_fs fs r.1
  unfold delO
  generalize fsV fs = E at *
  first | have hb := hb | have hb := trivial
  repeat' (first | (simp -implicitDefEqProofs (disch := omega) only [hb, F30, hma, hf, keyB, he, wC, initE, aop, Nat.reduceEqDiff, ↓reduceIte, Nat.reduceAdd, finish, resOf, tupOf, AM.freeze, freeze1, freezeL, closed, nam, namL, if_true, if_false, deref, boxAt, exAt, ldCells, oneL, oneCell, Nat.reduceLeDiff, evL, adopt, rigid, rigidL, trim, Int.reduceEq, Int.reduceMod, Int.reduceDiv, if_pos, if_neg, asI, forall_const, implies_true, chkD, chkO, chkW, effB, reB, vEq, beq_self_eq_true, Nat.reduceSub, Nat.reduceLT, Int.reduceSub, Int.reduceAdd, Int.reduceMul, Int.reduceLT, Int.reduceLE, Int.reduceToNat, optI, aslice, cutSl, cutMs, cutStr, cutOwn, cellsOf, one, elCells, lenOf, beqV, beqVL, strip, stripO, convS]) | ((first | rw [WP_condK] | rw [WP_opsG] | rw [WP_quiG] | rw [WP_dG]); refine And.intro (fun hb => ?_) (fun hb => ?_) <;> (first | have hd := dq1 hb | have hd := dq2 hb | have hd := dq3 hb | have hd := dq4 hb | skip)))
theorem c_ren {to : List Int} (hn : h[n]? = some (.map none c bs (fsV fs))) (w : Wf c bs fs) (hnm : Bytes nm) (hto : Bytes to) {r : Nat × Fl} (hr : findF nm fs 0 = some r) :
    ag T 29 [.map n, .ref [stB' nm], .ref [stB' to]] h = some (.tup [], h.set n (putO c (bs.eraseIdx r.1) (fs.eraseIdx r.1) to r.2) ++ [.cells [.slice .none none (r.2.map partV), i64 (r.2.flatten.length : Nat)]]) := by
  refine WP_eq (k_wp rfl t29 rfl rfl ?_)
  obtain ⟨ln, en⟩ := List.getElem?_eq_some_iff.1 hn
  have hme : mapEs h (.map n) = some (fsV fs) := by simp [mapEs, mapAt, hn]
  have hf := findM_fs hnm w.names 0
  rw [hr, Option.map_some] at hf
  have he := erase_fs fs r.1
  have w2 := w.erase r.1
  have hf2 := findM_fs hto w2.names 0
  have hpm := putM_fs (fs.eraseIdx r.1) to r.2 (findF to (fs.eraseIdx r.1) 0)
  have h0 : ∀ x g, (h ++ (x :: g))[h.length]? = some x := fun x g => app_get _ _ _ 0 rfl
  have s0 : ∀ x g u, (h ++ (x :: g)).set h.length u = h ++ (u :: g) := fun x g u => app_set _ _ _ 0 u rfl
  have hma : ∀ g, mapAt (h ++ g) n = some (c, bs, fsV fs) := fun g => by simp [mapAt, List.getElem?_append_left ln, hn]
  have sn : ∀ g X, (h ++ g).set n X = h.set n X ++ g := fun g X => List.set_append_left _ _ ln
  have hma2 : ∀ X g, mapAt (h.set n (.map none c X (fsV (fs.eraseIdx r.1))) ++ g) n = some (c, X, fsV (fs.eraseIdx r.1)) := fun X g => by
    simp [mapAt, List.getElem?_append_left (show n < (h.set n (.map none c X (fsV (fs.eraseIdx r.1)))).length by rw [List.length_set]; exact ln), ln]
  have sn2 : ∀ g X Y, (h.set n Y ++ g).set n X = h.set n X ++ g := fun g X Y => by rw [List.set_append_left _ _ (by rw [List.length_set]; exact ln), List.set_set]
  have g2 : ∀ X g x, (h.set n X ++ (x :: g))[h.length]? = some x := fun X g x => app_get _ _ _ 0 (List.length_set ..)
  have hfv : fileV r.2 = .agg [.slice .none none (r.2.map partV), i64 (r.2.flatten.length : Nat)] := rfl
  rw [hfv] at hf
  rw [hfv] at hpm
  unfold putO resM
  generalize findF to (fs.eraseIdx r.1) 0 = q at *
  generalize fsV fs = E at *
  generalize fsV (fs.eraseIdx r.1) = E2 at *
  generalize r.2.map partV = P at *
  generalize r.2.flatten.length = m at *
  first | have hb := hb | have hb := trivial
  repeat' (first | (simp -implicitDefEqProofs (disch := omega) only [hb, F29, hme, hma, hf, keyB, he, valM, h0, s0, sn, hma2, sn2, hf2, hpm, g2, wC, initE, aop, Nat.reduceEqDiff, ↓reduceIte, Nat.reduceAdd, finish, resOf, tupOf, AM.freeze, freeze1, freezeL, closed, nam, namL, if_true, if_false, deref, boxAt, exAt, ldCells, oneL, oneCell, Nat.reduceLeDiff, evL, adopt, rigid, rigidL, trim, Int.reduceEq, Int.reduceMod, Int.reduceDiv, if_pos, if_neg, asI, forall_const, implies_true, chkD, chkO, chkW, effB, reB, vEq, beq_self_eq_true, Nat.reduceSub, Nat.reduceLT, Int.reduceSub, Int.reduceAdd, Int.reduceMul, Int.reduceLT, Int.reduceLE, Int.reduceToNat, optI, aslice, cutSl, cutMs, cutStr, cutOwn, cellsOf, one, elCells, lenOf, beqV, beqVL, strip, stripO, convS]) | ((first | rw [WP_condK] | rw [WP_opsG] | rw [WP_quiG] | rw [WP_dG]); refine And.intro (fun hb => ?_) (fun hb => ?_) <;> (first | have hd := dq1 hb | have hd := dq2 hb | have hd := dq3 hb | have hd := dq4 hb | skip)))
theorem c_trunc (hn : h[n]? = some (.map none c bs (fsV fs))) (w : Wf c bs fs) (hnm : Bytes nm) {r : Nat × Fl} (hr : findF nm fs 0 = some r) (hB : r.2.flatten.length ≤ 140737488355328) :
    ag T 32 [.map n, .ref [stB' nm], .ref [i64 k]] h = some (.tup [], h.set n (putO c bs fs nm [r.2.flatten.take k]) ++ [.row none r.2.flatten.length]) := by
  refine WP_eq (k_wp rfl t32 rfl rfl ?_)
  obtain ⟨ln, en⟩ := List.getElem?_eq_some_iff.1 hn
  have hme : mapEs h (.map n) = some (fsV fs) := by simp [mapEs, mapAt, hn]
  have hf := findM_fs hnm w.names 0
  have hfew := (w.found hr).2
  have hby := fun h => call_bytes r.2 hB (by omega) h
  have hma : ∀ g, mapAt (h ++ g) n = some (c, bs, fsV fs) := fun g => by simp [mapAt, List.getElem?_append_left ln, hn]
  have sn : ∀ g X, (h ++ g).set n X = h.set n X ++ g := fun g X => List.set_append_left _ _ ln
  have hpm := putM_fs fs nm [r.2.flatten.take k] (findF nm fs 0)
  have hw := fun h => call_with none (r.2.flatten.take k) (fun p hp => by cases hp) (by simp only [moreF, List.flatten_cons, List.flatten_nil, List.append_nil, List.length_take]; omega) h
  obtain ⟨kk, hk1, hk2, hk3⟩ : ∃ kk : Nat, (if ((r.2.flatten.length : Nat) : Int) < (k : Int) then ((r.2.flatten.length : Nat) : Int) else (k : Int)) = (kk : Int) ∧ kk ≤ r.2.flatten.length ∧ r.2.flatten.take kk = r.2.flatten.take k := by
    by_cases h : r.2.flatten.length < k
    · exact ⟨r.2.flatten.length, by rw [if_pos (by omega)], Nat.le_refl _, by rw [List.take_of_length_le (Nat.le_refl _), List.take_of_length_le (by omega)]⟩
    · exact ⟨k, by rw [if_neg (by omega)], by omega, rfl⟩
  rw [← hk3] at hw hpm ⊢
  have hk0 : (0 : Int) ≤ kk := Int.natCast_nonneg kk
  have hk4 : (kk : Int) ≤ r.2.flatten.length := by omega
  have htk : (r.2.flatten.map u8).take kk = (r.2.flatten.take kk).map u8 := by rw [List.map_take]
  simp only [valF, moreF] at hw
  unfold putO resM
  rw [hr] at hf hpm ⊢
  generalize fsV fs = E at *
  generalize r.2.flatten.take kk = L at *
  generalize hF : r.2.flatten = F at *
  first | have hb := hb | have hb := trivial
  repeat' (first | (simp -implicitDefEqProofs (disch := omega) only [hb, F32, hme, hma, hf, hby, hw, keyB, valM, sn, hk1, hk0, hk4, htk, hpm, wC, initE, aop, Nat.reduceEqDiff, ↓reduceIte, Nat.reduceAdd, finish, resOf, tupOf, AM.freeze, freeze1, freezeL, closed, nam, namL, if_true, if_false, deref, boxAt, exAt, ldCells, oneL, oneCell, Nat.reduceLeDiff, evL, adopt, rigid, rigidL, trim, Int.reduceEq, Int.reduceMod, Int.reduceDiv, if_pos, if_neg, asI, forall_const, implies_true, chkD, chkO, chkW, effB, reB, vEq, beq_self_eq_true, Nat.reduceSub, Nat.reduceLT, Int.reduceSub, Int.reduceAdd, Int.reduceMul, Int.reduceLT, Int.reduceLE, Int.reduceToNat, optI, aslice, cutSl, cutMs, cutStr, cutOwn, cellsOf, one, elCells, lenOf, beqV, beqVL, strip, stripO, convS]) | ((first | rw [WP_condK] | rw [WP_opsG] | rw [WP_quiG] | rw [WP_dG]); refine And.intro (fun hb => ?_) (fun hb => ?_) <;> (first | have hd := dq1 hb | have hd := dq2 hb | have hd := dq3 hb | have hd := dq4 hb | skip)))
  rw [Option.map_some] at hpm
  rw [hpm]
end
end Go.Proofs.Ytccllndmknnehaa.AM

/- layer 10: a disk's acts. -/
namespace Go.Proofs.Ytccllndmknnehaa.AM
open Go
set_option maxRecDepth 100000
set_option maxHeartbeats 4000000
set_option linter.unusedVariables false
set_option linter.unusedSimpArgs false
section
variable {h h1 h3 : Heap} {p s n f : Nat} {size c b : Int} {A : AV} {caps els : List AV} {o : AOwn} {ad : Bool} {nm : ByteArray}
theorem c_does (hbx : h[p]? = some (.cells (dC size s n A c))) (happ : aappend (some 4) 40 h A [.agg [.func (.func f) [] caps, i64 b, .bool ad, .str nm]] = some (.slice o (some 4) els, h1)) (hp1 : h1[p]? = some (.cells (dC size s n A c)))
    (hc : ag T f (.map n :: i64 b :: caps) (h1.set p (.cells (dC size s n (.slice o (some 4) els) c))) = some (.tup [], h3)) (hp3 : h3[p]? = some (.cells (dC size s n (.slice o (some 4) els) c))) (hcb : 0 ≤ c → c ≤ 9223372036854775807) :
    ag T 26 [.ptr p 0, .agg [.func (.func f) [] caps, i64 b, .bool ad, .str nm]] h = some (i64 0, h3.set p (.cells (dC size s n (.slice o (some 4) els) (if 0 < c then c - 1 else c)))) := by
  refine WP_eq (k_wp rfl t26 rfl rfl ?_)
  obtain ⟨lp, ep⟩ := List.getElem?_eq_some_iff.1 hp1
  have hp2 : (h1.set p (.cells (dC size s n (.slice o (some 4) els) c)))[p]? = some (.cells (dC size s n (.slice o (some 4) els) c)) := List.getElem?_set_self lp
  have hd := c_did hp3 hcb
  unfold dC at *
  first | have hb := hb | have hb := trivial
  repeat' (first | (simp -implicitDefEqProofs (disch := omega) only [hb, F26, hbx, happ, hp1, hp2, hc, hd, setEls, List.replicate_succ, List.replicate_zero, elFits, stripEl, elemsOf, wC, initE, aop, Nat.reduceEqDiff, ↓reduceIte, Nat.reduceAdd, finish, resOf, tupOf, AM.freeze, freeze1, freezeL, closed, nam, namL, if_true, if_false, deref, boxAt, exAt, ldCells, oneL, oneCell, Nat.reduceLeDiff, evL, adopt, rigid, rigidL, trim, Int.reduceEq, Int.reduceMod, Int.reduceDiv, if_pos, if_neg, asI, forall_const, implies_true, chkD, chkO, chkW, effB, reB, vEq, beq_self_eq_true, Nat.reduceSub, Nat.reduceLT, Int.reduceSub, Int.reduceAdd, Int.reduceMul, Int.reduceLT, Int.reduceLE, Int.reduceToNat, optI, aslice, cutSl, cutMs, cutStr, cutOwn, cellsOf, one, elCells, lenOf, beqV, beqVL, strip, stripO, convS]) | ((first | rw [WP_condK] | rw [WP_opsG] | rw [WP_quiG] | rw [WP_dG]); refine And.intro (fun hb => ?_) (fun hb => ?_) <;> (first | have hd := dq1 hb | have hd := dq2 hb | have hd := dq3 hb | have hd := dq4 hb | skip)))
end
end Go.Proofs.Ytccllndmknnehaa.AM

/- layer 10: a disk in a store, and an act that is done to it. -/
namespace Go.Proofs.Ytccllndmknnehaa.AM
open Go
set_option maxRecDepth 100000
set_option maxHeartbeats 4000000
set_option linter.unusedVariables false
set_option linter.unusedSimpArgs false
inductive Dact where
  | add (nm l : List Int)
  | trunc (nm : List Int) (k : Nat)
  | ren (a b : List Int)
  | rem (nm : List Int)
structure Dk where
  size : Int
  sure : Fs
  now : Fs
  acts : List Dact
  c : Int
/-- what is held of an act -/
def changeC (inner : AV) : AV := .agg [.func (.func 43) [] [.ref [inner]], i64 0, .bool false, .str (bs [])]
def actR (h : Heap) (p : Nat) (v : AV) : Dact → Prop
  | .add nm l => ∃ q o, v = .agg [.func (.func 24) [] [.ref [stB' nm], .ptr q 0], i64 l.length, .bool true, stB' nm] ∧ h[q]? = some (.cells [.slice o none (l.map u8)]) ∧ q ≠ p ∧ Nm nm
  | .trunc nm k => v = changeC (.func (.func 32) [] [.ref [stB' nm], .ref [i64 k]]) ∧ Nm nm
  | .ren a b => v = changeC (.func (.func 29) [] [.ref [stB' a], .ref [stB' b]]) ∧ Nm a ∧ Nm b
  | .rem nm => v = changeC (.func (.func 30) [] [.ref [stB' nm]]) ∧ Nm nm
def actsR (h : Heap) (p : Nat) : List AV → List Dact → Prop
  | [], [] => True
  | v :: vs, a :: ac => actR h p v a ∧ actsR h p vs ac
  | _, _ => False
/-- the row of acts -/
def rowR (h : Heap) (J : List Nat) (A : AV) (els : List AV) : Prop := (A = .nil ∧ els = [] ∧ J = []) ∨ ∃ j, J = [j] ∧ A = .slice (.tok j) (some 4) els ∧ h[j]? = some (.row (some 4) els.length)
/-- what an act does, to the letter -/
def runA (fs : Fs) : Dact → Fs
  | .add nm l => putF fs nm (moreF (findF nm fs 0) l) (findF nm fs 0)
  | .trunc nm k => match findF nm fs 0 with | some r => putF fs nm [r.2.flatten.take k] (some r) | none => fs
  | .ren a b => match findF a fs 0 with | some r => putF (fs.eraseIdx r.1) b r.2 (findF b (fs.eraseIdx r.1) 0) | none => fs
  | .rem nm => match findF nm fs 0 with | some r => fs.eraseIdx r.1 | none => fs
def validA (fs : Fs) : Dact → Prop
  | .add nm l => True
  | .trunc nm k => ∃ r, findF nm fs 0 = some r
  | .ren a b => ∃ r, findF a fs 0 = some r
  | .rem nm => ∃ r, findF nm fs 0 = some r
/-- no more than fits -/
def small (size : Int) (fs : Fs) : Prop := (totF fs : Int) ≤ size ∧ ∀ x ∈ fs, x.2.length ≤ 1000000000
/-- acts that go through, with room at each -/
def okRun (size : Int) : Fs → List Dact → Prop
  | fs, [] => small size fs
  | fs, a :: r => small size fs ∧ validA fs a ∧ okRun size (runA fs a) r
theorem okRun.snoc {size : Int} {a : Dact} : ∀ {ac : List Dact} {fs : Fs}, okRun size fs ac → validA (ac.foldl runA fs) a → small size (runA (ac.foldl runA fs) a) → okRun size fs (ac ++ [a])
  | [], fs, h, hv, ht => ⟨h, hv, ht⟩
  | b :: ac, fs, h, hv, ht => ⟨h.1, h.2.1, okRun.snoc h.2.2 hv ht⟩
theorem okRun.last {size : Int} : ∀ {ac : List Dact} {fs : Fs}, okRun size fs ac → small size (ac.foldl runA fs)
  | [], fs, h => h
  | b :: ac, fs, h => h.2.2.last
theorem okRun.first {size : Int} {ac : List Dact} {fs : Fs} (h : okRun size fs ac) : small size fs := by
  cases ac with
  | nil => exact h
  | cons a r => exact h.1
structure DkV (h : Heap) (p n s : Nat) (J : List Nat) (d : Dk) (A : AV) (els : List AV) (c : Nat) (bs : List Nat) (c' : Nat) (bs' : List Nat) : Prop where
  box : h[p]? = some (.cells (dC d.size s n A d.c))
  now : h[n]? = some (.map none c bs (fsV d.now))
  wn : Wf c bs d.now
  sure : h[s]? = some (.map none c' bs' (fsV d.sure))
  ws : Wf c' bs' d.sure
  row : rowR h J A els
  acts : actsR h p els d.acts
  ns : n ≠ s
  few : d.acts.length ≤ 100000000
  cal : d.c ≤ 9223372036854775807
  hist : d.now = d.acts.foldl runA d.sure
  run : okRun d.size d.sure d.acts
  big : d.size ≤ 268435456
theorem actsR_len {h : Heap} {p : Nat} : ∀ {vs : List AV} {ac : List Dact}, actsR h p vs ac → vs.length = ac.length
  | [], [], _ => rfl
  | _ :: _, _ :: _, h => by simp [actsR_len h.2]
  | [], _ :: _, h => h.elim
  | _ :: _, [], h => h.elim
theorem actR.keep {h h' : Heap} {p : Nat} {v : AV} {a : Dact} {Tl : List Nat} (r : actR h p v a) (k : Keep h h' Tl) (hT : ∀ i ∈ Tl, i = p ∨ ∀ cs, h[i]? ≠ some (.cells cs)) : actR h' p v a := by
  cases a with
  | add nm l =>
    obtain ⟨q, o, h1, h2, h3, h4⟩ := r
    refine ⟨q, o, h1, k.get h2 (fun hm => ?_), h3, h4⟩
    rcases hT q hm with rfl | hh
    · exact h3 rfl
    · exact hh _ h2
  | trunc nm k => exact r
  | ren a b => exact r
  | rem nm => exact r
theorem actsR.keep {h h' : Heap} {p : Nat} {Tl : List Nat} (k : Keep h h' Tl) (hT : ∀ i ∈ Tl, i = p ∨ ∀ cs, h[i]? ≠ some (.cells cs)) : ∀ {vs : List AV} {ac : List Dact}, actsR h p vs ac → actsR h' p vs ac
  | [], [], _ => trivial
  | _ :: _, _ :: _, r => ⟨r.1.keep k hT, actsR.keep k hT r.2⟩
  | [], _ :: _, h => h.elim
  | _ :: _, [], h => h.elim
theorem actsR.snoc {h : Heap} {p : Nat} {v : AV} {a : Dact} (r1 : actR h p v a) : ∀ {vs : List AV} {ac : List Dact}, actsR h p vs ac → actsR h p (vs ++ [v]) (ac ++ [a])
  | [], [], _ => ⟨r1, trivial⟩
  | _ :: _, _ :: _, r => ⟨r.1, actsR.snoc r1 r.2⟩
  | [], _ :: _, h => h.elim
  | _ :: _, [], h => h.elim
/-- places that a disk may change -/
abbrev plc (p n s : Nat) (J : List Nat) : List Nat := p :: n :: s :: J
structure Stp (h : Heap) (p n s : Nat) (J : List Nat) (h' : Heap) (n' s' : Nat) (J' : List Nat) : Prop where
  keep : Keep h h' (plc p n s J)
  new : ∀ i ∈ plc p n' s' J', i ∈ plc p n s J ∨ h.length ≤ i
theorem Stp.refl (h : Heap) (p n s : Nat) (J : List Nat) : Stp h p n s J h n s J := ⟨Keep.refl _ _, fun i hi => .inl hi⟩
theorem Stp.trans {a b c : Heap} {p n s n' s' n2 s2 : Nat} {J J' J2 : List Nat} (x : Stp a p n s J b n' s' J') (y : Stp b p n' s' J' c n2 s2 J2) : Stp a p n s J c n2 s2 J2 :=
  ⟨x.keep.trans y.keep x.new, fun i hi => by
    rcases y.new i hi with h | h
    · exact x.new i h
    · exact .inr (Nat.le_trans x.keep.1 h)⟩
/-- one more act in the row -/
theorem row_app {h : Heap} {J : List Nat} {A : AV} {els : List AV} (r : rowR h J A els) (hl : els.length ≤ 1000000000) (a : List AV) : ∃ j h1, aappend (some 4) 40 h A [.agg a] = some (.slice (.tok j) (some 4) (els ++ [.agg a]), h1) ∧ h1[j]? = some (.row (some 4) (els ++ [AV.agg a]).length) ∧ Keep h h1 J ∧ (j ∈ J ∨ h.length ≤ j) := by
  have hf : fitsB (els.length + 1) 40 = true := fits_of (.inl (by omega))
  rcases r with ⟨rfl, rfl, rfl⟩ | ⟨j, rfl, rfl, hj⟩
  · refine ⟨h.length, h ++ [.row (some 4) 1], ?_, by rw [get_app0]; rfl, keep_app _ _ _, .inr (Nat.le_refl _)⟩
    have : fitsB 1 40 = true := rfl
    simp [aappend, this]
  · obtain ⟨lj, ej⟩ := List.getElem?_eq_some_iff.1 hj
    refine ⟨j, h.set j (.row (some 4) (els.length + 1)), ?_, ?_, ⟨by simp, fun i hi hn => ?_⟩, .inl (by simp)⟩
    · simp [aappend, hj, hf]
    · rw [List.getElem?_set_self lj, List.length_append]; rfl
    · rw [List.getElem?_set_ne (fun e => hn (by simp [e]))]
/-- an act is done -/
theorem d_does {h : Heap} {p n s : Nat} {J : List Nat} {d : Dk} {A : AV} {els : List AV} {c : Nat} {bs0 : List Nat} {c' : Nat} {bs' : List Nat} (D : DkV h p n s J d A els c bs0 c' bs') (f : Nat) (caps : List AV) (b : Int) (ad : Bool) (nm : ByteArray) (a : Dact) {c2 : Nat} {bs2 : List Nat} {now2 : Fs} (hw2 : Wf c2 bs2 now2)
    (hclos : ∀ h2, Keep h h2 (p :: J) → h2[n]? = h[n]? → ∃ g, ag T f (.map n :: i64 b :: caps) h2 = some (.tup [], h2.set n (.map none c2 bs2 (fsV now2)) ++ g))
    (hact : actR h p (.agg [.func (.func f) [] caps, i64 b, .bool ad, .str nm]) a) (hn2 : now2 = runA d.now a) (hv : validA d.now a) (ht : small d.size now2) (hfew : d.acts.length < 100000000) :
    ∃ h' J' A', ag T 26 [.ptr p 0, .agg [.func (.func f) [] caps, i64 b, .bool ad, .str nm]] h = some (i64 0, h') ∧ Stp h p n s J h' n s J' ∧
      DkV h' p n s J' { d with now := now2, acts := d.acts ++ [a], c := if 0 < d.c then d.c - 1 else d.c } A' (els ++ [.agg [.func (.func f) [] caps, i64 b, .bool ad, .str nm]]) c2 bs2 c' bs' := by
  have hlen := actsR_len D.acts
  obtain ⟨j, h1, happ, hj, hk, hjn⟩ := row_app D.row (by omega) [.func (.func f) [] caps, i64 b, .bool ad, .str nm]
  -- J holds no place of another kind
  have hJ : ∀ i ∈ J, ∃ m, h[i]? = some (.row (some 4) m) := by
    rcases D.row with ⟨_, _, rfl⟩ | ⟨i, rfl, _, hi⟩
    · intro i hi; cases hi
    · intro x hx; simp at hx; subst hx; exact ⟨_, hi⟩
  have npJ : ∀ i o, h[i]? = some o → (∀ k m, o ≠ .row k m) → i ∉ J := fun i o hi ho hm => by
    obtain ⟨m, hm⟩ := hJ i hm
    rw [hi] at hm
    cases hm
    exact ho _ _ rfl
  have hpJ := npJ p _ D.box (by intros; simp)
  have hnJ := npJ n _ D.now (by intros; simp)
  have hsJ := npJ s _ D.sure (by intros; simp)
  have hpn : p ≠ n := fun e => by have := D.box; rw [e, D.now] at this; cases this
  have hps : p ≠ s := fun e => by have := D.box; rw [e, D.sure] at this; cases this
  have hp1 := hk.get D.box hpJ
  have hn1 := hk.get D.now hnJ
  have hs1 := hk.get D.sure hsJ
  obtain ⟨lp1, _⟩ := List.getElem?_eq_some_iff.1 hp1
  obtain ⟨ln1, _⟩ := List.getElem?_eq_some_iff.1 hn1
  obtain ⟨ls1, _⟩ := List.getElem?_eq_some_iff.1 hs1
  obtain ⟨lj1, _⟩ := List.getElem?_eq_some_iff.1 hj
  have hjp : j ≠ p := fun e => by rw [e, hp1] at hj; cases hj
  have hjn' : j ≠ n := fun e => by rw [e, hn1] at hj; cases hj
  have hjs : j ≠ s := fun e => by rw [e, hs1] at hj; cases hj
  generalize hA' : AV.slice (.tok j) (some 4) (els ++ [.agg [.func (.func f) [] caps, i64 b, .bool ad, .str nm]]) = A'
  obtain ⟨g, hg⟩ := hclos (h1.set p (.cells (dC d.size s n A' d.c))) ⟨by rw [List.length_set]; exact hk.1, fun i hi hn => by
      simp only [List.mem_cons, not_or] at hn
      rw [List.getElem?_set_ne (fun e => hn.1 e.symm), hk.2 i hi hn.2]⟩ (by rw [List.getElem?_set_ne hpn, hn1, D.now])
  generalize hh2 : h1.set p (.cells (dC d.size s n A' d.c)) = h2 at hg
  have l2 : h2.length = h1.length := by rw [← hh2, List.length_set]
  have g2 : ∀ i, i ≠ p → h2[i]? = h1[i]? := fun i hi => by rw [← hh2, List.getElem?_set_ne (fun e => hi e.symm)]
  have g2p : h2[p]? = some (.cells (dC d.size s n A' d.c)) := by rw [← hh2, List.getElem?_set_self lp1]
  have g3 : ∀ i, i < h1.length → i ≠ n → (h2.set n (.map none c2 bs2 (fsV now2)) ++ g)[i]? = h2[i]? := fun i hi hn => by
    rw [List.getElem?_append_left (by rw [List.length_set, l2]; exact hi), List.getElem?_set_ne (fun e => hn e.symm)]
  have g3n : (h2.set n (.map none c2 bs2 (fsV now2)) ++ g)[n]? = some (.map none c2 bs2 (fsV now2)) := by
    rw [List.getElem?_append_left (by rw [List.length_set, l2]; exact ln1), List.getElem?_set_self (by rw [l2]; exact ln1)]
  have hdo := c_does (o := .tok j) (els := els ++ [.agg [.func (.func f) [] caps, i64 b, .bool ad, .str nm]]) D.box (by rw [happ]) hp1 (by rw [hA', hh2]; exact hg) (by rw [g3 p lp1 hpn, g2p, hA']) (fun _ => D.cal)
  rw [hA'] at hdo
  generalize hh3 : h2.set n (.map none c2 bs2 (fsV now2)) ++ g = h3 at hdo g3 g3n
  have l3 : h1.length ≤ h3.length := by rw [← hh3, List.length_append, List.length_set, l2]; omega
  have lp3 : p < h3.length := Nat.lt_of_lt_of_le lp1 l3
  have g4 : ∀ i, i ≠ p → (h3.set p (.cells (dC d.size s n A' (if 0 < d.c then d.c - 1 else d.c))))[i]? = h3[i]? := fun i hi => List.getElem?_set_ne (fun e => hi e.symm)
  have hkeep : Keep h (h3.set p (.cells (dC d.size s n A' (if 0 < d.c then d.c - 1 else d.c)))) (p :: n :: J) := ⟨by rw [List.length_set]; exact Nat.le_trans hk.1 l3, fun i hi hn => by
    simp only [List.mem_cons, not_or] at hn
    rw [g4 i hn.1, g3 i (Nat.lt_of_lt_of_le hi hk.1) hn.2.1, g2 i hn.1, hk.2 i hi hn.2.2]⟩
  refine ⟨_, [j], A', hdo, ⟨⟨hkeep.1, fun i hi hn => hkeep.2 i hi (fun hm => hn (by
      simp only [List.mem_cons] at hm ⊢
      rcases hm with h | h | h
      · exact .inl h
      · exact .inr (.inl h)
      · exact .inr (.inr (.inr h))))⟩, fun i hi => ?_⟩, ?_⟩
  · simp only [List.mem_cons, List.not_mem_nil, or_false] at hi ⊢
    rcases hi with h | h | h | rfl
    · exact .inl (.inl h)
    · exact .inl (.inr (.inl h))
    · exact .inl (.inr (.inr (.inl h)))
    · rcases hjn with h | h
      · exact .inl (.inr (.inr (.inr h)))
      · exact .inr h
  · have hT : ∀ i ∈ p :: n :: J, i = p ∨ ∀ cs, h[i]? ≠ some (.cells cs) := fun i hi => by
      simp only [List.mem_cons] at hi
      rcases hi with h | rfl | hi
      · exact .inl h
      · right; intro cs hc; rw [D.now] at hc; cases hc
      · right; intro cs hc; obtain ⟨m, hm⟩ := hJ i hi; rw [hm] at hc; cases hc
    refine ⟨List.getElem?_set_self lp3, by rw [g4 n hpn.symm, g3n], hw2, ?_, D.ws, .inr ⟨j, rfl, hA'.symm, ?_⟩, ?_, D.ns, ?_, ?_, ?_, ?_, D.big⟩
    · rw [g4 s hps.symm, g3 s ls1 (fun e => D.ns e.symm), g2 s hps.symm, hs1]
    · rw [g4 j hjp, g3 j lj1 hjn', g2 j hjp, hj]
    · exact actsR.snoc (hact.keep hkeep hT) (D.acts.keep hkeep hT)
    · simp; omega
    · have := D.cal; show (if 0 < d.c then d.c - 1 else d.c) ≤ _; split <;> omega
    · show now2 = (d.acts ++ [a]).foldl runA d.sure
      rw [List.foldl_append, ← D.hist, hn2]; rfl
    · exact D.run.snoc (by rw [← D.hist]; exact hv) (by rw [← D.hist, ← hn2]; exact ht)
theorem DkV.app {h : Heap} {p n s : Nat} {J : List Nat} {d : Dk} {A : AV} {els : List AV} {c : Nat} {bs0 : List Nat} {c' : Nat} {bs' : List Nat} (D : DkV h p n s J d A els c bs0 c' bs') (g : Heap) : DkV (h ++ g) p n s J d A els c bs0 c' bs' := by
  have get : ∀ {i : Nat} {o : AObj}, h[i]? = some o → (h ++ g)[i]? = some o := fun hi => by rw [List.getElem?_append_left (List.getElem?_eq_some_iff.1 hi).1]; exact hi
  refine ⟨get D.box, get D.now, D.wn, get D.sure, D.ws, ?_, D.acts.keep (keep_app h g []) (fun i hi => by cases hi), D.ns, D.few, D.cal, D.hist, D.run, D.big⟩
  rcases D.row with ⟨h1, h2, h3⟩ | ⟨j, h1, h2, h3⟩
  · exact .inl ⟨h1, h2, h3⟩
  · exact .inr ⟨j, h1, h2, get h3⟩
theorem stp_app (h g : Heap) (p n s : Nat) (J : List Nat) : Stp h p n s J (h ++ g) n s J := ⟨keep_app _ _ _, fun i hi => .inl hi⟩
theorem DkV.tot {h : Heap} {p n s : Nat} {J : List Nat} {d : Dk} {A : AV} {els : List AV} {c : Nat} {bs0 : List Nat} {c' : Nat} {bs' : List Nat} (D : DkV h p n s J d A els c bs0 c' bs') : (totF d.now : Int) ≤ d.size := by rw [D.hist]; exact D.run.last.1
theorem d_left {h : Heap} {p n s : Nat} {J : List Nat} {d : Dk} {A : AV} {els : List AV} {c : Nat} {bs0 : List Nat} {c' : Nat} {bs' : List Nat} (D : DkV h p n s J d A els c bs0 c' bs') : ag T 13 [.ptr p 0] h = some (i64 (d.size - totF d.now), h) := by
  rw [ag_nat rfl nf13 n13]
  have ht := D.tot
  have hbig := D.big
  have hw : IntKind.i64.wrap d.size = d.size := by rw [IntKind.wrap_i64]; omega
  have hw2 : IntKind.i64.wrap (d.size - (totF d.now : Int)) = d.size - totF d.now := by rw [IntKind.wrap_i64]; omega
  have hbox : boxAt h p = some (dC d.size s n A d.c) := by unfold boxAt; rw [D.box]
  have hm : mapAt h n = some (c, bs0, fsV d.now) := by unfold mapAt; rw [D.now]
  have h1 : (bs0.all fun b => decide (b < c)) = true := by rw [List.all_eq_true]; exact fun b hb => decide_eq_true (D.wn.lt b hb)
  simp only [leftN, hbox, Option.bind_some, dC, List.drop_zero, hm, hw, h1, D.wn.nd, fileB_fs, and_self, if_true, szA_fs, hw2]
end Go.Proofs.Ytccllndmknnehaa.AM

/- layer 10: Append, Truncate, Rename, Remove. -/
namespace Go.Proofs.Ytccllndmknnehaa.AM
open Go
set_option maxRecDepth 100000
set_option maxHeartbeats 4000000
set_option linter.unusedVariables false
set_option linter.unusedSimpArgs false
theorem right_nm {nm : List Int} (hn : Bytes nm) (h : rightS (strOfNums nm) = true) : Nm nm := by
  unfold rightS at h
  rw [Bool.and_eq_true, decide_eq_true_eq, st_size] at h
  exact ⟨hn, by omega⟩
theorem may_right {l : List ByteArray} {c : Int} (h : mayS l c = 0) : ∀ x ∈ l, rightS x = true := by
  intro x hx
  unfold mayS at h
  split at h
  · cases h
  · rename_i hb
    cases hr : rightS x with
    | true => rfl
    | false => exact absurd (by unfold badS; rw [List.any_eq_true]; exact ⟨x, hx, by rw [hr]; rfl⟩) hb
theorem fitsB_small {n : Nat} (h : n ≤ 1000000000) : fitsB n 1 = true := fits_of (.inl (by omega))
theorem le_sum : ∀ {l : List Nat} {x : Nat}, x ∈ l → x ≤ l.sum
  | y :: l, x, h => by
    rw [List.sum_cons]
    rcases List.mem_cons.1 h with rfl | h
    · omega
    · have := le_sum h; omega
theorem beqVL_u8 : ∀ l : List Int, beqVL (l.map u8) (l.map u8) = true
  | [] => rfl
  | x :: l => by simp only [List.map_cons, beqVL, beqV, vEq, beq_self_eq_true, Bool.and_self, beqVL_u8 l]
theorem beqVL_parts : ∀ ps : Fl, beqVL (ps.map partV) (ps.map partV) = true
  | [] => rfl
  | x :: r => by simp only [List.map_cons, beqVL, partV, beqV, beq_self_eq_true, Bool.and_self, beqVL_u8, beqVL_parts r]
/-- why there may be no Append -/
def addE (d : Dk) (nm l : List Int) : Int :=
  if mayS [strOfNums nm] d.c ≠ 0 then mayS [strOfNums nm] d.c
  else if (findF nm d.now 0 = none ∧ 16 ≤ d.now.length) ∨ d.size - totF d.now < l.length then 2 else 0
def stepC (c : Int) : Int := if 0 < c then c - 1 else c
section
variable {h : Heap} {p n s : Nat} {J : List Nat} {d : Dk} {A : AV} {els : List AV} {c : Nat} {bs0 : List Nat} {c' : Nat} {bs' : List Nat}
theorem tot_put {fs : Fs} {nm l : List Int} : totF (putF fs nm (moreF (findF nm fs 0) l) (findF nm fs 0)) = totF fs + l.length := by
  cases hr : findF nm fs 0 with
  | none => simp [putF, moreF, totF, List.sum_append]
  | some r =>
    obtain ⟨_, h2⟩ := findF_some hr
    rw [Nat.sub_zero] at h2
    obtain ⟨hl, he⟩ := List.getElem?_eq_some_iff.1 h2
    unfold putF moreF totF
    rw [List.map_set]
    have key : ∀ (L : List Nat) (i : Nat) (hi : i < L.length) (x : Nat), (L.set i (L[i] + x)).sum = L.sum + x := by
      intro L
      induction L with
      | nil => intro i hi; simp at hi
      | cons a L ih =>
        intro i hi x
        cases i with
        | zero => simp; omega
        | succ i =>
          have := ih i (by simpa using hi) x
          simp only [List.set_cons_succ, List.getElem_cons_succ, List.sum_cons, this]
          omega
    have := key (fs.map fun x => x.2.flatten.length) r.1 (by simpa using hl) l.length
    rw [← this]
    congr 2
    simp only [List.getElem_map, he, List.flatten_append, List.length_append, List.flatten_cons, List.flatten_nil, List.append_nil]
theorem flat_tot {fs : Fs} {nm l : List Int} : (moreF (findF nm fs 0) l).flatten.length ≤ totF fs + l.length := by
  cases hr : findF nm fs 0 with
  | none => simp [moreF]
  | some r =>
    obtain ⟨_, h2⟩ := findF_some hr
    rw [Nat.sub_zero] at h2
    have hm : (nm, r.2) ∈ fs := List.mem_of_getElem? h2
    have : r.2.flatten.length ≤ totF fs := by
      unfold totF
      exact le_sum (List.mem_map.2 ⟨_, hm, rfl⟩)
    simp only [moreF, List.flatten_append, List.length_append, List.flatten_cons, List.flatten_nil, List.append_nil]
    omega
theorem d_append (D : DkV h p n s J d A els c bs0 c' bs') {nm l : List Int} (hnm : Bytes nm) (hl : Bytes l) {b : AV} (hbl : lenOf b = some l.length)
    (hcl : ∀ h, ∃ o h', ag T 23 [b] h = some (.slice o none (l.map u8), h ++ h')) (hsz : nm.length ≤ 9223372036854775807) (hfew : d.acts.length < 100000000) (hpt : (moreF (findF nm d.now 0) l).length ≤ 1000000000) :
    ∃ h' J' A' els' c2 bs2, ag T 8 [.ptr p 0, stB' nm, b] h = some (i64 (addE d nm l), h') ∧ Stp h p n s J h' n s J' ∧
      DkV h' p n s J' (if addE d nm l = 0 then { d with now := runA d.now (.add nm l), acts := d.acts ++ [.add nm l], c := stepC d.c } else d) A' els' c2 bs2 c' bs' := by
  have hm := c_may D.box [strOfNums nm] (fun x hx => by simp at hx; subst hx; rw [st_size]; omega) (by simp)
  unfold addE
  by_cases h0 : mayS [strOfNums nm] d.c = 0
  · rw [if_neg (by rw [h0]; simp)]
    have hNm : Nm nm := right_nm hnm (may_right h0 _ (by simp))
    simp only [List.map_cons, List.map_nil] at hm
    rw [h0] at hm
    have hbx := D.box
    obtain ⟨lp, _⟩ := List.getElem?_eq_some_iff.1 hbx
    have hbx2 : ∀ g, (h ++ g)[p]? = some (.cells (dC d.size s n A d.c)) := fun g => (D.app g).box
    have hme : mapEs h (.map n) = some (fsV d.now) := by simp [mapEs, mapAt, D.now]
    have hme2 : ∀ g, mapEs (h ++ g) (.map n) = some (fsV d.now) := fun g => by simp [mapEs, mapAt, (D.app g).now]
    have hf := findM_fs hnm D.wn.names 0
    have hv := valM_fs (findF nm d.now 0)
    have hleft : ∀ g, ag T 13 [.ptr p 0] (h ++ g) = some (i64 (d.size - totF d.now), h ++ g) := fun g => d_left (D.app g)
    have hlm : (fsV d.now).length = d.now.length := by simp [fsV]
    have g0 : ∀ x g, (h ++ (x :: g))[h.length]? = some x := fun x g => app_get _ _ _ 0 rfl
    have s0 : ∀ x g u, (h ++ (x :: g)).set h.length u = h ++ (u :: g) := fun x g u => app_set _ _ _ 0 u rfl
    have hbq : ∀ ps : Fl, beqVL (ps.map partV) (ps.map partV) = true := fun ps => beqVL_parts ps
    have cells : ∃ F1 F2, valF (findF nm d.now 0) = .agg [F1, F2] ∧ beqV F1 F1 = true ∧ beqV F2 F2 = true ∧ one F1 = true ∧ one F2 = true := by
      cases findF nm d.now 0 with
      | none => exact ⟨_, _, rfl, rfl, rfl, rfl, rfl⟩
      | some r => exact ⟨_, _, rfl, by simp [beqV, hbq], by simp [beqV, vEq], rfl, rfl⟩
    obtain ⟨F1, F2, hF, b1, b2, n1, n2⟩ := cells
    rw [hF] at hv
    have c1 : cellsOf (.agg [F1, F2]) = some [F1, F2] := rfl
    have n12 : oneL [F1, F2] = true := by simp [oneL, n1, n2]
    unfold dC at hbx hbx2
    have his : ∀ r : Option (Nat × Fl), (Option.map (fun r => (r.1, fileV r.2)) r).isSome = r.isSome := fun r => Option.isSome_map ..
    by_cases hfull : (findF nm d.now 0 = none ∧ 16 ≤ d.now.length) ∨ d.size - totF d.now < l.length
    · rw [if_pos hfull, if_neg (by decide)]
      refine ⟨h ++ [.cells [F1, F2]], J, A, els, c, bs0, WP_eq (k_wp rfl t8 rfl rfl ?_), stp_app _ _ _ _ _ _, D.app _⟩
      generalize hR : findF nm d.now 0 = r at *
      have bm : beqV (.map n) (.map n) = true := by simp [beqV]
      cases r with
      | some r =>
        have hlt : d.size - totF d.now < l.length := by rcases hfull with ⟨h, _⟩ | h; cases h; exact h
        simp only [Option.map_some] at hf hv
        first | have hb := hb | have hb := trivial
        repeat' (first | (simp -implicitDefEqProofs (disch := omega) only [hb, F8, hm, hbx, hbx2, hme, hme2, hf, hv, hleft, g0, s0, b1, b2, bm, n1, n2, hbl, setEls, List.replicate_succ, List.replicate_zero, keyB, Option.isSome_some, Option.isSome_none, hlm, hlt, wC, wO, initE, aop, Nat.reduceEqDiff, ↓reduceIte, Nat.reduceAdd, finish, resOf, tupOf, AM.freeze, freeze1, freezeL, closed, nam, namL, if_true, if_false, deref, boxAt, exAt, ldCells, oneL, oneCell, Nat.reduceLeDiff, evL, adopt, rigid, rigidL, trim, Int.reduceEq, Int.reduceMod, Int.reduceDiv, if_pos, if_neg, asI, forall_const, implies_true, chkD, chkO, chkW, effB, reB, vEq, beq_self_eq_true, Nat.reduceSub, Nat.reduceLT, Int.reduceSub, Int.reduceAdd, Int.reduceMul, Int.reduceLT, Int.reduceLE, Int.reduceToNat, optI, aslice, cutSl, cutMs, cutStr, cutOwn]) | ((first | rw [WP_condK] | rw [WP_opsG] | rw [WP_quiG] | rw [WP_dG]); refine And.intro (fun hb => ?_) (fun hb => ?_) <;> (first | have hd := dq1 hb | have hd := dq2 hb | have hd := dq3 hb | have hd := dq4 hb | skip)))
      | none =>
        simp only [Option.map_none] at hf hv
        by_cases h16 : (16 : Int) ≤ (d.now.length : Nat)
        · first | have hb := hb | have hb := trivial
          repeat' (first | (simp -implicitDefEqProofs (disch := omega) only [hb, F8, hm, hbx, hbx2, hme, hme2, hf, hv, hleft, g0, s0, b1, b2, bm, n1, n2, hbl, setEls, List.replicate_succ, List.replicate_zero, keyB, Option.isSome_some, Option.isSome_none, hlm, h16, wC, wO, initE, aop, Nat.reduceEqDiff, ↓reduceIte, Nat.reduceAdd, finish, resOf, tupOf, AM.freeze, freeze1, freezeL, closed, nam, namL, if_true, if_false, deref, boxAt, exAt, ldCells, oneL, oneCell, Nat.reduceLeDiff, evL, adopt, rigid, rigidL, trim, Int.reduceEq, Int.reduceMod, Int.reduceDiv, if_pos, if_neg, asI, forall_const, implies_true, chkD, chkO, chkW, effB, reB, vEq, beq_self_eq_true, Nat.reduceSub, Nat.reduceLT, Int.reduceSub, Int.reduceAdd, Int.reduceMul, Int.reduceLT, Int.reduceLE, Int.reduceToNat, optI, aslice, cutSl, cutMs, cutStr, cutOwn]) | ((first | rw [WP_condK] | rw [WP_opsG] | rw [WP_quiG] | rw [WP_dG]); refine And.intro (fun hb => ?_) (fun hb => ?_) <;> (first | have hd := dq1 hb | have hd := dq2 hb | have hd := dq3 hb | have hd := dq4 hb | skip)))
        · have hlt : d.size - totF d.now < l.length := by rcases hfull with ⟨_, h⟩ | h; omega; exact h
          first | have hb := hb | have hb := trivial
          repeat' (first | (simp -implicitDefEqProofs (disch := omega) only [hb, F8, hm, hbx, hbx2, hme, hme2, hf, hv, hleft, g0, s0, b1, b2, bm, n1, n2, hbl, setEls, List.replicate_succ, List.replicate_zero, keyB, Option.isSome_some, Option.isSome_none, hlm, h16, hlt, wC, wO, initE, aop, Nat.reduceEqDiff, ↓reduceIte, Nat.reduceAdd, finish, resOf, tupOf, AM.freeze, freeze1, freezeL, closed, nam, namL, if_true, if_false, deref, boxAt, exAt, ldCells, oneL, oneCell, Nat.reduceLeDiff, evL, adopt, rigid, rigidL, trim, Int.reduceEq, Int.reduceMod, Int.reduceDiv, if_pos, if_neg, asI, forall_const, implies_true, chkD, chkO, chkW, effB, reB, vEq, beq_self_eq_true, Nat.reduceSub, Nat.reduceLT, Int.reduceSub, Int.reduceAdd, Int.reduceMul, Int.reduceLT, Int.reduceLE, Int.reduceToNat, optI, aslice, cutSl, cutMs, cutStr, cutOwn]) | ((first | rw [WP_condK] | rw [WP_opsG] | rw [WP_quiG] | rw [WP_dG]); refine And.intro (fun hb => ?_) (fun hb => ?_) <;> (first | have hd := dq1 hb | have hd := dq2 hb | have hd := dq3 hb | have hd := dq4 hb | skip)))
    · rw [if_neg hfull, if_pos rfl]
      have bm : beqV (.map n) (.map n) = true := by simp [beqV]
      have hlt : ¬ (d.size - totF d.now < l.length) := fun h => hfull (.inr h)
      have h16 : findF nm d.now 0 = none → ¬ ((16 : Int) ≤ (d.now.length : Nat)) := fun h h1 => hfull (.inl ⟨h, by omega⟩)
      obtain ⟨o, hh, hc⟩ := hcl (h ++ [.cells [F1, F2]])
      have D0 := (D.app [.cells [F1, F2]]).app hh
      generalize hh0 : h ++ [.cells [F1, F2]] ++ hh = h0' at hc D0
      have D1 := D0.app [.cells [.slice o none (l.map u8)]]
      have hsmall : small d.size (putF d.now nm (moreF (findF nm d.now 0) l) (findF nm d.now 0)) := by
        refine ⟨by rw [tot_put]; omega, fun x hx => ?_⟩
        have hfw := D.wn.few
        cases hr : findF nm d.now 0 with
        | none =>
          rw [hr] at hx hpt
          rcases List.mem_append.1 hx with hx | hx
          · exact hfw x hx
          · simp at hx; subst hx; exact hpt
        | some r =>
          rw [hr] at hx hpt
          rcases List.mem_or_eq_of_mem_set hx with hx | rfl
          · exact hfw x hx
          · exact hpt
      have hq0 : (h0' ++ [AObj.cells [.slice o none (l.map u8)]])[h0'.length]? = some (.cells [.slice o none (l.map u8)]) := by rw [get_app0]; rfl
      have lp0 := (List.getElem?_eq_some_iff.1 D0.box).1
      have hqJ : ∀ i ∈ J, i < h0'.length := by
        rcases D0.row with ⟨_, _, rfl⟩ | ⟨i, rfl, _, hi⟩
        · intro i hi; cases hi
        · intro x hx; simp at hx; subst hx; exact (List.getElem?_eq_some_iff.1 hi).1
      have hBl : (moreF (findF nm d.now 0) l).flatten.length ≤ 140737488355328 := by
        have := flat_tot (fs := d.now) (nm := nm) (l := l)
        have := D.tot
        have := D.big
        omega
      obtain ⟨h', J', A', hdo, hst, hD⟩ := d_does D1 24 [.ref [stB' nm], .ptr h0'.length 0] l.length true (strOfNums nm) (.add nm l) (D.wn.put hNm hpt) (fun h2 hk hn => by
          have hq2 : h2[h0'.length]? = _ := hk.get hq0 (fun hm => by
            simp only [List.mem_cons] at hm
            rcases hm with hm | hm
            · omega
            · have := hqJ _ hm; omega)
          have := c_add (k := l.length) (hn.trans D1.now) hq2 D.wn hnm (Nat.le_refl _) (by rw [List.take_length]; exact hBl)
          rw [List.take_length] at this
          exact ⟨[], by rw [List.append_nil]; exact this⟩) ⟨_, o, rfl, hq0, by omega, hNm⟩ rfl trivial hsmall hfew
      have hst0 : Stp h p n s J h' n s J' := by
        refine Stp.trans (b := h0' ++ [.cells [.slice o none (l.map u8)]]) ?_ hst
        rw [← hh0, List.append_assoc, List.append_assoc]
        exact stp_app _ _ _ _ _ _
      refine ⟨h', J', A', _, _, _, WP_eq (k_wp rfl t8 rfl rfl ?_), hst0, hD⟩
      have g1 : ∀ x g, (h0' ++ (x :: g))[h0'.length]? = some x := fun x g => app_get _ _ _ 0 rfl
      have s1 : ∀ x g u, (h0' ++ (x :: g)).set h0'.length u = h0' ++ (u :: g) := fun x g u => app_set _ _ _ 0 u rfl
      generalize hR : findF nm d.now 0 = r at *
      cases r with
      | some r =>
        simp only [Option.map_some] at hf hv
        first | have hb := hb | have hb := trivial
        repeat' (first | (simp -implicitDefEqProofs (disch := omega) only [hb, F8, hm, hbx, hbx2, hme, hme2, hf, hv, hleft, g0, s0, b1, b2, bm, n1, n2, hbl, setEls, List.replicate_succ, List.replicate_zero, keyB, Option.isSome_some, Option.isSome_none, hlm, hlt, hc, g1, s1, hdo, wC, wO, initE, aop, Nat.reduceEqDiff, ↓reduceIte, Nat.reduceAdd, finish, resOf, tupOf, AM.freeze, freeze1, freezeL, closed, nam, namL, if_true, if_false, deref, boxAt, exAt, ldCells, oneL, oneCell, Nat.reduceLeDiff, evL, adopt, rigid, rigidL, trim, Int.reduceEq, Int.reduceMod, Int.reduceDiv, if_pos, if_neg, asI, forall_const, implies_true, chkD, chkO, chkW, effB, reB, vEq, beq_self_eq_true, Nat.reduceSub, Nat.reduceLT, Int.reduceSub, Int.reduceAdd, Int.reduceMul, Int.reduceLT, Int.reduceLE, Int.reduceToNat, optI, aslice, cutSl, cutMs, cutStr, cutOwn]) | ((first | rw [WP_condK] | rw [WP_opsG] | rw [WP_quiG] | rw [WP_dG]); refine And.intro (fun hb => ?_) (fun hb => ?_) <;> (first | have hd := dq1 hb | have hd := dq2 hb | have hd := dq3 hb | have hd := dq4 hb | skip)))
      | none =>
        have h16 := h16 rfl
        simp only [Option.map_none] at hf hv
        first | have hb := hb | have hb := trivial
        repeat' (first | (simp -implicitDefEqProofs (disch := omega) only [hb, F8, hm, hbx, hbx2, hme, hme2, hf, hv, hleft, g0, s0, b1, b2, bm, n1, n2, hbl, setEls, List.replicate_succ, List.replicate_zero, keyB, Option.isSome_some, Option.isSome_none, hlm, hlt, h16, hc, g1, s1, hdo, wC, wO, initE, aop, Nat.reduceEqDiff, ↓reduceIte, Nat.reduceAdd, finish, resOf, tupOf, AM.freeze, freeze1, freezeL, closed, nam, namL, if_true, if_false, deref, boxAt, exAt, ldCells, oneL, oneCell, Nat.reduceLeDiff, evL, adopt, rigid, rigidL, trim, Int.reduceEq, Int.reduceMod, Int.reduceDiv, if_pos, if_neg, asI, forall_const, implies_true, chkD, chkO, chkW, effB, reB, vEq, beq_self_eq_true, Nat.reduceSub, Nat.reduceLT, Int.reduceSub, Int.reduceAdd, Int.reduceMul, Int.reduceLT, Int.reduceLE, Int.reduceToNat, optI, aslice, cutSl, cutMs, cutStr, cutOwn]) | ((first | rw [WP_condK] | rw [WP_opsG] | rw [WP_quiG] | rw [WP_dG]); refine And.intro (fun hb => ?_) (fun hb => ?_) <;> (first | have hd := dq1 hb | have hd := dq2 hb | have hd := dq3 hb | have hd := dq4 hb | skip)))
  · rw [if_pos h0, if_neg h0]
    refine ⟨h, J, A, els, c, bs0, WP_eq (k_wp rfl t8 rfl rfl ?_), Stp.refl _ _ _ _ _, D⟩
    simp only [List.map_cons, List.map_nil] at hm
    generalize mayS [strOfNums nm] d.c = e at *
    first | have hb := hb | have hb := trivial
    repeat' (first | (simp -implicitDefEqProofs (disch := omega) only [hb, F8, hm, setEls, List.replicate_succ, List.replicate_zero, elFits, stripEl, h0, wC, initE, aop, Nat.reduceEqDiff, ↓reduceIte, Nat.reduceAdd, finish, resOf, tupOf, AM.freeze, freeze1, freezeL, closed, nam, namL, if_true, if_false, deref, boxAt, exAt, ldCells, oneL, oneCell, Nat.reduceLeDiff, evL, adopt, rigid, rigidL, trim, Int.reduceEq, Int.reduceMod, Int.reduceDiv, if_pos, if_neg, asI, forall_const, implies_true, chkD, chkO, chkW, effB, reB, vEq, beq_self_eq_true, Nat.reduceSub, Nat.reduceLT, Int.reduceSub, Int.reduceAdd, Int.reduceMul, Int.reduceLT, Int.reduceLE, Int.reduceToNat, optI, aslice, cutSl, cutMs, cutStr, cutOwn, cellsOf, one, elCells, lenOf, beqV, beqVL, strip, stripO, convS]) | ((first | rw [WP_condK] | rw [WP_opsG] | rw [WP_quiG] | rw [WP_dG]); refine And.intro (fun hb => ?_) (fun hb => ?_) <;> (first | have hd := dq1 hb | have hd := dq2 hb | have hd := dq3 hb | have hd := dq4 hb | skip)))
end
end Go.Proofs.Ytccllndmknnehaa.AM

/- layer 10: Truncate, Rename, Remove. -/
namespace Go.Proofs.Ytccllndmknnehaa.AM
open Go
set_option maxRecDepth 100000
set_option maxHeartbeats 4000000
set_option linter.unusedVariables false
set_option linter.unusedSimpArgs false
section
variable {h : Heap} {p n s : Nat} {J : List Nat} {d : Dk} {A : AV} {els : List AV} {c : Nat} {bs0 : List Nat} {c' : Nat} {bs' : List Nat}
theorem c_inner {h h3 : Heap} {n f : Nat} {caps : List AV} (hc : ag T f (.map n :: caps) h = some (.tup [], h3)) : ag T 43 [.map n, i64 0, .ref [.func (.func f) [] caps]] h = some (.tup [], h3) := by
  refine WP_eq (k_wp rfl t43 rfl rfl ?_)
  first | have hb := hb | have hb := trivial
  repeat' (first | (simp -implicitDefEqProofs (disch := omega) only [hb, F43, hc, wC, initE, aop, Nat.reduceEqDiff, ↓reduceIte, Nat.reduceAdd, finish, resOf, tupOf, AM.freeze, freeze1, freezeL, closed, nam, namL, if_true, if_false, deref, boxAt, exAt, ldCells, oneL, oneCell, Nat.reduceLeDiff, evL, adopt, rigid, rigidL, trim, Int.reduceEq, Int.reduceMod, Int.reduceDiv, if_pos, if_neg, asI, forall_const, implies_true, chkD, chkO, chkW, effB, reB, vEq, beq_self_eq_true, Nat.reduceSub, Nat.reduceLT, Int.reduceSub, Int.reduceAdd, Int.reduceMul, Int.reduceLT, Int.reduceLE, Int.reduceToNat, optI, aslice, cutSl, cutMs, cutStr, cutOwn, cellsOf, one, elCells, lenOf, beqV, beqVL, strip, stripO, convS]) | ((first | rw [WP_condK] | rw [WP_opsG] | rw [WP_quiG] | rw [WP_dG]); refine And.intro (fun hb => ?_) (fun hb => ?_) <;> (first | have hd := dq1 hb | have hd := dq2 hb | have hd := dq3 hb | have hd := dq4 hb | skip)))
theorem find_cells (r : Option (Nat × Fl)) : ∃ F1 F2, valF r = .agg [F1, F2] ∧ beqV F1 F1 = true ∧ beqV F2 F2 = true ∧ one F1 = true ∧ one F2 = true := by
  cases r with
  | none => exact ⟨_, _, rfl, rfl, rfl, rfl, rfl⟩
  | some r => exact ⟨_, _, rfl, by simp [beqV, beqVL_parts], by simp [beqV, vEq], rfl, rfl⟩
theorem d_change_none (D : DkV h p n s J d A els c bs0 c' bs') {nm : List Int} (hnm : Bytes nm) (hr : findF nm d.now 0 = none) (f : Nat) (caps : List AV) :
    ag T 28 [.ptr p 0, stB' nm, .func (.func f) [] caps] h = some (i64 4, h ++ [.cells [.nil, i64 0]]) := by
  refine WP_eq (k_wp rfl t28 rfl rfl ?_)
  have hbx := D.box
  have hme : mapEs h (.map n) = some (fsV d.now) := by simp [mapEs, mapAt, D.now]
  have hf := findM_fs hnm D.wn.names 0
  rw [hr] at hf
  have g0 : ∀ x g, (h ++ (x :: g))[h.length]? = some x := fun x g => app_get _ _ _ 0 rfl
  have s0 : ∀ x g u, (h ++ (x :: g)).set h.length u = h ++ (u :: g) := fun x g u => app_set _ _ _ 0 u rfl
  unfold dC at hbx
  simp only [Option.map_none] at hf
  first | have hb := hb | have hb := trivial
  repeat' (first | (simp -implicitDefEqProofs (disch := omega) only [hb, F28, hbx, hme, hf, g0, s0, keyB, valM, Option.isSome_none, wC, wO, initE, aop, Nat.reduceEqDiff, ↓reduceIte, Nat.reduceAdd, finish, resOf, tupOf, AM.freeze, freeze1, freezeL, closed, nam, namL, if_true, if_false, deref, boxAt, exAt, ldCells, oneL, oneCell, Nat.reduceLeDiff, evL, adopt, rigid, rigidL, trim, Int.reduceEq, Int.reduceMod, Int.reduceDiv, if_pos, if_neg, asI, forall_const, implies_true, chkD, chkO, chkW, effB, reB, vEq, beq_self_eq_true, Nat.reduceSub, Nat.reduceLT, Int.reduceSub, Int.reduceAdd, Int.reduceMul, Int.reduceLT, Int.reduceLE, Int.reduceToNat, optI, aslice, cutSl, cutMs, cutStr, cutOwn]) | ((first | rw [WP_condK] | rw [WP_opsG] | rw [WP_quiG] | rw [WP_dG]); refine And.intro (fun hb => ?_) (fun hb => ?_) <;> (first | have hd := dq1 hb | have hd := dq2 hb | have hd := dq3 hb | have hd := dq4 hb | skip)))
theorem d_change (D : DkV h p n s J d A els c bs0 c' bs') {nm : List Int} (hnm : Bytes nm) {r : Nat × Fl} (hr : findF nm d.now 0 = some r) (f : Nat) (caps : List AV) (a : Dact) {c2 : Nat} {bs2 : List Nat} (hw2 : Wf c2 bs2 (runA d.now a))
    (hclos : ∀ h2, h2[n]? = some (.map none c bs0 (fsV d.now)) → ∃ g, ag T f (.map n :: caps) h2 = some (.tup [], h2.set n (.map none c2 bs2 (fsV (runA d.now a))) ++ g))
    (hact : ∀ h, actR h p (changeC (.func (.func f) [] caps)) a) (hv : validA d.now a) (ht : small d.size (runA d.now a)) (hfew : d.acts.length < 100000000) :
    ∃ h' J' A' els', ag T 28 [.ptr p 0, stB' nm, .func (.func f) [] caps] h = some (i64 0, h') ∧ Stp h p n s J h' n s J' ∧
      DkV h' p n s J' { d with now := runA d.now a, acts := d.acts ++ [a], c := stepC d.c } A' els' c2 bs2 c' bs' := by
  have hbx := D.box
  have hme : mapEs h (.map n) = some (fsV d.now) := by simp [mapEs, mapAt, D.now]
  have hf := findM_fs hnm D.wn.names 0
  rw [hr] at hf
  obtain ⟨F1, F2, hF, b1, b2, n1, n2⟩ := find_cells (some r)
  have g0 : ∀ x g, (h ++ (x :: g))[h.length]? = some x := fun x g => app_get _ _ _ 0 rfl
  have s0 : ∀ x g u, (h ++ (x :: g)).set h.length u = h ++ (u :: g) := fun x g u => app_set _ _ _ 0 u rfl
  have hv' := valM_fs (some r)
  rw [hF] at hv'
  have D1 := D.app [.cells [F1, F2]]
  obtain ⟨h', J', A', hdo, hst, hD⟩ := d_does D1 43 [.ref [.func (.func f) [] caps]] 0 false (bs []) a hw2 (fun h2 hk hn => by
    obtain ⟨g, hg⟩ := hclos h2 (hn.trans D1.now)
    exact ⟨g, c_inner hg⟩) (hact _) rfl hv ht hfew
  refine ⟨h', J', A', _, WP_eq (k_wp rfl t28 rfl rfl ?_), (stp_app _ _ _ _ _ _).trans hst, hD⟩
  unfold dC at hbx
  simp only [Option.map_some] at hf hv'
  first | have hb := hb | have hb := trivial
  repeat' (first | (simp -implicitDefEqProofs (disch := omega) only [hb, F28, hbx, hme, hf, hv', g0, s0, n1, n2, keyB, hdo, Option.isSome_some, wC, wO, initE, aop, Nat.reduceEqDiff, ↓reduceIte, Nat.reduceAdd, finish, resOf, tupOf, AM.freeze, freeze1, freezeL, closed, nam, namL, if_true, if_false, deref, boxAt, exAt, ldCells, oneL, oneCell, Nat.reduceLeDiff, evL, adopt, rigid, rigidL, trim, Int.reduceEq, Int.reduceMod, Int.reduceDiv, if_pos, if_neg, asI, forall_const, implies_true, chkD, chkO, chkW, effB, reB, vEq, beq_self_eq_true, Nat.reduceSub, Nat.reduceLT, Int.reduceSub, Int.reduceAdd, Int.reduceMul, Int.reduceLT, Int.reduceLE, Int.reduceToNat, optI, aslice, cutSl, cutMs, cutStr, cutOwn]) | ((first | rw [WP_condK] | rw [WP_opsG] | rw [WP_quiG] | rw [WP_dG]); refine And.intro (fun hb => ?_) (fun hb => ?_) <;> (first | have hd := dq1 hb | have hd := dq2 hb | have hd := dq3 hb | have hd := dq4 hb | skip)))
theorem sum_set : ∀ {L : List Nat} {i x : Nat}, i < L.length → (L.set i x).sum + L.getD i 0 = L.sum + x
  | a :: L, 0, x, h => by simp; omega
  | a :: L, i + 1, x, h => by
    have := sum_set (L := L) (i := i) (x := x) (by simpa using h)
    simp only [List.set_cons_succ, List.sum_cons, List.getD_cons_succ]
    omega
theorem sum_erase : ∀ {L : List Nat} {i : Nat}, i < L.length → (L.eraseIdx i).sum + L.getD i 0 = L.sum
  | a :: L, 0, h => by simp; omega
  | a :: L, i + 1, h => by
    have := sum_erase (L := L) (i := i) (by simpa using h)
    simp only [List.eraseIdx_cons_succ, List.sum_cons, List.getD_cons_succ]
    omega
abbrev lenF (fs : Fs) : List Nat := fs.map fun x => x.2.flatten.length
theorem lenF_at {fs : Fs} {nm : List Int} {r : Nat × Fl} (h : fs[r.1]? = some (nm, r.2)) : (lenF fs).getD r.1 0 = r.2.flatten.length ∧ r.1 < (lenF fs).length := by
  have hl := (List.getElem?_eq_some_iff.1 h).1
  refine ⟨?_, by simpa using hl⟩
  rw [List.getD_eq_getElem?_getD, List.getElem?_map, h]; rfl
theorem tot_erase {fs : Fs} {nm : List Int} {r : Nat × Fl} (h : fs[r.1]? = some (nm, r.2)) : totF (fs.eraseIdx r.1) + r.2.flatten.length = totF fs := by
  obtain ⟨h1, h2⟩ := lenF_at h
  have := sum_erase h2
  rw [h1] at this
  unfold totF
  rw [ChangeMaps.map_eraseIdx]
  exact this
theorem tot_set {fs : Fs} {nm b : List Int} {r : Nat × Fl} (h : fs[r.1]? = some (nm, r.2)) (ps : Fl) : totF (fs.set r.1 (b, ps)) + r.2.flatten.length = totF fs + ps.flatten.length := by
  obtain ⟨h1, h2⟩ := lenF_at h
  have := sum_set (x := ps.flatten.length) h2
  rw [h1] at this
  unfold totF
  rw [List.map_set]
  exact this
theorem found {fs : Fs} {nm : List Int} {r : Nat × Fl} (h : findF nm fs 0 = some r) : fs[r.1]? = some (nm, r.2) := by
  obtain ⟨_, h2⟩ := findF_some h
  rw [Nat.sub_zero] at h2
  exact h2
theorem tot_putF {fs : Fs} {nm : List Int} {ps : Fl} : totF (putF fs nm ps (findF nm fs 0)) ≤ totF fs + ps.flatten.length := by
  cases hr : findF nm fs 0 with
  | none => simp [putF, totF, List.sum_append]
  | some r =>
    have := tot_set (b := nm) (found hr) ps
    show totF (fs.set r.1 (nm, ps)) ≤ _
    omega
theorem mem_putF {fs : Fs} {nm : List Int} {ps : Fl} {r : Option (Nat × Fl)} {x : List Int × Fl} (h : x ∈ putF fs nm ps r) : x ∈ fs ∨ x = (nm, ps) := by
  cases r with
  | none => rcases List.mem_append.1 h with h | h; exact .inl h; simp at h; exact .inr h
  | some r => exact List.mem_or_eq_of_mem_set h
theorem mem_erase {α : Type} {l : List α} {i : Nat} {x : α} (h : x ∈ l.eraseIdx i) : x ∈ l := (List.eraseIdx_sublist _ _).subset h
theorem small_rem {size : Int} {fs : Fs} {nm : List Int} (hs : small size fs) {r : Nat × Fl} (hr : findF nm fs 0 = some r) : small size (runA fs (.rem nm)) := by
  have e : runA fs (.rem nm) = fs.eraseIdx r.1 := by simp only [runA, hr]
  rw [e]
  have := tot_erase (found hr)
  exact ⟨by have := hs.1; omega, fun x hx => hs.2 x (mem_erase hx)⟩
theorem small_trunc {size : Int} {fs : Fs} {nm : List Int} {k : Nat} (hs : small size fs) {r : Nat × Fl} (hr : findF nm fs 0 = some r) : small size (runA fs (.trunc nm k)) := by
  have e : runA fs (.trunc nm k) = fs.set r.1 (nm, [r.2.flatten.take k]) := by simp only [runA, hr]; rfl
  rw [e]
  have h1 := tot_set (b := nm) (found hr) [r.2.flatten.take k]
  have h2 : ([r.2.flatten.take k] : Fl).flatten.length ≤ r.2.flatten.length := by
    rw [List.flatten_cons, List.flatten_nil, List.append_nil, List.length_take]
    omega
  refine ⟨by have := hs.1; omega, fun x hx => ?_⟩
  rcases List.mem_or_eq_of_mem_set hx with hx | rfl
  · exact hs.2 x hx
  · simp
theorem small_ren {size : Int} {fs : Fs} {a b : List Int} (hs : small size fs) {r : Nat × Fl} (hr : findF a fs 0 = some r) : small size (runA fs (.ren a b)) := by
  have e : runA fs (.ren a b) = putF (fs.eraseIdx r.1) b r.2 (findF b (fs.eraseIdx r.1) 0) := by simp only [runA, hr]
  rw [e]
  have h1 := tot_erase (found hr)
  have h2 := tot_putF (fs := fs.eraseIdx r.1) (nm := b) (ps := r.2)
  refine ⟨by have := hs.1; omega, fun x hx => ?_⟩
  rcases mem_putF hx with hx | rfl
  · exact hs.2 x (mem_erase hx)
  · exact hs.2 (a, r.2) (List.mem_of_getElem? (found hr))
theorem DkV.small {h : Heap} {p n s : Nat} {J : List Nat} {d : Dk} {A : AV} {els : List AV} {c : Nat} {bs0 : List Nat} {c' : Nat} {bs' : List Nat} (D : DkV h p n s J d A els c bs0 c' bs') : AM.small d.size d.now := by rw [D.hist]; exact D.run.last
/-- why there may be no act with a file that there must be -/
def nonE (d : Dk) (nm : List Int) : Int := if findF nm d.now 0 = none then 4 else 0
def remE (d : Dk) (nm : List Int) : Int := if mayS [strOfNums nm] d.c ≠ 0 then mayS [strOfNums nm] d.c else nonE d nm
def renE (d : Dk) (a b : List Int) : Int := if mayS [strOfNums a, strOfNums b] d.c ≠ 0 then mayS [strOfNums a, strOfNums b] d.c else nonE d a
def truE (d : Dk) (nm : List Int) (k : Int) : Int := if mayS [strOfNums nm] d.c = 1 then 1 else if k < 0 then 1 else if d.c = 0 then 100 else nonE d nm
def actD (d : Dk) (a : Dact) : Dk := { d with now := runA d.now a, acts := d.acts ++ [a], c := stepC d.c }
/-- a disk in a store, whatever else is there -/
def DkH (h : Heap) (p n s : Nat) (J : List Nat) (d : Dk) : Prop := ∃ A els c bs0 c' bs', DkV h p n s J d A els c bs0 c' bs'
theorem d_remove (D : DkH h p n s J d) {nm : List Int} (hnm : Bytes nm) (hsz : nm.length ≤ 9223372036854775807) (hfew : d.acts.length < 100000000) :
    ∃ h' J', ag T 12 [.ptr p 0, stB' nm] h = some (i64 (remE d nm), h') ∧ Stp h p n s J h' n s J' ∧ DkH h' p n s J' (if remE d nm = 0 then actD d (.rem nm) else d) := by
  obtain ⟨A, els, c, bs0, c', bs', D⟩ := D
  have hm := c_may D.box [strOfNums nm] (fun x hx => by simp at hx; subst hx; rw [st_size]; omega) (by simp)
  simp only [List.map_cons, List.map_nil] at hm
  unfold remE nonE
  by_cases h0 : mayS [strOfNums nm] d.c = 0
  · have hNm : Nm nm := right_nm hnm (may_right h0 _ (by simp))
    rw [h0] at hm ⊢
    rw [if_neg (by simp)]
    cases hr : findF nm d.now 0 with
    | none =>
      rw [if_pos rfl, if_neg (by decide)]
      have hc := d_change_none D hnm hr 30 [.ref [stB' nm]]
      refine ⟨_, J, WP_eq (k_wp rfl t12 rfl rfl ?_), stp_app h [.cells [.nil, i64 0]] p n s J, ⟨_, _, _, _, _, _, D.app _⟩⟩
      first | have hb := hb | have hb := trivial
      repeat' (first | (simp -implicitDefEqProofs (disch := omega) only [hb, F12, hm, hc, setEls, List.replicate_succ, List.replicate_zero, elFits, stripEl, wC, initE, aop, Nat.reduceEqDiff, ↓reduceIte, Nat.reduceAdd, finish, resOf, tupOf, AM.freeze, freeze1, freezeL, closed, nam, namL, if_true, if_false, deref, boxAt, exAt, ldCells, oneL, oneCell, Nat.reduceLeDiff, evL, adopt, rigid, rigidL, trim, Int.reduceEq, Int.reduceMod, Int.reduceDiv, if_pos, if_neg, asI, forall_const, implies_true, chkD, chkO, chkW, effB, reB, vEq, beq_self_eq_true, Nat.reduceSub, Nat.reduceLT, Int.reduceSub, Int.reduceAdd, Int.reduceMul, Int.reduceLT, Int.reduceLE, Int.reduceToNat, optI, aslice, cutSl, cutMs, cutStr, cutOwn, cellsOf, one, elCells, lenOf, beqV, beqVL, strip, stripO, convS]) | ((first | rw [WP_condK] | rw [WP_opsG] | rw [WP_quiG] | rw [WP_dG]); refine And.intro (fun hb => ?_) (fun hb => ?_) <;> (first | have hd := dq1 hb | have hd := dq2 hb | have hd := dq3 hb | have hd := dq4 hb | skip)))
    | some r =>
      rw [if_neg (by simp), if_pos rfl]
      obtain ⟨h', J', A', els', hc, hst, hD⟩ := d_change D hnm hr 30 [.ref [stB' nm]] (.rem nm) (c2 := c) (bs2 := bs0.eraseIdx r.1) (by simp only [runA, hr]; exact D.wn.erase r.1)
        (fun h2 hn => ⟨[], by rw [List.append_nil]; simp only [runA, hr]; exact c_rem hn D.wn hnm hr⟩) (fun h => ⟨rfl, hNm⟩) ⟨r, hr⟩ (small_rem D.small hr) hfew
      refine ⟨h', J', WP_eq (k_wp rfl t12 rfl rfl ?_), hst, ⟨_, _, _, _, _, _, hD⟩⟩
      first | have hb := hb | have hb := trivial
      repeat' (first | (simp -implicitDefEqProofs (disch := omega) only [hb, F12, hm, hc, setEls, List.replicate_succ, List.replicate_zero, elFits, stripEl, wC, initE, aop, Nat.reduceEqDiff, ↓reduceIte, Nat.reduceAdd, finish, resOf, tupOf, AM.freeze, freeze1, freezeL, closed, nam, namL, if_true, if_false, deref, boxAt, exAt, ldCells, oneL, oneCell, Nat.reduceLeDiff, evL, adopt, rigid, rigidL, trim, Int.reduceEq, Int.reduceMod, Int.reduceDiv, if_pos, if_neg, asI, forall_const, implies_true, chkD, chkO, chkW, effB, reB, vEq, beq_self_eq_true, Nat.reduceSub, Nat.reduceLT, Int.reduceSub, Int.reduceAdd, Int.reduceMul, Int.reduceLT, Int.reduceLE, Int.reduceToNat, optI, aslice, cutSl, cutMs, cutStr, cutOwn, cellsOf, one, elCells, lenOf, beqV, beqVL, strip, stripO, convS]) | ((first | rw [WP_condK] | rw [WP_opsG] | rw [WP_quiG] | rw [WP_dG]); refine And.intro (fun hb => ?_) (fun hb => ?_) <;> (first | have hd := dq1 hb | have hd := dq2 hb | have hd := dq3 hb | have hd := dq4 hb | skip)))
  · rw [if_pos h0, if_neg h0]
    refine ⟨h, J, WP_eq (k_wp rfl t12 rfl rfl ?_), Stp.refl _ _ _ _ _, ⟨_, _, _, _, _, _, D⟩⟩
    generalize mayS [strOfNums nm] d.c = e at *
    first | have hb := hb | have hb := trivial
    repeat' (first | (simp -implicitDefEqProofs (disch := omega) only [hb, F12, hm, h0, setEls, List.replicate_succ, List.replicate_zero, elFits, stripEl, wC, initE, aop, Nat.reduceEqDiff, ↓reduceIte, Nat.reduceAdd, finish, resOf, tupOf, AM.freeze, freeze1, freezeL, closed, nam, namL, if_true, if_false, deref, boxAt, exAt, ldCells, oneL, oneCell, Nat.reduceLeDiff, evL, adopt, rigid, rigidL, trim, Int.reduceEq, Int.reduceMod, Int.reduceDiv, if_pos, if_neg, asI, forall_const, implies_true, chkD, chkO, chkW, effB, reB, vEq, beq_self_eq_true, Nat.reduceSub, Nat.reduceLT, Int.reduceSub, Int.reduceAdd, Int.reduceMul, Int.reduceLT, Int.reduceLE, Int.reduceToNat, optI, aslice, cutSl, cutMs, cutStr, cutOwn, cellsOf, one, elCells, lenOf, beqV, beqVL, strip, stripO, convS]) | ((first | rw [WP_condK] | rw [WP_opsG] | rw [WP_quiG] | rw [WP_dG]); refine And.intro (fun hb => ?_) (fun hb => ?_) <;> (first | have hd := dq1 hb | have hd := dq2 hb | have hd := dq3 hb | have hd := dq4 hb | skip)))
theorem d_rename (D : DkH h p n s J d) {a b : List Int} (ha : Bytes a) (hb' : Bytes b) (hsa : a.length ≤ 9223372036854775807) (hsb : b.length ≤ 9223372036854775807) (hfew : d.acts.length < 100000000) :
    ∃ h' J', ag T 11 [.ptr p 0, stB' a, stB' b] h = some (i64 (renE d a b), h') ∧ Stp h p n s J h' n s J' ∧ DkH h' p n s J' (if renE d a b = 0 then actD d (.ren a b) else d) := by
  obtain ⟨A, els, c, bs0, c', bs', D⟩ := D
  have hm := c_may D.box [strOfNums a, strOfNums b] (fun x hx => by simp at hx; rcases hx with rfl | rfl <;> rw [st_size] <;> omega) (by simp)
  simp only [List.map_cons, List.map_nil] at hm
  unfold renE nonE
  by_cases h0 : mayS [strOfNums a, strOfNums b] d.c = 0
  · have hNa : Nm a := right_nm ha (may_right h0 _ (by simp))
    have hNb : Nm b := right_nm hb' (may_right h0 _ (by simp))
    rw [h0] at hm ⊢
    rw [if_neg (by simp)]
    cases hr : findF a d.now 0 with
    | none =>
      rw [if_pos rfl, if_neg (by decide)]
      have hc := d_change_none D ha hr 29 [.ref [stB' a], .ref [stB' b]]
      refine ⟨_, J, WP_eq (k_wp rfl t11 rfl rfl ?_), stp_app h [.cells [.nil, i64 0]] p n s J, ⟨_, _, _, _, _, _, D.app _⟩⟩
      first | have hb := hb | have hb := trivial
      repeat' (first | (simp -implicitDefEqProofs (disch := omega) only [hb, F11, hm, hc, setEls, List.replicate_succ, List.replicate_zero, elFits, stripEl, wC, initE, aop, Nat.reduceEqDiff, ↓reduceIte, Nat.reduceAdd, finish, resOf, tupOf, AM.freeze, freeze1, freezeL, closed, nam, namL, if_true, if_false, deref, boxAt, exAt, ldCells, oneL, oneCell, Nat.reduceLeDiff, evL, adopt, rigid, rigidL, trim, Int.reduceEq, Int.reduceMod, Int.reduceDiv, if_pos, if_neg, asI, forall_const, implies_true, chkD, chkO, chkW, effB, reB, vEq, beq_self_eq_true, Nat.reduceSub, Nat.reduceLT, Int.reduceSub, Int.reduceAdd, Int.reduceMul, Int.reduceLT, Int.reduceLE, Int.reduceToNat, optI, aslice, cutSl, cutMs, cutStr, cutOwn, cellsOf, one, elCells, lenOf, beqV, beqVL, strip, stripO, convS]) | ((first | rw [WP_condK] | rw [WP_opsG] | rw [WP_quiG] | rw [WP_dG]); refine And.intro (fun hb => ?_) (fun hb => ?_) <;> (first | have hd := dq1 hb | have hd := dq2 hb | have hd := dq3 hb | have hd := dq4 hb | skip)))
    | some r =>
      rw [if_neg (by simp), if_pos rfl]
      have w2 := D.wn.erase r.1
      obtain ⟨h', J', A', els', hc, hst, hD⟩ := d_change D ha hr 29 [.ref [stB' a], .ref [stB' b]] (.ren a b) (by simp only [runA, hr]; exact w2.put hNb (D.wn.found hr).2)
        (fun h2 hn => ⟨_, by simp only [runA, hr]; exact c_ren hn D.wn ha hb' hr⟩) (fun h => ⟨rfl, hNa, hNb⟩) ⟨r, hr⟩ (small_ren D.small hr) hfew
      refine ⟨h', J', WP_eq (k_wp rfl t11 rfl rfl ?_), hst, ⟨_, _, _, _, _, _, hD⟩⟩
      first | have hb := hb | have hb := trivial
      repeat' (first | (simp -implicitDefEqProofs (disch := omega) only [hb, F11, hm, hc, setEls, List.replicate_succ, List.replicate_zero, elFits, stripEl, wC, initE, aop, Nat.reduceEqDiff, ↓reduceIte, Nat.reduceAdd, finish, resOf, tupOf, AM.freeze, freeze1, freezeL, closed, nam, namL, if_true, if_false, deref, boxAt, exAt, ldCells, oneL, oneCell, Nat.reduceLeDiff, evL, adopt, rigid, rigidL, trim, Int.reduceEq, Int.reduceMod, Int.reduceDiv, if_pos, if_neg, asI, forall_const, implies_true, chkD, chkO, chkW, effB, reB, vEq, beq_self_eq_true, Nat.reduceSub, Nat.reduceLT, Int.reduceSub, Int.reduceAdd, Int.reduceMul, Int.reduceLT, Int.reduceLE, Int.reduceToNat, optI, aslice, cutSl, cutMs, cutStr, cutOwn, cellsOf, one, elCells, lenOf, beqV, beqVL, strip, stripO, convS]) | ((first | rw [WP_condK] | rw [WP_opsG] | rw [WP_quiG] | rw [WP_dG]); refine And.intro (fun hb => ?_) (fun hb => ?_) <;> (first | have hd := dq1 hb | have hd := dq2 hb | have hd := dq3 hb | have hd := dq4 hb | skip)))
  · rw [if_pos h0, if_neg h0]
    refine ⟨h, J, WP_eq (k_wp rfl t11 rfl rfl ?_), Stp.refl _ _ _ _ _, ⟨_, _, _, _, _, _, D⟩⟩
    generalize mayS [strOfNums a, strOfNums b] d.c = e at *
    first | have hb := hb | have hb := trivial
    repeat' (first | (simp -implicitDefEqProofs (disch := omega) only [hb, F11, hm, h0, setEls, List.replicate_succ, List.replicate_zero, elFits, stripEl, wC, initE, aop, Nat.reduceEqDiff, ↓reduceIte, Nat.reduceAdd, finish, resOf, tupOf, AM.freeze, freeze1, freezeL, closed, nam, namL, if_true, if_false, deref, boxAt, exAt, ldCells, oneL, oneCell, Nat.reduceLeDiff, evL, adopt, rigid, rigidL, trim, Int.reduceEq, Int.reduceMod, Int.reduceDiv, if_pos, if_neg, asI, forall_const, implies_true, chkD, chkO, chkW, effB, reB, vEq, beq_self_eq_true, Nat.reduceSub, Nat.reduceLT, Int.reduceSub, Int.reduceAdd, Int.reduceMul, Int.reduceLT, Int.reduceLE, Int.reduceToNat, optI, aslice, cutSl, cutMs, cutStr, cutOwn, cellsOf, one, elCells, lenOf, beqV, beqVL, strip, stripO, convS]) | ((first | rw [WP_condK] | rw [WP_opsG] | rw [WP_quiG] | rw [WP_dG]); refine And.intro (fun hb => ?_) (fun hb => ?_) <;> (first | have hd := dq1 hb | have hd := dq2 hb | have hd := dq3 hb | have hd := dq4 hb | skip)))
theorem d_truncate (D : DkH h p n s J d) {nm : List Int} (hnm : Bytes nm) (hsz : nm.length ≤ 9223372036854775807) (k : Int) (hfew : d.acts.length < 100000000) :
    ∃ h' J', ag T 14 [.ptr p 0, stB' nm, i64 k] h = some (i64 (truE d nm k), h') ∧ Stp h p n s J h' n s J' ∧ DkH h' p n s J' (if truE d nm k = 0 then actD d (.trunc nm k.toNat) else d) := by
  obtain ⟨A, els, c, bs0, c', bs', D⟩ := D
  have hm := c_may D.box [strOfNums nm] (fun x hx => by simp at hx; subst hx; rw [st_size]; omega) (by simp)
  have ho := c_off D.box
  simp only [List.map_cons, List.map_nil] at hm
  unfold truE nonE
  by_cases h1 : mayS [strOfNums nm] d.c = 1
  · rw [if_pos h1, if_neg (by decide)]
    rw [h1] at hm
    refine ⟨h, J, WP_eq (k_wp rfl t14 rfl rfl ?_), Stp.refl _ _ _ _ _, ⟨_, _, _, _, _, _, D⟩⟩
    first | have hb := hb | have hb := trivial
    repeat' (first | (simp -implicitDefEqProofs (disch := omega) only [hb, F14, hm, setEls, List.replicate_succ, List.replicate_zero, elFits, stripEl, wC, initE, aop, Nat.reduceEqDiff, ↓reduceIte, Nat.reduceAdd, finish, resOf, tupOf, AM.freeze, freeze1, freezeL, closed, nam, namL, if_true, if_false, deref, boxAt, exAt, ldCells, oneL, oneCell, Nat.reduceLeDiff, evL, adopt, rigid, rigidL, trim, Int.reduceEq, Int.reduceMod, Int.reduceDiv, if_pos, if_neg, asI, forall_const, implies_true, chkD, chkO, chkW, effB, reB, vEq, beq_self_eq_true, Nat.reduceSub, Nat.reduceLT, Int.reduceSub, Int.reduceAdd, Int.reduceMul, Int.reduceLT, Int.reduceLE, Int.reduceToNat, optI, aslice, cutSl, cutMs, cutStr, cutOwn, cellsOf, one, elCells, lenOf, beqV, beqVL, strip, stripO, convS]) | ((first | rw [WP_condK] | rw [WP_opsG] | rw [WP_quiG] | rw [WP_dG]); refine And.intro (fun hb => ?_) (fun hb => ?_) <;> (first | have hd := dq1 hb | have hd := dq2 hb | have hd := dq3 hb | have hd := dq4 hb | skip)))
  · rw [if_neg h1]
    have h6 : ¬ mayS [strOfNums nm] d.c = 6 := by unfold mayS; split; decide; split <;> decide
    by_cases hk : k < 0
    · rw [if_pos hk, if_neg (by decide)]
      refine ⟨h, J, WP_eq (k_wp rfl t14 rfl rfl ?_), Stp.refl _ _ _ _ _, ⟨_, _, _, _, _, _, D⟩⟩
      generalize mayS [strOfNums nm] d.c = e at *
      first | have hb := hb | have hb := trivial
      repeat' (first | (simp -implicitDefEqProofs (disch := omega) only [hb, F14, hm, h1, h6, hk, setEls, List.replicate_succ, List.replicate_zero, elFits, stripEl, wC, initE, aop, Nat.reduceEqDiff, ↓reduceIte, Nat.reduceAdd, finish, resOf, tupOf, AM.freeze, freeze1, freezeL, closed, nam, namL, if_true, if_false, deref, boxAt, exAt, ldCells, oneL, oneCell, Nat.reduceLeDiff, evL, adopt, rigid, rigidL, trim, Int.reduceEq, Int.reduceMod, Int.reduceDiv, if_pos, if_neg, asI, forall_const, implies_true, chkD, chkO, chkW, effB, reB, vEq, beq_self_eq_true, Nat.reduceSub, Nat.reduceLT, Int.reduceSub, Int.reduceAdd, Int.reduceMul, Int.reduceLT, Int.reduceLE, Int.reduceToNat, optI, aslice, cutSl, cutMs, cutStr, cutOwn, cellsOf, one, elCells, lenOf, beqV, beqVL, strip, stripO, convS]) | ((first | rw [WP_condK] | rw [WP_opsG] | rw [WP_quiG] | rw [WP_dG]); refine And.intro (fun hb => ?_) (fun hb => ?_) <;> (first | have hd := dq1 hb | have hd := dq2 hb | have hd := dq3 hb | have hd := dq4 hb | skip)))
    · rw [if_neg hk]
      by_cases hc0 : d.c = 0
      · rw [if_pos hc0, if_neg (by decide)]
        rw [decide_eq_true hc0] at ho
        refine ⟨h, J, WP_eq (k_wp rfl t14 rfl rfl ?_), Stp.refl _ _ _ _ _, ⟨_, _, _, _, _, _, D⟩⟩
        generalize mayS [strOfNums nm] d.c = e at *
        first | have hb := hb | have hb := trivial
        repeat' (first | (simp -implicitDefEqProofs (disch := omega) only [hb, F14, hm, h1, h6, hk, ho, setEls, List.replicate_succ, List.replicate_zero, elFits, stripEl, wC, initE, aop, Nat.reduceEqDiff, ↓reduceIte, Nat.reduceAdd, finish, resOf, tupOf, AM.freeze, freeze1, freezeL, closed, nam, namL, if_true, if_false, deref, boxAt, exAt, ldCells, oneL, oneCell, Nat.reduceLeDiff, evL, adopt, rigid, rigidL, trim, Int.reduceEq, Int.reduceMod, Int.reduceDiv, if_pos, if_neg, asI, forall_const, implies_true, chkD, chkO, chkW, effB, reB, vEq, beq_self_eq_true, Nat.reduceSub, Nat.reduceLT, Int.reduceSub, Int.reduceAdd, Int.reduceMul, Int.reduceLT, Int.reduceLE, Int.reduceToNat, optI, aslice, cutSl, cutMs, cutStr, cutOwn, cellsOf, one, elCells, lenOf, beqV, beqVL, strip, stripO, convS]) | ((first | rw [WP_condK] | rw [WP_opsG] | rw [WP_quiG] | rw [WP_dG]); refine And.intro (fun hb => ?_) (fun hb => ?_) <;> (first | have hd := dq1 hb | have hd := dq2 hb | have hd := dq3 hb | have hd := dq4 hb | skip)))
      · rw [if_neg hc0]
        rw [decide_eq_false hc0] at ho
        obtain ⟨kn, rfl⟩ := Int.eq_ofNat_of_zero_le (show 0 ≤ k by omega)
        have hNm : Nm nm := right_nm hnm (by
          cases hr : rightS (strOfNums nm) with
          | true => rfl
          | false => exact absurd (by unfold mayS badS; simp [hr]) h1)
        rw [Int.toNat_natCast]
        cases hr : findF nm d.now 0 with
        | none =>
          rw [if_pos rfl, if_neg (by decide)]
          have hc := d_change_none D hnm hr 32 [.ref [stB' nm], .ref [i64 kn]]
          refine ⟨_, J, WP_eq (k_wp rfl t14 rfl rfl ?_), stp_app h [.cells [.nil, i64 0]] p n s J, ⟨_, _, _, _, _, _, D.app _⟩⟩
          generalize mayS [strOfNums nm] d.c = e at *
          first | have hb := hb | have hb := trivial
          repeat' (first | (simp -implicitDefEqProofs (disch := omega) only [hb, F14, hm, h1, h6, hk, ho, hc, setEls, List.replicate_succ, List.replicate_zero, elFits, stripEl, wC, initE, aop, Nat.reduceEqDiff, ↓reduceIte, Nat.reduceAdd, finish, resOf, tupOf, AM.freeze, freeze1, freezeL, closed, nam, namL, if_true, if_false, deref, boxAt, exAt, ldCells, oneL, oneCell, Nat.reduceLeDiff, evL, adopt, rigid, rigidL, trim, Int.reduceEq, Int.reduceMod, Int.reduceDiv, if_pos, if_neg, asI, forall_const, implies_true, chkD, chkO, chkW, effB, reB, vEq, beq_self_eq_true, Nat.reduceSub, Nat.reduceLT, Int.reduceSub, Int.reduceAdd, Int.reduceMul, Int.reduceLT, Int.reduceLE, Int.reduceToNat, optI, aslice, cutSl, cutMs, cutStr, cutOwn, cellsOf, one, elCells, lenOf, beqV, beqVL, strip, stripO, convS]) | ((first | rw [WP_condK] | rw [WP_opsG] | rw [WP_quiG] | rw [WP_dG]); refine And.intro (fun hb => ?_) (fun hb => ?_) <;> (first | have hd := dq1 hb | have hd := dq2 hb | have hd := dq3 hb | have hd := dq4 hb | skip)))
        | some r =>
          rw [if_neg (by simp), if_pos rfl]
          have hB : r.2.flatten.length ≤ 140737488355328 := by
            have := tot_erase (found hr)
            have := D.tot
            have := D.big
            omega
          obtain ⟨h', J', A', els', hc, hst, hD⟩ := d_change D hnm hr 32 [.ref [stB' nm], .ref [i64 kn]] (.trunc nm kn) (by
              have := D.wn.put hNm (ps := [r.2.flatten.take kn]) (by simp)
              rw [hr] at this
              simp only [runA, hr]; exact this)
            (fun h2 hn => ⟨_, by
              have := c_trunc (k := kn) hn D.wn hnm hr hB
              unfold putO at this
              rw [hr] at this
              simp only [runA, hr]
              exact this⟩) (fun h => ⟨rfl, hNm⟩) ⟨r, hr⟩ (small_trunc D.small hr) hfew
          refine ⟨h', J', WP_eq (k_wp rfl t14 rfl rfl ?_), hst, ⟨_, _, _, _, _, _, hD⟩⟩
          generalize mayS [strOfNums nm] d.c = e at *
          first | have hb := hb | have hb := trivial
          repeat' (first | (simp -implicitDefEqProofs (disch := omega) only [hb, F14, hm, h1, h6, hk, ho, hc, setEls, List.replicate_succ, List.replicate_zero, elFits, stripEl, wC, initE, aop, Nat.reduceEqDiff, ↓reduceIte, Nat.reduceAdd, finish, resOf, tupOf, AM.freeze, freeze1, freezeL, closed, nam, namL, if_true, if_false, deref, boxAt, exAt, ldCells, oneL, oneCell, Nat.reduceLeDiff, evL, adopt, rigid, rigidL, trim, Int.reduceEq, Int.reduceMod, Int.reduceDiv, if_pos, if_neg, asI, forall_const, implies_true, chkD, chkO, chkW, effB, reB, vEq, beq_self_eq_true, Nat.reduceSub, Nat.reduceLT, Int.reduceSub, Int.reduceAdd, Int.reduceMul, Int.reduceLT, Int.reduceLE, Int.reduceToNat, optI, aslice, cutSl, cutMs, cutStr, cutOwn, cellsOf, one, elCells, lenOf, beqV, beqVL, strip, stripO, convS]) | ((first | rw [WP_condK] | rw [WP_opsG] | rw [WP_quiG] | rw [WP_dG]); refine And.intro (fun hb => ?_) (fun hb => ?_) <;> (first | have hd := dq1 hb | have hd := dq2 hb | have hd := dq3 hb | have hd := dq4 hb | skip)))
end
end Go.Proofs.Ytccllndmknnehaa.AM
