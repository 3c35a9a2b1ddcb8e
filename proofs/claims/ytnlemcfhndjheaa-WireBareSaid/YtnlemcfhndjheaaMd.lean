import Derived.Test.YtnlemcfhndjheaaMc
/- The functions for the plain machine (printed by gen2.py). -/
namespace Go.Proofs.Ytnlemcfhndjheaa.AM
open Go
set_option maxRecDepth 100000
set_option linter.unusedSimpArgs false
set_option linter.unusedVariables false
def bs (l : List Nat) : ByteArray := ⟨(l.map UInt8.ofNat).toArray⟩
def gl : Nat → Option (List Value) := fun _ => none
/- tollhouse/tollhouselaw06.WireDecodes -/
def F3 : AFn := ⟨39, true, 1, [.tmp 2], .seq
 (.reg [⟨some 2, .move (.cst (.bool false)), none⟩])
 (.seq
 (.reg [⟨some 8, .buildSlice none (.int .u8 0) 0 [], none⟩,
  ⟨some 9, .move (.tmp 0), none⟩,
  ⟨some 10, .append none 1 (.tmp 8) (.tmp 9), none⟩,
  ⟨some 3, .move (.tmp 10), none⟩])
 (.seq
 (.reg [⟨some 12, .move (.tmp 3), none⟩,
  ⟨some 13, .call (.cst (.func (.func 9) [] [])) [(.tmp 12)], none⟩,
  ⟨some 11, .move (.tmp 13), none⟩,
  ⟨some 14, .extract (.tmp 11) 0, none⟩,
  ⟨some 15, .extract (.tmp 11) 1, none⟩,
  ⟨some 4, .alloc [(.int .i64 0), (.int .i64 0), (.int .i64 0), (.int .i64 0), (.int .i64 0), (.int .u8 0), (.int .u8 0), (.int .u8 0), (.int .u8 0), (.int .u8 0), (.int .u8 0), (.int .u8 0), (.int .u8 0), (.int .u8 0), (.int .u8 0), (.int .u8 0), (.int .u8 0), (.int .u8 0), (.int .u8 0), (.int .u8 0), (.int .u8 0), (.int .u8 0), (.int .u8 0), (.int .u8 0), (.int .u8 0), (.int .u8 0), (.int .u8 0), (.int .u8 0), (.int .u8 0), (.int .u8 0), (.int .u8 0), (.int .u8 0), (.int .u8 0), (.int .u8 0), (.int .u8 0), (.int .u8 0), (.int .u8 0), .nil, (.int .u8 0), (.int .u8 0), (.int .u8 0), (.int .u8 0), (.int .u8 0), (.int .u8 0), (.int .u8 0), (.int .u8 0), (.int .u8 0), (.int .u8 0), (.int .u8 0), (.int .u8 0), (.int .u8 0), (.int .u8 0), (.int .u8 0), (.int .u8 0), (.int .u8 0), (.int .u8 0), (.int .u8 0), (.int .u8 0), (.int .u8 0), (.int .u8 0), (.int .u8 0), (.int .u8 0), (.int .u8 0), (.int .u8 0), (.int .u8 0), (.int .u8 0), (.int .u8 0), (.int .u8 0), (.int .u8 0), (.int .u8 0), (.int .u8 0), (.int .u8 0), (.int .u8 0), (.int .u8 0), (.int .u8 0), (.int .u8 0), (.int .u8 0), (.int .u8 0), (.int .u8 0), (.int .u8 0), (.int .u8 0), (.int .u8 0), (.int .u8 0), (.int .u8 0), (.int .u8 0), (.int .u8 0), (.int .u8 0), (.int .u8 0), (.int .u8 0), (.int .u8 0), (.int .u8 0), (.int .u8 0), (.int .u8 0), (.int .u8 0), (.int .u8 0), (.int .u8 0), (.int .u8 0), (.int .u8 0), (.int .u8 0), (.int .u8 0), (.int .u8 0), (.int .u8 0), (.int .u8 0), (.int .u8 0), (.int .u8 0), (.int .u8 0), (.int .u8 0), (.int .u8 0), (.int .u8 0), (.int .u8 0), (.int .u8 0), (.int .u8 0), (.int .u8 0), (.int .u8 0), (.int .u8 0), (.int .u8 0), (.int .u8 0), (.int .u8 0), (.int .u8 0), (.int .u8 0), (.int .u8 0), (.int .u8 0), (.int .u8 0), (.int .u8 0), (.int .u8 0), (.int .u8 0), (.int .u8 0), (.int .u8 0), (.int .u8 0), (.int .u8 0), (.int .u8 0), (.int .u8 0), (.int .u8 0), (.int .u8 0), (.int .i64 0), (.int .i64 0), .nil], none⟩,
  ⟨none, .store 137 (.tmp 4) (.tmp 14), none⟩,
  ⟨some 5, .move (.tmp 15), none⟩])
 (.seq
 (.reg [⟨some 17, .move (.tmp 0), none⟩,
  ⟨some 18, .call (.cst (.func (.func 10) [] [])) [(.tmp 17)], none⟩,
  ⟨some 16, .move (.tmp 18), none⟩,
  ⟨some 19, .extract (.tmp 16) 0, none⟩,
  ⟨some 20, .extract (.tmp 16) 1, none⟩,
  ⟨some 6, .alloc [(.int .i64 0), (.int .i64 0), (.int .i64 0), (.int .i64 0), (.int .i64 0), (.int .u8 0), (.int .u8 0), (.int .u8 0), (.int .u8 0), (.int .u8 0), (.int .u8 0), (.int .u8 0), (.int .u8 0), (.int .u8 0), (.int .u8 0), (.int .u8 0), (.int .u8 0), (.int .u8 0), (.int .u8 0), (.int .u8 0), (.int .u8 0), (.int .u8 0), (.int .u8 0), (.int .u8 0), (.int .u8 0), (.int .u8 0), (.int .u8 0), (.int .u8 0), (.int .u8 0), (.int .u8 0), (.int .u8 0), (.int .u8 0), (.int .u8 0), (.int .u8 0), (.int .u8 0), (.int .u8 0), (.int .u8 0), .nil, (.int .u8 0), (.int .u8 0), (.int .u8 0), (.int .u8 0), (.int .u8 0), (.int .u8 0), (.int .u8 0), (.int .u8 0), (.int .u8 0), (.int .u8 0), (.int .u8 0), (.int .u8 0), (.int .u8 0), (.int .u8 0), (.int .u8 0), (.int .u8 0), (.int .u8 0), (.int .u8 0), (.int .u8 0), (.int .u8 0), (.int .u8 0), (.int .u8 0), (.int .u8 0), (.int .u8 0), (.int .u8 0), (.int .u8 0), (.int .u8 0), (.int .u8 0), (.int .u8 0), (.int .u8 0), (.int .u8 0), (.int .u8 0), (.int .u8 0), (.int .u8 0), (.int .u8 0), (.int .u8 0), (.int .u8 0), (.int .u8 0), (.int .u8 0), (.int .u8 0), (.int .u8 0), (.int .u8 0), (.int .u8 0), (.int .u8 0), (.int .u8 0), (.int .u8 0), (.int .u8 0), (.int .u8 0), (.int .u8 0), (.int .u8 0), (.int .u8 0), (.int .u8 0), (.int .u8 0), (.int .u8 0), (.int .u8 0), (.int .u8 0), (.int .u8 0), (.int .u8 0), (.int .u8 0), (.int .u8 0), (.int .u8 0), (.int .u8 0), (.int .u8 0), (.int .u8 0), (.int .u8 0), (.int .u8 0), (.int .u8 0), (.int .u8 0), (.int .u8 0), (.int .u8 0), (.int .u8 0), (.int .u8 0), (.int .u8 0), (.int .u8 0), (.int .u8 0), (.int .u8 0), (.int .u8 0), (.int .u8 0), (.int .u8 0), (.int .u8 0), (.int .u8 0), (.int .u8 0), (.int .u8 0), (.int .u8 0), (.int .u8 0), (.int .u8 0), (.int .u8 0), (.int .u8 0), (.int .u8 0), (.int .u8 0), (.int .u8 0), (.int .u8 0), (.int .u8 0), (.int .u8 0), (.int .u8 0), (.int .u8 0), (.int .i64 0), (.int .i64 0), .nil], none⟩,
  ⟨none, .store 137 (.tmp 6) (.tmp 19), none⟩,
  ⟨some 7, .move (.tmp 20), none⟩])
 (.seq
 (.reg [⟨some 21, .call (.cst (.func (.func 11) [] [])) [], none⟩,
  ⟨some 22, .move (.tmp 21), none⟩,
  ⟨some 23, .load (some 137) (.tmp 4), some (22, true)⟩,
  ⟨some 24, .load (some 137) (.tmp 6), some (22, true)⟩,
  ⟨some 25, .call (.cst (.func (.func 12) [] [])) [(.tmp 23), (.tmp 24)], some (22, true)⟩,
  ⟨some 26, .pick (.tmp 22) (.tmp 25) (.cst (.bool false)), none⟩,
  ⟨some 27, .move (.tmp 26), none⟩,
  ⟨some 28, .move (.tmp 5), some (27, true)⟩,
  ⟨some 29, .move (.tmp 7), some (27, true)⟩,
  ⟨some 30, .bin .eql (.tmp 28) (.tmp 29), some (27, true)⟩,
  ⟨some 31, .pick (.tmp 27) (.tmp 30) (.cst (.bool false)), none⟩,
  ⟨some 32, .move (.tmp 31), none⟩,
  ⟨some 33, .move (.tmp 3), some (32, true)⟩,
  ⟨some 34, .convStr (.tmp 33), some (32, true)⟩,
  ⟨some 35, .move (.tmp 0), some (32, true)⟩,
  ⟨some 36, .convStr (.tmp 35), some (32, true)⟩,
  ⟨some 37, .bin .eql (.tmp 34) (.tmp 36), some (32, true)⟩,
  ⟨some 38, .pick (.tmp 32) (.tmp 37) (.cst (.bool false)), none⟩,
  ⟨some 2, .move (.tmp 38), none⟩])
 (.ret)))))⟩
theorem c3 : compF Try.prog gl true [] [] Try.f3 = some F3 := by kernel_rfl
/- tollhouse/tollhouselaw06.WireOdd -/
def F4 : AFn := ⟨68, true, 3, [.tmp 6], .seq
 (.reg [⟨some 3, .box (.tmp 0), none⟩,
  ⟨some 6, .move (.cst (.bool false)), none⟩])
 (.seq
 (.reg [⟨some 14, .load (some 137) (.tmp 3), none⟩,
  ⟨some 15, .call (.cst (.func (.func 13) [] [])) [(.tmp 14)], none⟩,
  ⟨some 13, .move (.tmp 15), none⟩,
  ⟨some 16, .extract (.tmp 13) 0, none⟩,
  ⟨some 17, .extract (.tmp 13) 1, none⟩,
  ⟨some 7, .move (.tmp 16), none⟩,
  ⟨some 8, .move (.tmp 17), none⟩])
 (.seq
 (.seq
 (.reg [⟨some 18, .call (.cst (.func (.func 11) [] [])) [], none⟩,
  ⟨some 19, .un .not (.tmp 18), none⟩,
  ⟨some 20, .move (.tmp 19), none⟩,
  ⟨some 21, .move (.tmp 8), some (20, false)⟩,
  ⟨some 22, .bin .neq (.tmp 21) (.cst (.int .i64 0)), some (20, false)⟩,
  ⟨some 23, .pick (.tmp 20) (.cst (.bool true)) (.tmp 22), none⟩,
  ⟨some 24, .move (.tmp 23), none⟩,
  ⟨some 25, .move (.tmp 1), some (24, false)⟩,
  ⟨some 26, .bin .lss (.tmp 25) (.cst (.int .u64 12)), some (24, false)⟩,
  ⟨some 27, .pick (.tmp 24) (.cst (.bool true)) (.tmp 26), none⟩,
  ⟨some 28, .move (.tmp 27), none⟩,
  ⟨some 29, .move (.tmp 1), some (28, false)⟩,
  ⟨some 30, .bin .gtr (.tmp 29) (.cst (.int .u64 4611686018427387904)), some (28, false)⟩,
  ⟨some 31, .pick (.tmp 28) (.cst (.bool true)) (.tmp 30), none⟩,
  ⟨some 32, .move (.tmp 31), none⟩,
  ⟨some 33, .move (.tmp 2), some (32, false)⟩,
  ⟨some 34, .len (.tmp 33), some (32, false)⟩,
  ⟨some 35, .bin .gtr (.tmp 34) (.cst (.int .i64 1000)), some (32, false)⟩,
  ⟨some 36, .pick (.tmp 32) (.cst (.bool true)) (.tmp 35), none⟩])
 (.cond (.tmp 36)
 (.seq
 (.reg [⟨some 37, .call (.cst (.func (.func 11) [] [])) [], none⟩,
  ⟨some 6, .move (.tmp 37), none⟩])
 (.ret))
 (.skip)))
 (.seq
 (.reg [⟨some 39, .move (.tmp 1), none⟩,
  ⟨some 40, .bin .mul (.cst (.int .u64 2)) (.tmp 39), none⟩,
  ⟨some 41, .bin .add (.tmp 40) (.cst (.int .u64 1)), none⟩,
  ⟨some 42, .move (.tmp 2), none⟩,
  ⟨some 43, .build [(.int .u64 0), .nil] [(0, 1, (.tmp 41)), (1, 1, (.tmp 42))], none⟩,
  ⟨some 44, .buildSlice (some 2) (.agg [(.int .u64 0), .nil]) 1 [(0, (.tmp 43))], none⟩,
  ⟨some 45, .call (.cst (.func (.func 14) [] [])) [(.tmp 44)], none⟩,
  ⟨some 38, .move (.tmp 45), none⟩,
  ⟨some 46, .extract (.tmp 38) 0, none⟩,
  ⟨some 47, .extract (.tmp 38) 1, none⟩,
  ⟨some 9, .move (.tmp 46), none⟩,
  ⟨some 10, .move (.tmp 47), none⟩])
 (.seq
 (.reg [⟨some 49, .buildSlice none (.int .u8 0) 0 [], none⟩,
  ⟨some 50, .move (.tmp 7), none⟩,
  ⟨some 51, .append none 1 (.tmp 49) (.tmp 50), none⟩,
  ⟨some 52, .move (.tmp 9), none⟩,
  ⟨some 53, .append none 1 (.tmp 51) (.tmp 52), none⟩,
  ⟨some 54, .call (.cst (.func (.func 9) [] [])) [(.tmp 53)], none⟩,
  ⟨some 48, .move (.tmp 54), none⟩,
  ⟨some 55, .extract (.tmp 48) 0, none⟩,
  ⟨some 56, .extract (.tmp 48) 1, none⟩,
  ⟨some 11, .alloc [(.int .i64 0), (.int .i64 0), (.int .i64 0), (.int .i64 0), (.int .i64 0), (.int .u8 0), (.int .u8 0), (.int .u8 0), (.int .u8 0), (.int .u8 0), (.int .u8 0), (.int .u8 0), (.int .u8 0), (.int .u8 0), (.int .u8 0), (.int .u8 0), (.int .u8 0), (.int .u8 0), (.int .u8 0), (.int .u8 0), (.int .u8 0), (.int .u8 0), (.int .u8 0), (.int .u8 0), (.int .u8 0), (.int .u8 0), (.int .u8 0), (.int .u8 0), (.int .u8 0), (.int .u8 0), (.int .u8 0), (.int .u8 0), (.int .u8 0), (.int .u8 0), (.int .u8 0), (.int .u8 0), (.int .u8 0), .nil, (.int .u8 0), (.int .u8 0), (.int .u8 0), (.int .u8 0), (.int .u8 0), (.int .u8 0), (.int .u8 0), (.int .u8 0), (.int .u8 0), (.int .u8 0), (.int .u8 0), (.int .u8 0), (.int .u8 0), (.int .u8 0), (.int .u8 0), (.int .u8 0), (.int .u8 0), (.int .u8 0), (.int .u8 0), (.int .u8 0), (.int .u8 0), (.int .u8 0), (.int .u8 0), (.int .u8 0), (.int .u8 0), (.int .u8 0), (.int .u8 0), (.int .u8 0), (.int .u8 0), (.int .u8 0), (.int .u8 0), (.int .u8 0), (.int .u8 0), (.int .u8 0), (.int .u8 0), (.int .u8 0), (.int .u8 0), (.int .u8 0), (.int .u8 0), (.int .u8 0), (.int .u8 0), (.int .u8 0), (.int .u8 0), (.int .u8 0), (.int .u8 0), (.int .u8 0), (.int .u8 0), (.int .u8 0), (.int .u8 0), (.int .u8 0), (.int .u8 0), (.int .u8 0), (.int .u8 0), (.int .u8 0), (.int .u8 0), (.int .u8 0), (.int .u8 0), (.int .u8 0), (.int .u8 0), (.int .u8 0), (.int .u8 0), (.int .u8 0), (.int .u8 0), (.int .u8 0), (.int .u8 0), (.int .u8 0), (.int .u8 0), (.int .u8 0), (.int .u8 0), (.int .u8 0), (.int .u8 0), (.int .u8 0), (.int .u8 0), (.int .u8 0), (.int .u8 0), (.int .u8 0), (.int .u8 0), (.int .u8 0), (.int .u8 0), (.int .u8 0), (.int .u8 0), (.int .u8 0), (.int .u8 0), (.int .u8 0), (.int .u8 0), (.int .u8 0), (.int .u8 0), (.int .u8 0), (.int .u8 0), (.int .u8 0), (.int .u8 0), (.int .u8 0), (.int .u8 0), (.int .u8 0), (.int .u8 0), (.int .u8 0), (.int .i64 0), (.int .i64 0), .nil], none⟩,
  ⟨none, .store 137 (.tmp 11) (.tmp 55), none⟩,
  ⟨some 12, .move (.tmp 56), none⟩])
 (.seq
 (.reg [⟨some 57, .move (.tmp 10), none⟩,
  ⟨some 58, .bin .eql (.tmp 57) (.cst (.int .i64 0)), none⟩,
  ⟨some 59, .move (.tmp 58), none⟩,
  ⟨some 60, .move (.tmp 12), some (59, true)⟩,
  ⟨some 61, .bin .eql (.tmp 60) (.cst (.int .i64 0)), some (59, true)⟩,
  ⟨some 62, .pick (.tmp 59) (.tmp 61) (.cst (.bool false)), none⟩,
  ⟨some 63, .move (.tmp 62), none⟩,
  ⟨some 64, .load (some 137) (.tmp 11), some (63, true)⟩,
  ⟨some 65, .load (some 137) (.tmp 3), some (63, true)⟩,
  ⟨some 66, .call (.cst (.func (.func 12) [] [])) [(.tmp 64), (.tmp 65)], some (63, true)⟩,
  ⟨some 67, .pick (.tmp 63) (.tmp 66) (.cst (.bool false)), none⟩,
  ⟨some 6, .move (.tmp 67), none⟩])
 (.ret))))))⟩
theorem c4 : compF Try.prog gl true [] [] Try.f4 = some F4 := by kernel_rfl
/- tollhouse/tollhouselaw06.WireEven -/
def F5 : AFn := ⟨59, true, 2, [.tmp 4], .seq
 (.reg [⟨some 2, .box (.tmp 0), none⟩,
  ⟨some 4, .move (.cst (.bool false)), none⟩])
 (.seq
 (.reg [⟨some 12, .load (some 137) (.tmp 2), none⟩,
  ⟨some 13, .call (.cst (.func (.func 13) [] [])) [(.tmp 12)], none⟩,
  ⟨some 11, .move (.tmp 13), none⟩,
  ⟨some 14, .extract (.tmp 11) 0, none⟩,
  ⟨some 15, .extract (.tmp 11) 1, none⟩,
  ⟨some 5, .move (.tmp 14), none⟩,
  ⟨some 6, .move (.tmp 15), none⟩])
 (.seq
 (.seq
 (.reg [⟨some 16, .call (.cst (.func (.func 11) [] [])) [], none⟩,
  ⟨some 17, .un .not (.tmp 16), none⟩,
  ⟨some 18, .move (.tmp 17), none⟩,
  ⟨some 19, .move (.tmp 6), some (18, false)⟩,
  ⟨some 20, .bin .neq (.tmp 19) (.cst (.int .i64 0)), some (18, false)⟩,
  ⟨some 21, .pick (.tmp 18) (.cst (.bool true)) (.tmp 20), none⟩,
  ⟨some 22, .move (.tmp 21), none⟩,
  ⟨some 23, .move (.tmp 1), some (22, false)⟩,
  ⟨some 24, .bin .lss (.tmp 23) (.cst (.int .u64 12)), some (22, false)⟩,
  ⟨some 25, .pick (.tmp 22) (.cst (.bool true)) (.tmp 24), none⟩,
  ⟨some 26, .move (.tmp 25), none⟩,
  ⟨some 27, .move (.tmp 1), some (26, false)⟩,
  ⟨some 28, .bin .gtr (.tmp 27) (.cst (.int .u64 4611686018427387904)), some (26, false)⟩,
  ⟨some 29, .pick (.tmp 26) (.cst (.bool true)) (.tmp 28), none⟩])
 (.cond (.tmp 29)
 (.seq
 (.reg [⟨some 30, .call (.cst (.func (.func 11) [] [])) [], none⟩,
  ⟨some 4, .move (.tmp 30), none⟩])
 (.ret))
 (.skip)))
 (.seq
 (.reg [⟨some 32, .move (.tmp 1), none⟩,
  ⟨some 33, .bin .mul (.cst (.int .u64 2)) (.tmp 32), none⟩,
  ⟨some 34, .build [(.int .u64 0), .nil] [(0, 1, (.tmp 33))], none⟩,
  ⟨some 35, .buildSlice (some 2) (.agg [(.int .u64 0), .nil]) 1 [(0, (.tmp 34))], none⟩,
  ⟨some 36, .call (.cst (.func (.func 14) [] [])) [(.tmp 35)], none⟩,
  ⟨some 31, .move (.tmp 36), none⟩,
  ⟨some 37, .extract (.tmp 31) 0, none⟩,
  ⟨some 38, .extract (.tmp 31) 1, none⟩,
  ⟨some 7, .move (.tmp 37), none⟩,
  ⟨some 8, .move (.tmp 38), none⟩])
 (.seq
 (.reg [⟨some 40, .buildSlice none (.int .u8 0) 0 [], none⟩,
  ⟨some 41, .move (.tmp 5), none⟩,
  ⟨some 42, .append none 1 (.tmp 40) (.tmp 41), none⟩,
  ⟨some 43, .move (.tmp 7), none⟩,
  ⟨some 44, .append none 1 (.tmp 42) (.tmp 43), none⟩,
  ⟨some 45, .call (.cst (.func (.func 9) [] [])) [(.tmp 44)], none⟩,
  ⟨some 39, .move (.tmp 45), none⟩,
  ⟨some 46, .extract (.tmp 39) 0, none⟩,
  ⟨some 47, .extract (.tmp 39) 1, none⟩,
  ⟨some 9, .alloc [(.int .i64 0), (.int .i64 0), (.int .i64 0), (.int .i64 0), (.int .i64 0), (.int .u8 0), (.int .u8 0), (.int .u8 0), (.int .u8 0), (.int .u8 0), (.int .u8 0), (.int .u8 0), (.int .u8 0), (.int .u8 0), (.int .u8 0), (.int .u8 0), (.int .u8 0), (.int .u8 0), (.int .u8 0), (.int .u8 0), (.int .u8 0), (.int .u8 0), (.int .u8 0), (.int .u8 0), (.int .u8 0), (.int .u8 0), (.int .u8 0), (.int .u8 0), (.int .u8 0), (.int .u8 0), (.int .u8 0), (.int .u8 0), (.int .u8 0), (.int .u8 0), (.int .u8 0), (.int .u8 0), (.int .u8 0), .nil, (.int .u8 0), (.int .u8 0), (.int .u8 0), (.int .u8 0), (.int .u8 0), (.int .u8 0), (.int .u8 0), (.int .u8 0), (.int .u8 0), (.int .u8 0), (.int .u8 0), (.int .u8 0), (.int .u8 0), (.int .u8 0), (.int .u8 0), (.int .u8 0), (.int .u8 0), (.int .u8 0), (.int .u8 0), (.int .u8 0), (.int .u8 0), (.int .u8 0), (.int .u8 0), (.int .u8 0), (.int .u8 0), (.int .u8 0), (.int .u8 0), (.int .u8 0), (.int .u8 0), (.int .u8 0), (.int .u8 0), (.int .u8 0), (.int .u8 0), (.int .u8 0), (.int .u8 0), (.int .u8 0), (.int .u8 0), (.int .u8 0), (.int .u8 0), (.int .u8 0), (.int .u8 0), (.int .u8 0), (.int .u8 0), (.int .u8 0), (.int .u8 0), (.int .u8 0), (.int .u8 0), (.int .u8 0), (.int .u8 0), (.int .u8 0), (.int .u8 0), (.int .u8 0), (.int .u8 0), (.int .u8 0), (.int .u8 0), (.int .u8 0), (.int .u8 0), (.int .u8 0), (.int .u8 0), (.int .u8 0), (.int .u8 0), (.int .u8 0), (.int .u8 0), (.int .u8 0), (.int .u8 0), (.int .u8 0), (.int .u8 0), (.int .u8 0), (.int .u8 0), (.int .u8 0), (.int .u8 0), (.int .u8 0), (.int .u8 0), (.int .u8 0), (.int .u8 0), (.int .u8 0), (.int .u8 0), (.int .u8 0), (.int .u8 0), (.int .u8 0), (.int .u8 0), (.int .u8 0), (.int .u8 0), (.int .u8 0), (.int .u8 0), (.int .u8 0), (.int .u8 0), (.int .u8 0), (.int .u8 0), (.int .u8 0), (.int .u8 0), (.int .u8 0), (.int .u8 0), (.int .u8 0), (.int .u8 0), (.int .u8 0), (.int .i64 0), (.int .i64 0), .nil], none⟩,
  ⟨none, .store 137 (.tmp 9) (.tmp 46), none⟩,
  ⟨some 10, .move (.tmp 47), none⟩])
 (.seq
 (.reg [⟨some 48, .move (.tmp 8), none⟩,
  ⟨some 49, .bin .eql (.tmp 48) (.cst (.int .i64 0)), none⟩,
  ⟨some 50, .move (.tmp 49), none⟩,
  ⟨some 51, .move (.tmp 10), some (50, true)⟩,
  ⟨some 52, .bin .eql (.tmp 51) (.cst (.int .i64 10)), some (50, true)⟩,
  ⟨some 53, .pick (.tmp 50) (.tmp 52) (.cst (.bool false)), none⟩,
  ⟨some 54, .move (.tmp 53), none⟩,
  ⟨some 55, .load (some 137) (.tmp 9), some (54, true)⟩,
  ⟨some 56, .build [(.int .i64 0), (.int .i64 0), (.int .i64 0), (.int .i64 0), (.int .i64 0), (.int .u8 0), (.int .u8 0), (.int .u8 0), (.int .u8 0), (.int .u8 0), (.int .u8 0), (.int .u8 0), (.int .u8 0), (.int .u8 0), (.int .u8 0), (.int .u8 0), (.int .u8 0), (.int .u8 0), (.int .u8 0), (.int .u8 0), (.int .u8 0), (.int .u8 0), (.int .u8 0), (.int .u8 0), (.int .u8 0), (.int .u8 0), (.int .u8 0), (.int .u8 0), (.int .u8 0), (.int .u8 0), (.int .u8 0), (.int .u8 0), (.int .u8 0), (.int .u8 0), (.int .u8 0), (.int .u8 0), (.int .u8 0), .nil, (.int .u8 0), (.int .u8 0), (.int .u8 0), (.int .u8 0), (.int .u8 0), (.int .u8 0), (.int .u8 0), (.int .u8 0), (.int .u8 0), (.int .u8 0), (.int .u8 0), (.int .u8 0), (.int .u8 0), (.int .u8 0), (.int .u8 0), (.int .u8 0), (.int .u8 0), (.int .u8 0), (.int .u8 0), (.int .u8 0), (.int .u8 0), (.int .u8 0), (.int .u8 0), (.int .u8 0), (.int .u8 0), (.int .u8 0), (.int .u8 0), (.int .u8 0), (.int .u8 0), (.int .u8 0), (.int .u8 0), (.int .u8 0), (.int .u8 0), (.int .u8 0), (.int .u8 0), (.int .u8 0), (.int .u8 0), (.int .u8 0), (.int .u8 0), (.int .u8 0), (.int .u8 0), (.int .u8 0), (.int .u8 0), (.int .u8 0), (.int .u8 0), (.int .u8 0), (.int .u8 0), (.int .u8 0), (.int .u8 0), (.int .u8 0), (.int .u8 0), (.int .u8 0), (.int .u8 0), (.int .u8 0), (.int .u8 0), (.int .u8 0), (.int .u8 0), (.int .u8 0), (.int .u8 0), (.int .u8 0), (.int .u8 0), (.int .u8 0), (.int .u8 0), (.int .u8 0), (.int .u8 0), (.int .u8 0), (.int .u8 0), (.int .u8 0), (.int .u8 0), (.int .u8 0), (.int .u8 0), (.int .u8 0), (.int .u8 0), (.int .u8 0), (.int .u8 0), (.int .u8 0), (.int .u8 0), (.int .u8 0), (.int .u8 0), (.int .u8 0), (.int .u8 0), (.int .u8 0), (.int .u8 0), (.int .u8 0), (.int .u8 0), (.int .u8 0), (.int .u8 0), (.int .u8 0), (.int .u8 0), (.int .u8 0), (.int .u8 0), (.int .u8 0), (.int .u8 0), (.int .u8 0), (.int .u8 0), (.int .u8 0), (.int .i64 0), (.int .i64 0), .nil] [], some (54, true)⟩,
  ⟨some 57, .call (.cst (.func (.func 12) [] [])) [(.tmp 55), (.tmp 56)], some (54, true)⟩,
  ⟨some 58, .pick (.tmp 54) (.tmp 57) (.cst (.bool false)), none⟩,
  ⟨some 4, .move (.tmp 58), none⟩])
 (.ret))))))⟩
theorem c5 : compF Try.prog gl true [] [] Try.f5 = some F5 := by kernel_rfl
/- tollhouse/tollhouselaw06.WireCuts -/
def F6 : AFn := ⟨46, true, 2, [.tmp 4], .seq
 (.reg [⟨some 2, .box (.tmp 0), none⟩,
  ⟨some 4, .move (.cst (.bool false)), none⟩])
 (.seq
 (.reg [⟨some 11, .load (some 137) (.tmp 2), none⟩,
  ⟨some 12, .call (.cst (.func (.func 13) [] [])) [(.tmp 11)], none⟩,
  ⟨some 10, .move (.tmp 12), none⟩,
  ⟨some 13, .extract (.tmp 10) 0, none⟩,
  ⟨some 14, .extract (.tmp 10) 1, none⟩,
  ⟨some 5, .move (.tmp 13), none⟩,
  ⟨some 6, .move (.tmp 14), none⟩])
 (.seq
 (.seq
 (.reg [⟨some 15, .call (.cst (.func (.func 11) [] [])) [], none⟩,
  ⟨some 16, .un .not (.tmp 15), none⟩,
  ⟨some 17, .move (.tmp 16), none⟩,
  ⟨some 18, .move (.tmp 6), some (17, false)⟩,
  ⟨some 19, .bin .neq (.tmp 18) (.cst (.int .i64 0)), some (17, false)⟩,
  ⟨some 20, .pick (.tmp 17) (.cst (.bool true)) (.tmp 19), none⟩])
 (.cond (.tmp 20)
 (.seq
 (.reg [⟨some 21, .call (.cst (.func (.func 11) [] [])) [], none⟩,
  ⟨some 4, .move (.tmp 21), none⟩])
 (.ret))
 (.skip)))
 (.seq
 (.reg [⟨some 22, .move (.tmp 1), none⟩,
  ⟨some 23, .move (.tmp 5), none⟩,
  ⟨some 24, .len (.tmp 23), none⟩,
  ⟨some 25, .bin .rem (.tmp 22) (.tmp 24), none⟩,
  ⟨some 7, .move (.tmp 25), none⟩])
 (.seq
 (.seq
 (.reg [⟨some 26, .move (.tmp 7), none⟩,
  ⟨some 27, .bin .lss (.tmp 26) (.cst (.int .i64 0)), none⟩])
 (.cond (.tmp 27)
 (.reg [⟨some 28, .move (.tmp 7), none⟩,
  ⟨some 29, .move (.tmp 5), none⟩,
  ⟨some 30, .len (.tmp 29), none⟩,
  ⟨some 31, .bin .add (.tmp 28) (.tmp 30), none⟩,
  ⟨some 7, .move (.tmp 31), none⟩])
 (.skip)))
 (.seq
 (.reg [⟨some 33, .move (.tmp 5), none⟩,
  ⟨some 34, .move (.tmp 7), none⟩,
  ⟨some 35, .slice .slice none (.tmp 33) none (some (.tmp 34)) none, none⟩,
  ⟨some 36, .call (.cst (.func (.func 9) [] [])) [(.tmp 35)], none⟩,
  ⟨some 32, .move (.tmp 36), none⟩,
  ⟨some 37, .extract (.tmp 32) 0, none⟩,
  ⟨some 38, .extract (.tmp 32) 1, none⟩,
  ⟨some 8, .alloc [(.int .i64 0), (.int .i64 0), (.int .i64 0), (.int .i64 0), (.int .i64 0), (.int .u8 0), (.int .u8 0), (.int .u8 0), (.int .u8 0), (.int .u8 0), (.int .u8 0), (.int .u8 0), (.int .u8 0), (.int .u8 0), (.int .u8 0), (.int .u8 0), (.int .u8 0), (.int .u8 0), (.int .u8 0), (.int .u8 0), (.int .u8 0), (.int .u8 0), (.int .u8 0), (.int .u8 0), (.int .u8 0), (.int .u8 0), (.int .u8 0), (.int .u8 0), (.int .u8 0), (.int .u8 0), (.int .u8 0), (.int .u8 0), (.int .u8 0), (.int .u8 0), (.int .u8 0), (.int .u8 0), (.int .u8 0), .nil, (.int .u8 0), (.int .u8 0), (.int .u8 0), (.int .u8 0), (.int .u8 0), (.int .u8 0), (.int .u8 0), (.int .u8 0), (.int .u8 0), (.int .u8 0), (.int .u8 0), (.int .u8 0), (.int .u8 0), (.int .u8 0), (.int .u8 0), (.int .u8 0), (.int .u8 0), (.int .u8 0), (.int .u8 0), (.int .u8 0), (.int .u8 0), (.int .u8 0), (.int .u8 0), (.int .u8 0), (.int .u8 0), (.int .u8 0), (.int .u8 0), (.int .u8 0), (.int .u8 0), (.int .u8 0), (.int .u8 0), (.int .u8 0), (.int .u8 0), (.int .u8 0), (.int .u8 0), (.int .u8 0), (.int .u8 0), (.int .u8 0), (.int .u8 0), (.int .u8 0), (.int .u8 0), (.int .u8 0), (.int .u8 0), (.int .u8 0), (.int .u8 0), (.int .u8 0), (.int .u8 0), (.int .u8 0), (.int .u8 0), (.int .u8 0), (.int .u8 0), (.int .u8 0), (.int .u8 0), (.int .u8 0), (.int .u8 0), (.int .u8 0), (.int .u8 0), (.int .u8 0), (.int .u8 0), (.int .u8 0), (.int .u8 0), (.int .u8 0), (.int .u8 0), (.int .u8 0), (.int .u8 0), (.int .u8 0), (.int .u8 0), (.int .u8 0), (.int .u8 0), (.int .u8 0), (.int .u8 0), (.int .u8 0), (.int .u8 0), (.int .u8 0), (.int .u8 0), (.int .u8 0), (.int .u8 0), (.int .u8 0), (.int .u8 0), (.int .u8 0), (.int .u8 0), (.int .u8 0), (.int .u8 0), (.int .u8 0), (.int .u8 0), (.int .u8 0), (.int .u8 0), (.int .u8 0), (.int .u8 0), (.int .u8 0), (.int .u8 0), (.int .u8 0), (.int .u8 0), (.int .u8 0), (.int .u8 0), (.int .u8 0), (.int .i64 0), (.int .i64 0), .nil], none⟩,
  ⟨none, .store 137 (.tmp 8) (.tmp 37), none⟩,
  ⟨some 9, .move (.tmp 38), none⟩])
 (.seq
 (.reg [⟨some 39, .move (.tmp 9), none⟩,
  ⟨some 40, .bin .eql (.tmp 39) (.cst (.int .i64 10)), none⟩,
  ⟨some 41, .move (.tmp 40), none⟩,
  ⟨some 42, .load (some 137) (.tmp 8), some (41, true)⟩,
  ⟨some 43, .build [(.int .i64 0), (.int .i64 0), (.int .i64 0), (.int .i64 0), (.int .i64 0), (.int .u8 0), (.int .u8 0), (.int .u8 0), (.int .u8 0), (.int .u8 0), (.int .u8 0), (.int .u8 0), (.int .u8 0), (.int .u8 0), (.int .u8 0), (.int .u8 0), (.int .u8 0), (.int .u8 0), (.int .u8 0), (.int .u8 0), (.int .u8 0), (.int .u8 0), (.int .u8 0), (.int .u8 0), (.int .u8 0), (.int .u8 0), (.int .u8 0), (.int .u8 0), (.int .u8 0), (.int .u8 0), (.int .u8 0), (.int .u8 0), (.int .u8 0), (.int .u8 0), (.int .u8 0), (.int .u8 0), (.int .u8 0), .nil, (.int .u8 0), (.int .u8 0), (.int .u8 0), (.int .u8 0), (.int .u8 0), (.int .u8 0), (.int .u8 0), (.int .u8 0), (.int .u8 0), (.int .u8 0), (.int .u8 0), (.int .u8 0), (.int .u8 0), (.int .u8 0), (.int .u8 0), (.int .u8 0), (.int .u8 0), (.int .u8 0), (.int .u8 0), (.int .u8 0), (.int .u8 0), (.int .u8 0), (.int .u8 0), (.int .u8 0), (.int .u8 0), (.int .u8 0), (.int .u8 0), (.int .u8 0), (.int .u8 0), (.int .u8 0), (.int .u8 0), (.int .u8 0), (.int .u8 0), (.int .u8 0), (.int .u8 0), (.int .u8 0), (.int .u8 0), (.int .u8 0), (.int .u8 0), (.int .u8 0), (.int .u8 0), (.int .u8 0), (.int .u8 0), (.int .u8 0), (.int .u8 0), (.int .u8 0), (.int .u8 0), (.int .u8 0), (.int .u8 0), (.int .u8 0), (.int .u8 0), (.int .u8 0), (.int .u8 0), (.int .u8 0), (.int .u8 0), (.int .u8 0), (.int .u8 0), (.int .u8 0), (.int .u8 0), (.int .u8 0), (.int .u8 0), (.int .u8 0), (.int .u8 0), (.int .u8 0), (.int .u8 0), (.int .u8 0), (.int .u8 0), (.int .u8 0), (.int .u8 0), (.int .u8 0), (.int .u8 0), (.int .u8 0), (.int .u8 0), (.int .u8 0), (.int .u8 0), (.int .u8 0), (.int .u8 0), (.int .u8 0), (.int .u8 0), (.int .u8 0), (.int .u8 0), (.int .u8 0), (.int .u8 0), (.int .u8 0), (.int .u8 0), (.int .u8 0), (.int .u8 0), (.int .u8 0), (.int .u8 0), (.int .u8 0), (.int .u8 0), (.int .u8 0), (.int .u8 0), (.int .u8 0), (.int .u8 0), (.int .u8 0), (.int .i64 0), (.int .i64 0), .nil] [], some (41, true)⟩,
  ⟨some 44, .call (.cst (.func (.func 12) [] [])) [(.tmp 42), (.tmp 43)], some (41, true)⟩,
  ⟨some 45, .pick (.tmp 41) (.tmp 44) (.cst (.bool false)), none⟩,
  ⟨some 4, .move (.tmp 45), none⟩])
 (.ret)))))))⟩
theorem c6 : compF Try.prog gl true [] [] Try.f6 = some F6 := by kernel_rfl
/- tollhouse/tollhouselaw06.WireEncodes -/
def F7 : AFn := ⟨79, true, 1, [.tmp 2], .seq
 (.reg [⟨some 1, .box (.tmp 0), none⟩,
  ⟨some 2, .move (.cst (.bool false)), none⟩])
 (.seq
 (.reg [⟨some 9, .load (some 137) (.tmp 1), none⟩,
  ⟨some 3, .alloc [(.int .i64 0), (.int .i64 0), (.int .i64 0), (.int .i64 0), (.int .i64 0), (.int .u8 0), (.int .u8 0), (.int .u8 0), (.int .u8 0), (.int .u8 0), (.int .u8 0), (.int .u8 0), (.int .u8 0), (.int .u8 0), (.int .u8 0), (.int .u8 0), (.int .u8 0), (.int .u8 0), (.int .u8 0), (.int .u8 0), (.int .u8 0), (.int .u8 0), (.int .u8 0), (.int .u8 0), (.int .u8 0), (.int .u8 0), (.int .u8 0), (.int .u8 0), (.int .u8 0), (.int .u8 0), (.int .u8 0), (.int .u8 0), (.int .u8 0), (.int .u8 0), (.int .u8 0), (.int .u8 0), (.int .u8 0), .nil, (.int .u8 0), (.int .u8 0), (.int .u8 0), (.int .u8 0), (.int .u8 0), (.int .u8 0), (.int .u8 0), (.int .u8 0), (.int .u8 0), (.int .u8 0), (.int .u8 0), (.int .u8 0), (.int .u8 0), (.int .u8 0), (.int .u8 0), (.int .u8 0), (.int .u8 0), (.int .u8 0), (.int .u8 0), (.int .u8 0), (.int .u8 0), (.int .u8 0), (.int .u8 0), (.int .u8 0), (.int .u8 0), (.int .u8 0), (.int .u8 0), (.int .u8 0), (.int .u8 0), (.int .u8 0), (.int .u8 0), (.int .u8 0), (.int .u8 0), (.int .u8 0), (.int .u8 0), (.int .u8 0), (.int .u8 0), (.int .u8 0), (.int .u8 0), (.int .u8 0), (.int .u8 0), (.int .u8 0), (.int .u8 0), (.int .u8 0), (.int .u8 0), (.int .u8 0), (.int .u8 0), (.int .u8 0), (.int .u8 0), (.int .u8 0), (.int .u8 0), (.int .u8 0), (.int .u8 0), (.int .u8 0), (.int .u8 0), (.int .u8 0), (.int .u8 0), (.int .u8 0), (.int .u8 0), (.int .u8 0), (.int .u8 0), (.int .u8 0), (.int .u8 0), (.int .u8 0), (.int .u8 0), (.int .u8 0), (.int .u8 0), (.int .u8 0), (.int .u8 0), (.int .u8 0), (.int .u8 0), (.int .u8 0), (.int .u8 0), (.int .u8 0), (.int .u8 0), (.int .u8 0), (.int .u8 0), (.int .u8 0), (.int .u8 0), (.int .u8 0), (.int .u8 0), (.int .u8 0), (.int .u8 0), (.int .u8 0), (.int .u8 0), (.int .u8 0), (.int .u8 0), (.int .u8 0), (.int .u8 0), (.int .u8 0), (.int .u8 0), (.int .u8 0), (.int .u8 0), (.int .u8 0), (.int .u8 0), (.int .u8 0), (.int .i64 0), (.int .i64 0), .nil], none⟩,
  ⟨none, .store 137 (.tmp 3) (.tmp 9), none⟩])
 (.seq
 (.regD [⟨some 10, .buildSlice none (.int .u8 0) 0 [], none⟩,
  ⟨some 11, .fieldAddr 37 1 (.tmp 1), none⟩,
  ⟨some 12, .load none (.tmp 11), none⟩,
  ⟨some 13, .append none 1 (.tmp 10) (.tmp 12), none⟩,
  ⟨some 14, .buildSlice none (.int .u8 0) 0 [], none⟩,
  ⟨some 15, .fieldAddr 136 1 (.tmp 1), none⟩,
  ⟨some 16, .load none (.tmp 15), none⟩,
  ⟨some 17, .append none 1 (.tmp 14) (.tmp 16), none⟩,
  ⟨some 18, .fieldAddr 37 1 (.tmp 3), none⟩,
  ⟨none, .store 1 (.tmp 18) (.tmp 13), none⟩,
  ⟨some 19, .fieldAddr 136 1 (.tmp 3), none⟩,
  ⟨none, .store 1 (.tmp 19) (.tmp 17), none⟩] [(0, 0), (0, 0), (0, 0), (0, 0), (0, 1), (0, 1), (0, 1), (1, 1), (1, 2), (2, 2), (3, 3), (3, 3)])
 (.seq
 (.reg [⟨some 21, .load (some 137) (.tmp 3), none⟩,
  ⟨some 22, .call (.cst (.func (.func 15) [] [])) [(.tmp 21)], none⟩,
  ⟨some 20, .move (.tmp 22), none⟩,
  ⟨some 23, .extract (.tmp 20) 0, none⟩,
  ⟨some 24, .extract (.tmp 20) 1, none⟩,
  ⟨some 4, .move (.tmp 23), none⟩,
  ⟨some 5, .move (.tmp 24), none⟩])
 (.seq
 (.reg [⟨some 26, .load (some 137) (.tmp 1), none⟩,
  ⟨some 27, .call (.cst (.func (.func 13) [] [])) [(.tmp 26)], none⟩,
  ⟨some 25, .move (.tmp 27), none⟩,
  ⟨some 28, .extract (.tmp 25) 0, none⟩,
  ⟨some 29, .extract (.tmp 25) 1, none⟩,
  ⟨some 6, .move (.tmp 28), none⟩,
  ⟨some 7, .move (.tmp 29), none⟩])
 (.seq
 (.seq
 (.regD [⟨some 30, .call (.cst (.func (.func 11) [] [])) [], none⟩,
  ⟨some 31, .un .not (.tmp 30), none⟩,
  ⟨some 32, .move (.tmp 31), none⟩,
  ⟨some 33, .move (.tmp 4), some (32, false)⟩,
  ⟨some 34, .convStr (.tmp 33), some (32, false)⟩,
  ⟨some 35, .move (.tmp 6), some (32, false)⟩,
  ⟨some 36, .convStr (.tmp 35), some (32, false)⟩,
  ⟨some 37, .bin .neq (.tmp 34) (.tmp 36), some (32, false)⟩,
  ⟨some 38, .pick (.tmp 32) (.cst (.bool true)) (.tmp 37), none⟩,
  ⟨some 39, .move (.tmp 38), none⟩,
  ⟨some 40, .move (.tmp 5), some (39, false)⟩,
  ⟨some 41, .move (.tmp 7), some (39, false)⟩,
  ⟨some 42, .bin .neq (.tmp 40) (.tmp 41), some (39, false)⟩,
  ⟨some 43, .pick (.tmp 39) (.cst (.bool true)) (.tmp 42), none⟩,
  ⟨some 44, .move (.tmp 43), none⟩,
  ⟨some 45, .load (some 137) (.tmp 3), some (44, false)⟩,
  ⟨some 46, .call (.cst (.func (.func 16) [] [])) [(.tmp 45)], some (44, false)⟩,
  ⟨some 47, .load (some 137) (.tmp 1), some (44, false)⟩,
  ⟨some 48, .call (.cst (.func (.func 17) [] [])) [(.tmp 47)], some (44, false)⟩,
  ⟨some 49, .eqBool true (.tmp 46) (.tmp 48), some (44, false)⟩,
  ⟨some 50, .pick (.tmp 44) (.cst (.bool true)) (.tmp 49), none⟩,
  ⟨some 51, .move (.tmp 50), none⟩,
  ⟨some 52, .load (some 137) (.tmp 3), some (51, false)⟩,
  ⟨some 53, .call (.cst (.func (.func 18) [] [])) [(.tmp 52)], some (51, false)⟩,
  ⟨some 54, .load (some 137) (.tmp 1), some (51, false)⟩,
  ⟨some 55, .call (.cst (.func (.func 19) [] [])) [(.tmp 54)], some (51, false)⟩,
  ⟨some 56, .call (.cst (.func (.func 12) [] [])) [(.tmp 53), (.tmp 55)], some (51, false)⟩,
  ⟨some 57, .un .not (.tmp 56), some (51, false)⟩,
  ⟨some 58, .pick (.tmp 51) (.cst (.bool true)) (.tmp 57), none⟩,
  ⟨some 59, .move (.tmp 58), none⟩,
  ⟨some 60, .load (some 137) (.tmp 3), some (59, false)⟩,
  ⟨some 61, .load (some 137) (.tmp 1), some (59, false)⟩,
  ⟨some 62, .call (.cst (.func (.func 12) [] [])) [(.tmp 60), (.tmp 61)], some (59, false)⟩,
  ⟨some 63, .un .not (.tmp 62), some (59, false)⟩,
  ⟨some 64, .pick (.tmp 59) (.cst (.bool true)) (.tmp 63), none⟩] [(0, 0), (1, 1), (1, 1), (1, 1), (1, 1), (1, 1), (1, 1), (1, 1), (1, 1), (1, 1), (1, 1), (1, 1), (1, 1), (1, 1), (1, 1), (1, 1), (1, 1), (1, 2), (2, 2), (3, 3), (3, 3), (3, 3), (3, 3), (3, 3), (3, 4), (4, 4), (5, 5), (6, 6), (6, 6), (6, 6), (6, 6), (6, 6), (6, 6), (7, 7), (7, 7)])
 (.cond (.tmp 64)
 (.seq
 (.reg [⟨some 2, .move (.cst (.bool false)), none⟩])
 (.ret))
 (.skip)))
 (.seq
 (.seq
 (.reg [⟨some 65, .move (.tmp 7), none⟩,
  ⟨some 66, .bin .neq (.tmp 65) (.cst (.int .i64 0)), none⟩])
 (.cond (.tmp 66)
 (.seq
 (.reg [⟨some 2, .move (.cst (.bool true)), none⟩])
 (.ret))
 (.skip)))
 (.seq
 (.reg [⟨some 68, .move (.tmp 4), none⟩,
  ⟨some 69, .call (.cst (.func (.func 9) [] [])) [(.tmp 68)], none⟩,
  ⟨some 67, .move (.tmp 69), none⟩,
  ⟨some 70, .extract (.tmp 67) 0, none⟩,
  ⟨some 71, .extract (.tmp 67) 1, none⟩,
  ⟨some 8, .alloc [(.int .i64 0), (.int .i64 0), (.int .i64 0), (.int .i64 0), (.int .i64 0), (.int .u8 0), (.int .u8 0), (.int .u8 0), (.int .u8 0), (.int .u8 0), (.int .u8 0), (.int .u8 0), (.int .u8 0), (.int .u8 0), (.int .u8 0), (.int .u8 0), (.int .u8 0), (.int .u8 0), (.int .u8 0), (.int .u8 0), (.int .u8 0), (.int .u8 0), (.int .u8 0), (.int .u8 0), (.int .u8 0), (.int .u8 0), (.int .u8 0), (.int .u8 0), (.int .u8 0), (.int .u8 0), (.int .u8 0), (.int .u8 0), (.int .u8 0), (.int .u8 0), (.int .u8 0), (.int .u8 0), (.int .u8 0), .nil, (.int .u8 0), (.int .u8 0), (.int .u8 0), (.int .u8 0), (.int .u8 0), (.int .u8 0), (.int .u8 0), (.int .u8 0), (.int .u8 0), (.int .u8 0), (.int .u8 0), (.int .u8 0), (.int .u8 0), (.int .u8 0), (.int .u8 0), (.int .u8 0), (.int .u8 0), (.int .u8 0), (.int .u8 0), (.int .u8 0), (.int .u8 0), (.int .u8 0), (.int .u8 0), (.int .u8 0), (.int .u8 0), (.int .u8 0), (.int .u8 0), (.int .u8 0), (.int .u8 0), (.int .u8 0), (.int .u8 0), (.int .u8 0), (.int .u8 0), (.int .u8 0), (.int .u8 0), (.int .u8 0), (.int .u8 0), (.int .u8 0), (.int .u8 0), (.int .u8 0), (.int .u8 0), (.int .u8 0), (.int .u8 0), (.int .u8 0), (.int .u8 0), (.int .u8 0), (.int .u8 0), (.int .u8 0), (.int .u8 0), (.int .u8 0), (.int .u8 0), (.int .u8 0), (.int .u8 0), (.int .u8 0), (.int .u8 0), (.int .u8 0), (.int .u8 0), (.int .u8 0), (.int .u8 0), (.int .u8 0), (.int .u8 0), (.int .u8 0), (.int .u8 0), (.int .u8 0), (.int .u8 0), (.int .u8 0), (.int .u8 0), (.int .u8 0), (.int .u8 0), (.int .u8 0), (.int .u8 0), (.int .u8 0), (.int .u8 0), (.int .u8 0), (.int .u8 0), (.int .u8 0), (.int .u8 0), (.int .u8 0), (.int .u8 0), (.int .u8 0), (.int .u8 0), (.int .u8 0), (.int .u8 0), (.int .u8 0), (.int .u8 0), (.int .u8 0), (.int .u8 0), (.int .u8 0), (.int .u8 0), (.int .u8 0), (.int .u8 0), (.int .u8 0), (.int .u8 0), (.int .u8 0), (.int .u8 0), (.int .u8 0), (.int .i64 0), (.int .i64 0), .nil], none⟩,
  ⟨none, .store 137 (.tmp 8) (.tmp 70), none⟩,
  ⟨some 5, .move (.tmp 71), none⟩])
 (.seq
 (.reg [⟨some 72, .move (.tmp 5), none⟩,
  ⟨some 73, .bin .eql (.tmp 72) (.cst (.int .i64 0)), none⟩,
  ⟨some 74, .move (.tmp 73), none⟩,
  ⟨some 75, .load (some 137) (.tmp 8), some (74, true)⟩,
  ⟨some 76, .load (some 137) (.tmp 1), some (74, true)⟩,
  ⟨some 77, .call (.cst (.func (.func 12) [] [])) [(.tmp 75), (.tmp 76)], some (74, true)⟩,
  ⟨some 78, .pick (.tmp 74) (.tmp 77) (.cst (.bool false)), none⟩,
  ⟨some 2, .move (.tmp 78), none⟩])
 (.ret)))))))))⟩
theorem c7 : compF Try.prog gl true [] [] Try.f7 = some F7 := by kernel_rfl
/- tollhouse/tollhouselaw06.WireBare -/
def F8 : AFn := ⟨43, true, 1, [.tmp 2], .seq
 (.reg [⟨some 1, .box (.tmp 0), none⟩,
  ⟨some 2, .move (.cst (.bool false)), none⟩])
 (.seq
 (.reg [⟨some 6, .load (some 137) (.tmp 1), none⟩,
  ⟨some 7, .call (.cst (.func (.func 18) [] [])) [(.tmp 6)], none⟩,
  ⟨some 3, .alloc [(.int .i64 0), (.int .i64 0), (.int .i64 0), (.int .i64 0), (.int .i64 0), (.int .u8 0), (.int .u8 0), (.int .u8 0), (.int .u8 0), (.int .u8 0), (.int .u8 0), (.int .u8 0), (.int .u8 0), (.int .u8 0), (.int .u8 0), (.int .u8 0), (.int .u8 0), (.int .u8 0), (.int .u8 0), (.int .u8 0), (.int .u8 0), (.int .u8 0), (.int .u8 0), (.int .u8 0), (.int .u8 0), (.int .u8 0), (.int .u8 0), (.int .u8 0), (.int .u8 0), (.int .u8 0), (.int .u8 0), (.int .u8 0), (.int .u8 0), (.int .u8 0), (.int .u8 0), (.int .u8 0), (.int .u8 0), .nil, (.int .u8 0), (.int .u8 0), (.int .u8 0), (.int .u8 0), (.int .u8 0), (.int .u8 0), (.int .u8 0), (.int .u8 0), (.int .u8 0), (.int .u8 0), (.int .u8 0), (.int .u8 0), (.int .u8 0), (.int .u8 0), (.int .u8 0), (.int .u8 0), (.int .u8 0), (.int .u8 0), (.int .u8 0), (.int .u8 0), (.int .u8 0), (.int .u8 0), (.int .u8 0), (.int .u8 0), (.int .u8 0), (.int .u8 0), (.int .u8 0), (.int .u8 0), (.int .u8 0), (.int .u8 0), (.int .u8 0), (.int .u8 0), (.int .u8 0), (.int .u8 0), (.int .u8 0), (.int .u8 0), (.int .u8 0), (.int .u8 0), (.int .u8 0), (.int .u8 0), (.int .u8 0), (.int .u8 0), (.int .u8 0), (.int .u8 0), (.int .u8 0), (.int .u8 0), (.int .u8 0), (.int .u8 0), (.int .u8 0), (.int .u8 0), (.int .u8 0), (.int .u8 0), (.int .u8 0), (.int .u8 0), (.int .u8 0), (.int .u8 0), (.int .u8 0), (.int .u8 0), (.int .u8 0), (.int .u8 0), (.int .u8 0), (.int .u8 0), (.int .u8 0), (.int .u8 0), (.int .u8 0), (.int .u8 0), (.int .u8 0), (.int .u8 0), (.int .u8 0), (.int .u8 0), (.int .u8 0), (.int .u8 0), (.int .u8 0), (.int .u8 0), (.int .u8 0), (.int .u8 0), (.int .u8 0), (.int .u8 0), (.int .u8 0), (.int .u8 0), (.int .u8 0), (.int .u8 0), (.int .u8 0), (.int .u8 0), (.int .u8 0), (.int .u8 0), (.int .u8 0), (.int .u8 0), (.int .u8 0), (.int .u8 0), (.int .u8 0), (.int .u8 0), (.int .u8 0), (.int .u8 0), (.int .u8 0), (.int .u8 0), (.int .i64 0), (.int .i64 0), .nil], none⟩,
  ⟨none, .store 137 (.tmp 3) (.tmp 7), none⟩])
 (.seq
 (.reg [⟨some 9, .load (some 137) (.tmp 3), none⟩,
  ⟨some 10, .call (.cst (.func (.func 15) [] [])) [(.tmp 9)], none⟩,
  ⟨some 8, .move (.tmp 10), none⟩,
  ⟨some 11, .extract (.tmp 8) 0, none⟩,
  ⟨some 12, .extract (.tmp 8) 1, none⟩,
  ⟨some 4, .move (.tmp 11), none⟩,
  ⟨some 5, .move (.tmp 12), none⟩])
 (.seq
 (.regD [⟨some 13, .call (.cst (.func (.func 11) [] [])) [], none⟩,
  ⟨some 14, .move (.tmp 13), none⟩,
  ⟨some 15, .load (some 137) (.tmp 3), some (14, true)⟩,
  ⟨some 16, .load (some 137) (.tmp 1), some (14, true)⟩,
  ⟨some 17, .call (.cst (.func (.func 19) [] [])) [(.tmp 16)], some (14, true)⟩,
  ⟨some 18, .call (.cst (.func (.func 12) [] [])) [(.tmp 15), (.tmp 17)], some (14, true)⟩,
  ⟨some 19, .pick (.tmp 14) (.tmp 18) (.cst (.bool false)), none⟩,
  ⟨some 20, .move (.tmp 19), none⟩,
  ⟨some 21, .load (some 137) (.tmp 3), some (20, true)⟩,
  ⟨some 22, .call (.cst (.func (.func 18) [] [])) [(.tmp 21)], some (20, true)⟩,
  ⟨some 23, .load (some 137) (.tmp 3), some (20, true)⟩,
  ⟨some 24, .call (.cst (.func (.func 12) [] [])) [(.tmp 22), (.tmp 23)], some (20, true)⟩,
  ⟨some 25, .pick (.tmp 20) (.tmp 24) (.cst (.bool false)), none⟩,
  ⟨some 26, .move (.tmp 25), none⟩,
  ⟨some 27, .move (.tmp 5), some (26, true)⟩,
  ⟨some 28, .bin .eql (.tmp 27) (.cst (.int .i64 0)), some (26, true)⟩,
  ⟨some 29, .load (some 137) (.tmp 3), some (26, true)⟩,
  ⟨some 30, .call (.cst (.func (.func 17) [] [])) [(.tmp 29)], some (26, true)⟩,
  ⟨some 31, .eqBool false (.tmp 28) (.tmp 30), some (26, true)⟩,
  ⟨some 32, .pick (.tmp 26) (.tmp 31) (.cst (.bool false)), none⟩,
  ⟨some 33, .move (.tmp 32), none⟩,
  ⟨some 34, .load (some 137) (.tmp 1), some (33, true)⟩,
  ⟨some 35, .call (.cst (.func (.func 17) [] [])) [(.tmp 34)], some (33, true)⟩,
  ⟨some 36, .un .not (.tmp 35), some (33, true)⟩,
  ⟨some 37, .move (.tmp 36), some (33, true)⟩,
  ⟨some 38, .load (some 137) (.tmp 3), some (37, false)⟩,
  ⟨some 39, .load (some 137) (.tmp 1), some (37, false)⟩,
  ⟨some 40, .call (.cst (.func (.func 12) [] [])) [(.tmp 38), (.tmp 39)], some (37, false)⟩,
  ⟨some 41, .pick (.tmp 37) (.cst (.bool true)) (.tmp 40), some (33, true)⟩,
  ⟨some 42, .pick (.tmp 33) (.tmp 41) (.cst (.bool false)), none⟩,
  ⟨some 2, .move (.tmp 42), none⟩] [(0, 0), (1, 1), (1, 2), (1, 1), (1, 1), (2, 2), (3, 3), (3, 3), (3, 3), (3, 3), (3, 4), (4, 4), (5, 5), (5, 5), (5, 6), (5, 6), (5, 5), (5, 5), (6, 6), (6, 6), (6, 6), (6, 6), (6, 6), (7, 7), (7, 7), (7, 7), (7, 7), (7, 7), (8, 8), (8, 8), (8, 8)])
 (.ret))))⟩
theorem c8 : compF Try.prog gl true [] [] Try.f8 = some F8 := by kernel_rfl
def L9_0 : AC := .seq
 (.reg [⟨some 46, .bin .lss (.tmp 45) (.tmp 44), none⟩])
 (.seq
 (.cond (.tmp 46)
 (.skip)
 (.exit 0))
 (.seq
 (.block 1
 (.seq
 (.reg [⟨some 47, .indexAddr .slice none (.tmp 43) (.tmp 45), none⟩,
  ⟨some 48, .load none (.tmp 47), none⟩,
  ⟨some 10, .move (.tmp 48), none⟩])
 (.seq
 (.reg [⟨some 50, .move (.tmp 6), none⟩,
  ⟨some 51, .move (.tmp 10), none⟩,
  ⟨some 52, .call (.cst (.func (.func 22) [] [])) [(.tmp 50), (.tmp 51)], none⟩,
  ⟨some 49, .move (.tmp 52), none⟩,
  ⟨some 53, .extract (.tmp 49) 0, none⟩,
  ⟨some 54, .extract (.tmp 49) 1, none⟩,
  ⟨some 11, .move (.tmp 53), none⟩,
  ⟨some 12, .move (.tmp 54), none⟩])
 (.block 2
 (.seq
 (.reg [⟨some 56, .move (.tmp 8), none⟩,
  ⟨some 57, .un .not (.tmp 56), none⟩,
  ⟨some 58, .move (.tmp 57), none⟩,
  ⟨some 59, .move (.tmp 12), some (58, false)⟩,
  ⟨some 60, .un .not (.tmp 59), some (58, false)⟩,
  ⟨some 61, .pick (.tmp 58) (.cst (.bool true)) (.tmp 60), none⟩,
  ⟨some 62, .move (.tmp 61), none⟩,
  ⟨some 63, .move (.tmp 10), some (62, false)⟩,
  ⟨some 64, .move (.tmp 11), some (62, false)⟩,
  ⟨some 65, .call (.cst (.func (.func 23) [] [])) [(.tmp 4), (.tmp 63), (.tmp 64)], some (62, false)⟩,
  ⟨some 66, .un .not (.tmp 65), some (62, false)⟩,
  ⟨some 67, .pick (.tmp 62) (.cst (.bool true)) (.tmp 66), none⟩,
  ⟨some 55, .move (.tmp 67), none⟩])
 (.cond (.tmp 55)
 (.seq
 (.reg [⟨some 8, .move (.cst (.bool false)), none⟩])
 (.exit 0))
 (.skip)))))))
 (.reg [⟨some 68, .bin .add (.tmp 45) (.cst (.int .i64 1)), none⟩,
  ⟨some 45, .move (.tmp 68), none⟩])))
/- tollhouse/wire.Decode -/
def F9 : AFn := ⟨78, true, 1, [.cell 2 (some 137), .tmp 3], .seq
 (.reg [⟨some 2, .alloc [(.int .i64 0), (.int .i64 0), (.int .i64 0), (.int .i64 0), (.int .i64 0), (.int .u8 0), (.int .u8 0), (.int .u8 0), (.int .u8 0), (.int .u8 0), (.int .u8 0), (.int .u8 0), (.int .u8 0), (.int .u8 0), (.int .u8 0), (.int .u8 0), (.int .u8 0), (.int .u8 0), (.int .u8 0), (.int .u8 0), (.int .u8 0), (.int .u8 0), (.int .u8 0), (.int .u8 0), (.int .u8 0), (.int .u8 0), (.int .u8 0), (.int .u8 0), (.int .u8 0), (.int .u8 0), (.int .u8 0), (.int .u8 0), (.int .u8 0), (.int .u8 0), (.int .u8 0), (.int .u8 0), (.int .u8 0), .nil, (.int .u8 0), (.int .u8 0), (.int .u8 0), (.int .u8 0), (.int .u8 0), (.int .u8 0), (.int .u8 0), (.int .u8 0), (.int .u8 0), (.int .u8 0), (.int .u8 0), (.int .u8 0), (.int .u8 0), (.int .u8 0), (.int .u8 0), (.int .u8 0), (.int .u8 0), (.int .u8 0), (.int .u8 0), (.int .u8 0), (.int .u8 0), (.int .u8 0), (.int .u8 0), (.int .u8 0), (.int .u8 0), (.int .u8 0), (.int .u8 0), (.int .u8 0), (.int .u8 0), (.int .u8 0), (.int .u8 0), (.int .u8 0), (.int .u8 0), (.int .u8 0), (.int .u8 0), (.int .u8 0), (.int .u8 0), (.int .u8 0), (.int .u8 0), (.int .u8 0), (.int .u8 0), (.int .u8 0), (.int .u8 0), (.int .u8 0), (.int .u8 0), (.int .u8 0), (.int .u8 0), (.int .u8 0), (.int .u8 0), (.int .u8 0), (.int .u8 0), (.int .u8 0), (.int .u8 0), (.int .u8 0), (.int .u8 0), (.int .u8 0), (.int .u8 0), (.int .u8 0), (.int .u8 0), (.int .u8 0), (.int .u8 0), (.int .u8 0), (.int .u8 0), (.int .u8 0), (.int .u8 0), (.int .u8 0), (.int .u8 0), (.int .u8 0), (.int .u8 0), (.int .u8 0), (.int .u8 0), (.int .u8 0), (.int .u8 0), (.int .u8 0), (.int .u8 0), (.int .u8 0), (.int .u8 0), (.int .u8 0), (.int .u8 0), (.int .u8 0), (.int .u8 0), (.int .u8 0), (.int .u8 0), (.int .u8 0), (.int .u8 0), (.int .u8 0), (.int .u8 0), (.int .u8 0), (.int .u8 0), (.int .u8 0), (.int .u8 0), (.int .u8 0), (.int .u8 0), (.int .u8 0), (.int .u8 0), (.int .u8 0), (.int .i64 0), (.int .i64 0), .nil], none⟩,
  ⟨some 3, .move (.cst (.int .i64 0)), none⟩])
 (.scope
 (.seq
 (.seq
 (.reg [⟨some 13, .move (.tmp 0), none⟩,
  ⟨some 14, .len (.tmp 13), none⟩,
  ⟨some 15, .bin .lss (.tmp 14) (.cst (.int .i64 2)), none⟩])
 (.cond (.tmp 15)
 (.seq
 (.reg [⟨some 16, .build [(.int .i64 0), (.int .i64 0), (.int .i64 0), (.int .i64 0), (.int .i64 0), (.int .u8 0), (.int .u8 0), (.int .u8 0), (.int .u8 0), (.int .u8 0), (.int .u8 0), (.int .u8 0), (.int .u8 0), (.int .u8 0), (.int .u8 0), (.int .u8 0), (.int .u8 0), (.int .u8 0), (.int .u8 0), (.int .u8 0), (.int .u8 0), (.int .u8 0), (.int .u8 0), (.int .u8 0), (.int .u8 0), (.int .u8 0), (.int .u8 0), (.int .u8 0), (.int .u8 0), (.int .u8 0), (.int .u8 0), (.int .u8 0), (.int .u8 0), (.int .u8 0), (.int .u8 0), (.int .u8 0), (.int .u8 0), .nil, (.int .u8 0), (.int .u8 0), (.int .u8 0), (.int .u8 0), (.int .u8 0), (.int .u8 0), (.int .u8 0), (.int .u8 0), (.int .u8 0), (.int .u8 0), (.int .u8 0), (.int .u8 0), (.int .u8 0), (.int .u8 0), (.int .u8 0), (.int .u8 0), (.int .u8 0), (.int .u8 0), (.int .u8 0), (.int .u8 0), (.int .u8 0), (.int .u8 0), (.int .u8 0), (.int .u8 0), (.int .u8 0), (.int .u8 0), (.int .u8 0), (.int .u8 0), (.int .u8 0), (.int .u8 0), (.int .u8 0), (.int .u8 0), (.int .u8 0), (.int .u8 0), (.int .u8 0), (.int .u8 0), (.int .u8 0), (.int .u8 0), (.int .u8 0), (.int .u8 0), (.int .u8 0), (.int .u8 0), (.int .u8 0), (.int .u8 0), (.int .u8 0), (.int .u8 0), (.int .u8 0), (.int .u8 0), (.int .u8 0), (.int .u8 0), (.int .u8 0), (.int .u8 0), (.int .u8 0), (.int .u8 0), (.int .u8 0), (.int .u8 0), (.int .u8 0), (.int .u8 0), (.int .u8 0), (.int .u8 0), (.int .u8 0), (.int .u8 0), (.int .u8 0), (.int .u8 0), (.int .u8 0), (.int .u8 0), (.int .u8 0), (.int .u8 0), (.int .u8 0), (.int .u8 0), (.int .u8 0), (.int .u8 0), (.int .u8 0), (.int .u8 0), (.int .u8 0), (.int .u8 0), (.int .u8 0), (.int .u8 0), (.int .u8 0), (.int .u8 0), (.int .u8 0), (.int .u8 0), (.int .u8 0), (.int .u8 0), (.int .u8 0), (.int .u8 0), (.int .u8 0), (.int .u8 0), (.int .u8 0), (.int .u8 0), (.int .u8 0), (.int .u8 0), (.int .u8 0), (.int .u8 0), (.int .u8 0), (.int .u8 0), (.int .i64 0), (.int .i64 0), .nil] [], none⟩,
  ⟨none, .store 137 (.tmp 2) (.tmp 16), none⟩,
  ⟨some 3, .move (.cst (.int .i64 10)), none⟩])
 (.ret))
 (.skip)))
 (.seq
 (.regD [⟨some 17, .move (.tmp 0), none⟩,
  ⟨some 18, .indexAddr .slice none (.tmp 17) (.cst (.int .i64 0)), none⟩,
  ⟨some 19, .load none (.tmp 18), none⟩,
  ⟨some 20, .convInt .i64 (.tmp 19), none⟩,
  ⟨some 21, .bin .shl (.tmp 20) (.cst (.int .u64 8)), none⟩,
  ⟨some 22, .move (.tmp 0), none⟩,
  ⟨some 23, .indexAddr .slice none (.tmp 22) (.cst (.int .i64 1)), none⟩,
  ⟨some 24, .load none (.tmp 23), none⟩,
  ⟨some 25, .convInt .i64 (.tmp 24), none⟩,
  ⟨some 26, .bin .or (.tmp 21) (.tmp 25), none⟩,
  ⟨some 27, .build [(.int .i64 0), (.int .i64 0), (.int .i64 0), (.int .i64 0), (.int .i64 0), (.int .u8 0), (.int .u8 0), (.int .u8 0), (.int .u8 0), (.int .u8 0), (.int .u8 0), (.int .u8 0), (.int .u8 0), (.int .u8 0), (.int .u8 0), (.int .u8 0), (.int .u8 0), (.int .u8 0), (.int .u8 0), (.int .u8 0), (.int .u8 0), (.int .u8 0), (.int .u8 0), (.int .u8 0), (.int .u8 0), (.int .u8 0), (.int .u8 0), (.int .u8 0), (.int .u8 0), (.int .u8 0), (.int .u8 0), (.int .u8 0), (.int .u8 0), (.int .u8 0), (.int .u8 0), (.int .u8 0), (.int .u8 0), .nil, (.int .u8 0), (.int .u8 0), (.int .u8 0), (.int .u8 0), (.int .u8 0), (.int .u8 0), (.int .u8 0), (.int .u8 0), (.int .u8 0), (.int .u8 0), (.int .u8 0), (.int .u8 0), (.int .u8 0), (.int .u8 0), (.int .u8 0), (.int .u8 0), (.int .u8 0), (.int .u8 0), (.int .u8 0), (.int .u8 0), (.int .u8 0), (.int .u8 0), (.int .u8 0), (.int .u8 0), (.int .u8 0), (.int .u8 0), (.int .u8 0), (.int .u8 0), (.int .u8 0), (.int .u8 0), (.int .u8 0), (.int .u8 0), (.int .u8 0), (.int .u8 0), (.int .u8 0), (.int .u8 0), (.int .u8 0), (.int .u8 0), (.int .u8 0), (.int .u8 0), (.int .u8 0), (.int .u8 0), (.int .u8 0), (.int .u8 0), (.int .u8 0), (.int .u8 0), (.int .u8 0), (.int .u8 0), (.int .u8 0), (.int .u8 0), (.int .u8 0), (.int .u8 0), (.int .u8 0), (.int .u8 0), (.int .u8 0), (.int .u8 0), (.int .u8 0), (.int .u8 0), (.int .u8 0), (.int .u8 0), (.int .u8 0), (.int .u8 0), (.int .u8 0), (.int .u8 0), (.int .u8 0), (.int .u8 0), (.int .u8 0), (.int .u8 0), (.int .u8 0), (.int .u8 0), (.int .u8 0), (.int .u8 0), (.int .u8 0), (.int .u8 0), (.int .u8 0), (.int .u8 0), (.int .u8 0), (.int .u8 0), (.int .u8 0), (.int .u8 0), (.int .u8 0), (.int .u8 0), (.int .u8 0), (.int .u8 0), (.int .u8 0), (.int .u8 0), (.int .u8 0), (.int .u8 0), (.int .u8 0), (.int .u8 0), (.int .u8 0), (.int .u8 0), (.int .u8 0), (.int .u8 0), (.int .u8 0), (.int .u8 0), (.int .i64 0), (.int .i64 0), .nil] [(0, 1, (.tmp 26))], none⟩,
  ⟨some 4, .alloc [(.int .i64 0), (.int .i64 0), (.int .i64 0), (.int .i64 0), (.int .i64 0), (.int .u8 0), (.int .u8 0), (.int .u8 0), (.int .u8 0), (.int .u8 0), (.int .u8 0), (.int .u8 0), (.int .u8 0), (.int .u8 0), (.int .u8 0), (.int .u8 0), (.int .u8 0), (.int .u8 0), (.int .u8 0), (.int .u8 0), (.int .u8 0), (.int .u8 0), (.int .u8 0), (.int .u8 0), (.int .u8 0), (.int .u8 0), (.int .u8 0), (.int .u8 0), (.int .u8 0), (.int .u8 0), (.int .u8 0), (.int .u8 0), (.int .u8 0), (.int .u8 0), (.int .u8 0), (.int .u8 0), (.int .u8 0), .nil, (.int .u8 0), (.int .u8 0), (.int .u8 0), (.int .u8 0), (.int .u8 0), (.int .u8 0), (.int .u8 0), (.int .u8 0), (.int .u8 0), (.int .u8 0), (.int .u8 0), (.int .u8 0), (.int .u8 0), (.int .u8 0), (.int .u8 0), (.int .u8 0), (.int .u8 0), (.int .u8 0), (.int .u8 0), (.int .u8 0), (.int .u8 0), (.int .u8 0), (.int .u8 0), (.int .u8 0), (.int .u8 0), (.int .u8 0), (.int .u8 0), (.int .u8 0), (.int .u8 0), (.int .u8 0), (.int .u8 0), (.int .u8 0), (.int .u8 0), (.int .u8 0), (.int .u8 0), (.int .u8 0), (.int .u8 0), (.int .u8 0), (.int .u8 0), (.int .u8 0), (.int .u8 0), (.int .u8 0), (.int .u8 0), (.int .u8 0), (.int .u8 0), (.int .u8 0), (.int .u8 0), (.int .u8 0), (.int .u8 0), (.int .u8 0), (.int .u8 0), (.int .u8 0), (.int .u8 0), (.int .u8 0), (.int .u8 0), (.int .u8 0), (.int .u8 0), (.int .u8 0), (.int .u8 0), (.int .u8 0), (.int .u8 0), (.int .u8 0), (.int .u8 0), (.int .u8 0), (.int .u8 0), (.int .u8 0), (.int .u8 0), (.int .u8 0), (.int .u8 0), (.int .u8 0), (.int .u8 0), (.int .u8 0), (.int .u8 0), (.int .u8 0), (.int .u8 0), (.int .u8 0), (.int .u8 0), (.int .u8 0), (.int .u8 0), (.int .u8 0), (.int .u8 0), (.int .u8 0), (.int .u8 0), (.int .u8 0), (.int .u8 0), (.int .u8 0), (.int .u8 0), (.int .u8 0), (.int .u8 0), (.int .u8 0), (.int .u8 0), (.int .u8 0), (.int .u8 0), (.int .u8 0), (.int .u8 0), (.int .u8 0), (.int .i64 0), (.int .i64 0), .nil], none⟩,
  ⟨none, .store 137 (.tmp 4) (.tmp 27), none⟩] [(0, 1), (0, 1), (0, 1), (0, 1), (0, 1), (0, 1), (0, 1), (0, 1), (0, 1), (0, 1), (0, 1), (0, 0), (1, 1)])
 (.seq
 (.reg [⟨some 28, .fieldAddr 0 1 (.tmp 4), none⟩,
  ⟨some 29, .load none (.tmp 28), none⟩,
  ⟨some 30, .call (.cst (.func (.func 20) [] [])) [(.tmp 29)], none⟩,
  ⟨some 5, .move (.tmp 30), none⟩])
 (.seq
 (.reg [⟨some 32, .move (.tmp 0), none⟩,
  ⟨some 33, .slice .slice none (.tmp 32) (some (.cst (.int .i64 2))) none none, none⟩,
  ⟨some 34, .call (.cst (.func (.func 21) [] [])) [(.tmp 33), (.cst .nil)], none⟩,
  ⟨some 31, .move (.tmp 34), none⟩,
  ⟨some 35, .extract (.tmp 31) 0, none⟩,
  ⟨some 36, .extract (.tmp 31) 1, none⟩,
  ⟨some 6, .move (.tmp 35), none⟩,
  ⟨some 7, .move (.tmp 36), none⟩])
 (.seq
 (.reg [⟨some 37, .move (.tmp 7), none⟩,
  ⟨some 38, .bin .eql (.tmp 37) (.cst (.int .i64 0)), none⟩,
  ⟨some 39, .move (.tmp 38), none⟩,
  ⟨some 40, .move (.tmp 5), some (39, true)⟩,
  ⟨some 41, .eqNil true .slice (.tmp 40), some (39, true)⟩,
  ⟨some 42, .pick (.tmp 39) (.tmp 41) (.cst (.bool false)), none⟩,
  ⟨some 8, .move (.tmp 42), none⟩])
 (.seq
 (.skip)
 (.seq
 (.seq
 (.reg [⟨some 43, .move (.tmp 5), none⟩,
  ⟨some 44, .len (.tmp 43), none⟩,
  ⟨some 45, .move (.cst (.int .i64 0)), none⟩])
 (.block 0
 (.loop [2, 4, 6, 8, 43, 44, 45] false L9_0)))
 (.seq
 (.seq
 (.reg [⟨some 69, .move (.tmp 8), none⟩,
  ⟨some 70, .un .not (.tmp 69), none⟩,
  ⟨some 71, .move (.tmp 70), none⟩,
  ⟨some 72, .load (some 137) (.tmp 4), some (71, false)⟩,
  ⟨some 73, .call (.cst (.func (.func 16) [] [])) [(.tmp 72)], some (71, false)⟩,
  ⟨some 74, .un .not (.tmp 73), some (71, false)⟩,
  ⟨some 75, .pick (.tmp 71) (.cst (.bool true)) (.tmp 74), none⟩])
 (.cond (.tmp 75)
 (.seq
 (.reg [⟨some 76, .build [(.int .i64 0), (.int .i64 0), (.int .i64 0), (.int .i64 0), (.int .i64 0), (.int .u8 0), (.int .u8 0), (.int .u8 0), (.int .u8 0), (.int .u8 0), (.int .u8 0), (.int .u8 0), (.int .u8 0), (.int .u8 0), (.int .u8 0), (.int .u8 0), (.int .u8 0), (.int .u8 0), (.int .u8 0), (.int .u8 0), (.int .u8 0), (.int .u8 0), (.int .u8 0), (.int .u8 0), (.int .u8 0), (.int .u8 0), (.int .u8 0), (.int .u8 0), (.int .u8 0), (.int .u8 0), (.int .u8 0), (.int .u8 0), (.int .u8 0), (.int .u8 0), (.int .u8 0), (.int .u8 0), (.int .u8 0), .nil, (.int .u8 0), (.int .u8 0), (.int .u8 0), (.int .u8 0), (.int .u8 0), (.int .u8 0), (.int .u8 0), (.int .u8 0), (.int .u8 0), (.int .u8 0), (.int .u8 0), (.int .u8 0), (.int .u8 0), (.int .u8 0), (.int .u8 0), (.int .u8 0), (.int .u8 0), (.int .u8 0), (.int .u8 0), (.int .u8 0), (.int .u8 0), (.int .u8 0), (.int .u8 0), (.int .u8 0), (.int .u8 0), (.int .u8 0), (.int .u8 0), (.int .u8 0), (.int .u8 0), (.int .u8 0), (.int .u8 0), (.int .u8 0), (.int .u8 0), (.int .u8 0), (.int .u8 0), (.int .u8 0), (.int .u8 0), (.int .u8 0), (.int .u8 0), (.int .u8 0), (.int .u8 0), (.int .u8 0), (.int .u8 0), (.int .u8 0), (.int .u8 0), (.int .u8 0), (.int .u8 0), (.int .u8 0), (.int .u8 0), (.int .u8 0), (.int .u8 0), (.int .u8 0), (.int .u8 0), (.int .u8 0), (.int .u8 0), (.int .u8 0), (.int .u8 0), (.int .u8 0), (.int .u8 0), (.int .u8 0), (.int .u8 0), (.int .u8 0), (.int .u8 0), (.int .u8 0), (.int .u8 0), (.int .u8 0), (.int .u8 0), (.int .u8 0), (.int .u8 0), (.int .u8 0), (.int .u8 0), (.int .u8 0), (.int .u8 0), (.int .u8 0), (.int .u8 0), (.int .u8 0), (.int .u8 0), (.int .u8 0), (.int .u8 0), (.int .u8 0), (.int .u8 0), (.int .u8 0), (.int .u8 0), (.int .u8 0), (.int .u8 0), (.int .u8 0), (.int .u8 0), (.int .u8 0), (.int .u8 0), (.int .u8 0), (.int .u8 0), (.int .u8 0), (.int .u8 0), (.int .u8 0), (.int .u8 0), (.int .u8 0), (.int .i64 0), (.int .i64 0), .nil] [], none⟩,
  ⟨none, .store 137 (.tmp 2) (.tmp 76), none⟩,
  ⟨some 3, .move (.cst (.int .i64 10)), none⟩])
 (.ret))
 (.skip)))
 (.seq
 (.reg [⟨some 77, .load (some 137) (.tmp 4), none⟩,
  ⟨none, .store 137 (.tmp 2) (.tmp 77), none⟩,
  ⟨some 3, .move (.cst (.int .i64 0)), none⟩])
 (.ret)))))))))))⟩
theorem c9 : compF Try.prog gl true [] [([2, 4, 6, 8, 43, 44, 45], false)] Try.f9 = some F9 := by kernel_rfl
def L10_0 : AC := .seq
 (.seq
 (.reg [⟨some 49, .move (.tmp 10), none⟩,
  ⟨some 50, .move (.tmp 5), none⟩,
  ⟨some 51, .len (.tmp 50), none⟩,
  ⟨some 52, .bin .lss (.tmp 49) (.tmp 51), none⟩])
 (.cond (.tmp 52)
 (.skip)
 (.exit 2)))
 (.seq
 (.block 3
 (.seq
 (.regQ [⟨some 55, .move (.tmp 5), none⟩,
  ⟨some 56, .move (.tmp 10), none⟩,
  ⟨some 57, .indexAddr .slice (some 2) (.tmp 55) (.tmp 56), none⟩,
  ⟨some 58, .fieldAddr 0 1 (.tmp 57), none⟩,
  ⟨some 59, .load none (.tmp 58), none⟩,
  ⟨some 60, .move (.tmp 7), none⟩,
  ⟨some 61, .move (.tmp 8), none⟩,
  ⟨some 62, .indexAddr .slice none (.tmp 60) (.tmp 61), none⟩,
  ⟨some 63, .load none (.tmp 62), none⟩,
  ⟨some 64, .bin .eql (.tmp 59) (.tmp 63), none⟩])
 (.cond (.tmp 64)
 (.regD [⟨some 66, .load (some 137) (.tmp 4), none⟩,
  ⟨some 67, .move (.tmp 7), none⟩,
  ⟨some 68, .move (.tmp 8), none⟩,
  ⟨some 69, .indexAddr .slice none (.tmp 67) (.tmp 68), none⟩,
  ⟨some 70, .load none (.tmp 69), none⟩,
  ⟨some 71, .move (.tmp 5), none⟩,
  ⟨some 72, .move (.tmp 10), none⟩,
  ⟨some 73, .indexAddr .slice (some 2) (.tmp 71) (.tmp 72), none⟩,
  ⟨some 74, .fieldAddr 1 1 (.tmp 73), none⟩,
  ⟨some 75, .load none (.tmp 74), none⟩,
  ⟨some 76, .call (.cst (.func (.func 26) [] [])) [(.tmp 66), (.tmp 70), (.tmp 75)], none⟩,
  ⟨some 65, .move (.tmp 76), none⟩,
  ⟨some 77, .extract (.tmp 65) 0, none⟩,
  ⟨some 78, .extract (.tmp 65) 1, none⟩,
  ⟨none, .store 137 (.tmp 4) (.tmp 77), none⟩,
  ⟨some 9, .move (.tmp 78), none⟩] [(0, 0), (0, 0), (0, 0), (0, 0), (0, 0), (0, 0), (0, 0), (0, 0), (0, 0), (0, 0), (0, 0), (1, 1), (1, 1), (1, 2), (1, 1), (2, 2)])
 (.skip))))
 (.reg [⟨some 53, .move (.tmp 10), none⟩,
  ⟨some 54, .bin .add (.tmp 53) (.cst (.int .i64 1)), none⟩,
  ⟨some 10, .move (.tmp 54), none⟩]))
def L10_1 : AC := .seq
 (.seq
 (.reg [⟨some 43, .move (.tmp 8), none⟩,
  ⟨some 44, .move (.tmp 7), none⟩,
  ⟨some 45, .len (.tmp 44), none⟩,
  ⟨some 46, .bin .lss (.tmp 43) (.tmp 45), none⟩])
 (.cond (.tmp 46)
 (.skip)
 (.exit 0)))
 (.seq
 (.block 1
 (.seq
 (.reg [⟨some 9, .move (.cst (.bool false)), none⟩])
 (.seq
 (.seq
 (.reg [⟨some 10, .move (.cst (.int .i64 0)), none⟩])
 (.block 2
 (.loop [2, 4, 5, 7, 8, 9, 10] false L10_0)))
 (.seq
 (.reg [⟨some 79, .move (.tmp 9), none⟩,
  ⟨some 80, .un .not (.tmp 79), none⟩])
 (.cond (.tmp 80)
 (.seq
 (.reg [⟨some 81, .build [(.int .i64 0), (.int .i64 0), (.int .i64 0), (.int .i64 0), (.int .i64 0), (.int .u8 0), (.int .u8 0), (.int .u8 0), (.int .u8 0), (.int .u8 0), (.int .u8 0), (.int .u8 0), (.int .u8 0), (.int .u8 0), (.int .u8 0), (.int .u8 0), (.int .u8 0), (.int .u8 0), (.int .u8 0), (.int .u8 0), (.int .u8 0), (.int .u8 0), (.int .u8 0), (.int .u8 0), (.int .u8 0), (.int .u8 0), (.int .u8 0), (.int .u8 0), (.int .u8 0), (.int .u8 0), (.int .u8 0), (.int .u8 0), (.int .u8 0), (.int .u8 0), (.int .u8 0), (.int .u8 0), (.int .u8 0), .nil, (.int .u8 0), (.int .u8 0), (.int .u8 0), (.int .u8 0), (.int .u8 0), (.int .u8 0), (.int .u8 0), (.int .u8 0), (.int .u8 0), (.int .u8 0), (.int .u8 0), (.int .u8 0), (.int .u8 0), (.int .u8 0), (.int .u8 0), (.int .u8 0), (.int .u8 0), (.int .u8 0), (.int .u8 0), (.int .u8 0), (.int .u8 0), (.int .u8 0), (.int .u8 0), (.int .u8 0), (.int .u8 0), (.int .u8 0), (.int .u8 0), (.int .u8 0), (.int .u8 0), (.int .u8 0), (.int .u8 0), (.int .u8 0), (.int .u8 0), (.int .u8 0), (.int .u8 0), (.int .u8 0), (.int .u8 0), (.int .u8 0), (.int .u8 0), (.int .u8 0), (.int .u8 0), (.int .u8 0), (.int .u8 0), (.int .u8 0), (.int .u8 0), (.int .u8 0), (.int .u8 0), (.int .u8 0), (.int .u8 0), (.int .u8 0), (.int .u8 0), (.int .u8 0), (.int .u8 0), (.int .u8 0), (.int .u8 0), (.int .u8 0), (.int .u8 0), (.int .u8 0), (.int .u8 0), (.int .u8 0), (.int .u8 0), (.int .u8 0), (.int .u8 0), (.int .u8 0), (.int .u8 0), (.int .u8 0), (.int .u8 0), (.int .u8 0), (.int .u8 0), (.int .u8 0), (.int .u8 0), (.int .u8 0), (.int .u8 0), (.int .u8 0), (.int .u8 0), (.int .u8 0), (.int .u8 0), (.int .u8 0), (.int .u8 0), (.int .u8 0), (.int .u8 0), (.int .u8 0), (.int .u8 0), (.int .u8 0), (.int .u8 0), (.int .u8 0), (.int .u8 0), (.int .u8 0), (.int .u8 0), (.int .u8 0), (.int .u8 0), (.int .u8 0), (.int .u8 0), (.int .u8 0), (.int .u8 0), (.int .u8 0), (.int .i64 0), (.int .i64 0), .nil] [], none⟩,
  ⟨none, .store 137 (.tmp 2) (.tmp 81), none⟩,
  ⟨some 3, .move (.cst (.int .i64 10)), none⟩])
 (.ret))
 (.skip))))))
 (.reg [⟨some 47, .move (.tmp 8), none⟩,
  ⟨some 48, .bin .add (.tmp 47) (.cst (.int .i64 1)), none⟩,
  ⟨some 8, .move (.tmp 48), none⟩]))
/- tollhouse/tollhouseref06.Decode -/
def F10 : AFn := ⟨87, true, 1, [.cell 2 (some 137), .tmp 3], .seq
 (.reg [⟨some 2, .alloc [(.int .i64 0), (.int .i64 0), (.int .i64 0), (.int .i64 0), (.int .i64 0), (.int .u8 0), (.int .u8 0), (.int .u8 0), (.int .u8 0), (.int .u8 0), (.int .u8 0), (.int .u8 0), (.int .u8 0), (.int .u8 0), (.int .u8 0), (.int .u8 0), (.int .u8 0), (.int .u8 0), (.int .u8 0), (.int .u8 0), (.int .u8 0), (.int .u8 0), (.int .u8 0), (.int .u8 0), (.int .u8 0), (.int .u8 0), (.int .u8 0), (.int .u8 0), (.int .u8 0), (.int .u8 0), (.int .u8 0), (.int .u8 0), (.int .u8 0), (.int .u8 0), (.int .u8 0), (.int .u8 0), (.int .u8 0), .nil, (.int .u8 0), (.int .u8 0), (.int .u8 0), (.int .u8 0), (.int .u8 0), (.int .u8 0), (.int .u8 0), (.int .u8 0), (.int .u8 0), (.int .u8 0), (.int .u8 0), (.int .u8 0), (.int .u8 0), (.int .u8 0), (.int .u8 0), (.int .u8 0), (.int .u8 0), (.int .u8 0), (.int .u8 0), (.int .u8 0), (.int .u8 0), (.int .u8 0), (.int .u8 0), (.int .u8 0), (.int .u8 0), (.int .u8 0), (.int .u8 0), (.int .u8 0), (.int .u8 0), (.int .u8 0), (.int .u8 0), (.int .u8 0), (.int .u8 0), (.int .u8 0), (.int .u8 0), (.int .u8 0), (.int .u8 0), (.int .u8 0), (.int .u8 0), (.int .u8 0), (.int .u8 0), (.int .u8 0), (.int .u8 0), (.int .u8 0), (.int .u8 0), (.int .u8 0), (.int .u8 0), (.int .u8 0), (.int .u8 0), (.int .u8 0), (.int .u8 0), (.int .u8 0), (.int .u8 0), (.int .u8 0), (.int .u8 0), (.int .u8 0), (.int .u8 0), (.int .u8 0), (.int .u8 0), (.int .u8 0), (.int .u8 0), (.int .u8 0), (.int .u8 0), (.int .u8 0), (.int .u8 0), (.int .u8 0), (.int .u8 0), (.int .u8 0), (.int .u8 0), (.int .u8 0), (.int .u8 0), (.int .u8 0), (.int .u8 0), (.int .u8 0), (.int .u8 0), (.int .u8 0), (.int .u8 0), (.int .u8 0), (.int .u8 0), (.int .u8 0), (.int .u8 0), (.int .u8 0), (.int .u8 0), (.int .u8 0), (.int .u8 0), (.int .u8 0), (.int .u8 0), (.int .u8 0), (.int .u8 0), (.int .u8 0), (.int .u8 0), (.int .u8 0), (.int .u8 0), (.int .u8 0), (.int .u8 0), (.int .u8 0), (.int .i64 0), (.int .i64 0), .nil], none⟩,
  ⟨some 3, .move (.cst (.int .i64 0)), none⟩])
 (.seq
 (.seq
 (.reg [⟨some 11, .move (.tmp 0), none⟩,
  ⟨some 12, .len (.tmp 11), none⟩,
  ⟨some 13, .bin .lss (.tmp 12) (.cst (.int .i64 2)), none⟩])
 (.cond (.tmp 13)
 (.seq
 (.reg [⟨some 14, .build [(.int .i64 0), (.int .i64 0), (.int .i64 0), (.int .i64 0), (.int .i64 0), (.int .u8 0), (.int .u8 0), (.int .u8 0), (.int .u8 0), (.int .u8 0), (.int .u8 0), (.int .u8 0), (.int .u8 0), (.int .u8 0), (.int .u8 0), (.int .u8 0), (.int .u8 0), (.int .u8 0), (.int .u8 0), (.int .u8 0), (.int .u8 0), (.int .u8 0), (.int .u8 0), (.int .u8 0), (.int .u8 0), (.int .u8 0), (.int .u8 0), (.int .u8 0), (.int .u8 0), (.int .u8 0), (.int .u8 0), (.int .u8 0), (.int .u8 0), (.int .u8 0), (.int .u8 0), (.int .u8 0), (.int .u8 0), .nil, (.int .u8 0), (.int .u8 0), (.int .u8 0), (.int .u8 0), (.int .u8 0), (.int .u8 0), (.int .u8 0), (.int .u8 0), (.int .u8 0), (.int .u8 0), (.int .u8 0), (.int .u8 0), (.int .u8 0), (.int .u8 0), (.int .u8 0), (.int .u8 0), (.int .u8 0), (.int .u8 0), (.int .u8 0), (.int .u8 0), (.int .u8 0), (.int .u8 0), (.int .u8 0), (.int .u8 0), (.int .u8 0), (.int .u8 0), (.int .u8 0), (.int .u8 0), (.int .u8 0), (.int .u8 0), (.int .u8 0), (.int .u8 0), (.int .u8 0), (.int .u8 0), (.int .u8 0), (.int .u8 0), (.int .u8 0), (.int .u8 0), (.int .u8 0), (.int .u8 0), (.int .u8 0), (.int .u8 0), (.int .u8 0), (.int .u8 0), (.int .u8 0), (.int .u8 0), (.int .u8 0), (.int .u8 0), (.int .u8 0), (.int .u8 0), (.int .u8 0), (.int .u8 0), (.int .u8 0), (.int .u8 0), (.int .u8 0), (.int .u8 0), (.int .u8 0), (.int .u8 0), (.int .u8 0), (.int .u8 0), (.int .u8 0), (.int .u8 0), (.int .u8 0), (.int .u8 0), (.int .u8 0), (.int .u8 0), (.int .u8 0), (.int .u8 0), (.int .u8 0), (.int .u8 0), (.int .u8 0), (.int .u8 0), (.int .u8 0), (.int .u8 0), (.int .u8 0), (.int .u8 0), (.int .u8 0), (.int .u8 0), (.int .u8 0), (.int .u8 0), (.int .u8 0), (.int .u8 0), (.int .u8 0), (.int .u8 0), (.int .u8 0), (.int .u8 0), (.int .u8 0), (.int .u8 0), (.int .u8 0), (.int .u8 0), (.int .u8 0), (.int .u8 0), (.int .u8 0), (.int .u8 0), (.int .u8 0), (.int .u8 0), (.int .i64 0), (.int .i64 0), .nil] [], none⟩,
  ⟨none, .store 137 (.tmp 2) (.tmp 14), none⟩,
  ⟨some 3, .move (.cst (.int .i64 10)), none⟩])
 (.ret))
 (.skip)))
 (.seq
 (.regD [⟨some 15, .move (.tmp 0), none⟩,
  ⟨some 16, .indexAddr .slice none (.tmp 15) (.cst (.int .i64 0)), none⟩,
  ⟨some 17, .load none (.tmp 16), none⟩,
  ⟨some 18, .convInt .i64 (.tmp 17), none⟩,
  ⟨some 19, .bin .mul (.tmp 18) (.cst (.int .i64 256)), none⟩,
  ⟨some 20, .move (.tmp 0), none⟩,
  ⟨some 21, .indexAddr .slice none (.tmp 20) (.cst (.int .i64 1)), none⟩,
  ⟨some 22, .load none (.tmp 21), none⟩,
  ⟨some 23, .convInt .i64 (.tmp 22), none⟩,
  ⟨some 24, .bin .add (.tmp 19) (.tmp 23), none⟩,
  ⟨some 25, .build [(.int .i64 0), (.int .i64 0), (.int .i64 0), (.int .i64 0), (.int .i64 0), (.int .u8 0), (.int .u8 0), (.int .u8 0), (.int .u8 0), (.int .u8 0), (.int .u8 0), (.int .u8 0), (.int .u8 0), (.int .u8 0), (.int .u8 0), (.int .u8 0), (.int .u8 0), (.int .u8 0), (.int .u8 0), (.int .u8 0), (.int .u8 0), (.int .u8 0), (.int .u8 0), (.int .u8 0), (.int .u8 0), (.int .u8 0), (.int .u8 0), (.int .u8 0), (.int .u8 0), (.int .u8 0), (.int .u8 0), (.int .u8 0), (.int .u8 0), (.int .u8 0), (.int .u8 0), (.int .u8 0), (.int .u8 0), .nil, (.int .u8 0), (.int .u8 0), (.int .u8 0), (.int .u8 0), (.int .u8 0), (.int .u8 0), (.int .u8 0), (.int .u8 0), (.int .u8 0), (.int .u8 0), (.int .u8 0), (.int .u8 0), (.int .u8 0), (.int .u8 0), (.int .u8 0), (.int .u8 0), (.int .u8 0), (.int .u8 0), (.int .u8 0), (.int .u8 0), (.int .u8 0), (.int .u8 0), (.int .u8 0), (.int .u8 0), (.int .u8 0), (.int .u8 0), (.int .u8 0), (.int .u8 0), (.int .u8 0), (.int .u8 0), (.int .u8 0), (.int .u8 0), (.int .u8 0), (.int .u8 0), (.int .u8 0), (.int .u8 0), (.int .u8 0), (.int .u8 0), (.int .u8 0), (.int .u8 0), (.int .u8 0), (.int .u8 0), (.int .u8 0), (.int .u8 0), (.int .u8 0), (.int .u8 0), (.int .u8 0), (.int .u8 0), (.int .u8 0), (.int .u8 0), (.int .u8 0), (.int .u8 0), (.int .u8 0), (.int .u8 0), (.int .u8 0), (.int .u8 0), (.int .u8 0), (.int .u8 0), (.int .u8 0), (.int .u8 0), (.int .u8 0), (.int .u8 0), (.int .u8 0), (.int .u8 0), (.int .u8 0), (.int .u8 0), (.int .u8 0), (.int .u8 0), (.int .u8 0), (.int .u8 0), (.int .u8 0), (.int .u8 0), (.int .u8 0), (.int .u8 0), (.int .u8 0), (.int .u8 0), (.int .u8 0), (.int .u8 0), (.int .u8 0), (.int .u8 0), (.int .u8 0), (.int .u8 0), (.int .u8 0), (.int .u8 0), (.int .u8 0), (.int .u8 0), (.int .u8 0), (.int .u8 0), (.int .u8 0), (.int .u8 0), (.int .u8 0), (.int .u8 0), (.int .u8 0), (.int .u8 0), (.int .u8 0), (.int .u8 0), (.int .i64 0), (.int .i64 0), .nil] [(0, 1, (.tmp 24))], none⟩,
  ⟨some 4, .alloc [(.int .i64 0), (.int .i64 0), (.int .i64 0), (.int .i64 0), (.int .i64 0), (.int .u8 0), (.int .u8 0), (.int .u8 0), (.int .u8 0), (.int .u8 0), (.int .u8 0), (.int .u8 0), (.int .u8 0), (.int .u8 0), (.int .u8 0), (.int .u8 0), (.int .u8 0), (.int .u8 0), (.int .u8 0), (.int .u8 0), (.int .u8 0), (.int .u8 0), (.int .u8 0), (.int .u8 0), (.int .u8 0), (.int .u8 0), (.int .u8 0), (.int .u8 0), (.int .u8 0), (.int .u8 0), (.int .u8 0), (.int .u8 0), (.int .u8 0), (.int .u8 0), (.int .u8 0), (.int .u8 0), (.int .u8 0), .nil, (.int .u8 0), (.int .u8 0), (.int .u8 0), (.int .u8 0), (.int .u8 0), (.int .u8 0), (.int .u8 0), (.int .u8 0), (.int .u8 0), (.int .u8 0), (.int .u8 0), (.int .u8 0), (.int .u8 0), (.int .u8 0), (.int .u8 0), (.int .u8 0), (.int .u8 0), (.int .u8 0), (.int .u8 0), (.int .u8 0), (.int .u8 0), (.int .u8 0), (.int .u8 0), (.int .u8 0), (.int .u8 0), (.int .u8 0), (.int .u8 0), (.int .u8 0), (.int .u8 0), (.int .u8 0), (.int .u8 0), (.int .u8 0), (.int .u8 0), (.int .u8 0), (.int .u8 0), (.int .u8 0), (.int .u8 0), (.int .u8 0), (.int .u8 0), (.int .u8 0), (.int .u8 0), (.int .u8 0), (.int .u8 0), (.int .u8 0), (.int .u8 0), (.int .u8 0), (.int .u8 0), (.int .u8 0), (.int .u8 0), (.int .u8 0), (.int .u8 0), (.int .u8 0), (.int .u8 0), (.int .u8 0), (.int .u8 0), (.int .u8 0), (.int .u8 0), (.int .u8 0), (.int .u8 0), (.int .u8 0), (.int .u8 0), (.int .u8 0), (.int .u8 0), (.int .u8 0), (.int .u8 0), (.int .u8 0), (.int .u8 0), (.int .u8 0), (.int .u8 0), (.int .u8 0), (.int .u8 0), (.int .u8 0), (.int .u8 0), (.int .u8 0), (.int .u8 0), (.int .u8 0), (.int .u8 0), (.int .u8 0), (.int .u8 0), (.int .u8 0), (.int .u8 0), (.int .u8 0), (.int .u8 0), (.int .u8 0), (.int .u8 0), (.int .u8 0), (.int .u8 0), (.int .u8 0), (.int .u8 0), (.int .u8 0), (.int .u8 0), (.int .u8 0), (.int .u8 0), (.int .u8 0), (.int .u8 0), (.int .u8 0), (.int .i64 0), (.int .i64 0), .nil], none⟩,
  ⟨none, .store 137 (.tmp 4) (.tmp 25), none⟩] [(0, 1), (0, 1), (0, 1), (0, 1), (0, 1), (0, 1), (0, 1), (0, 1), (0, 1), (0, 1), (0, 1), (0, 0), (1, 1)])
 (.seq
 (.reg [⟨some 27, .move (.tmp 0), none⟩,
  ⟨some 28, .slice .slice none (.tmp 27) (some (.cst (.int .i64 2))) none none, none⟩,
  ⟨some 29, .call (.cst (.func (.func 24) [] [])) [(.tmp 28), (.cst .nil)], none⟩,
  ⟨some 26, .move (.tmp 29), none⟩,
  ⟨some 30, .extract (.tmp 26) 0, none⟩,
  ⟨some 31, .extract (.tmp 26) 1, none⟩,
  ⟨some 5, .move (.tmp 30), none⟩,
  ⟨some 6, .move (.tmp 31), none⟩])
 (.seq
 (.reg [⟨some 32, .fieldAddr 0 1 (.tmp 4), none⟩,
  ⟨some 33, .load none (.tmp 32), none⟩,
  ⟨some 34, .call (.cst (.func (.func 25) [] [])) [(.tmp 33)], none⟩,
  ⟨some 7, .move (.tmp 34), none⟩])
 (.seq
 (.seq
 (.reg [⟨some 35, .move (.tmp 6), none⟩,
  ⟨some 36, .bin .neq (.tmp 35) (.cst (.int .i64 0)), none⟩,
  ⟨some 37, .move (.tmp 36), none⟩,
  ⟨some 38, .move (.tmp 7), some (37, false)⟩,
  ⟨some 39, .len (.tmp 38), some (37, false)⟩,
  ⟨some 40, .bin .eql (.tmp 39) (.cst (.int .i64 0)), some (37, false)⟩,
  ⟨some 41, .pick (.tmp 37) (.cst (.bool true)) (.tmp 40), none⟩])
 (.cond (.tmp 41)
 (.seq
 (.reg [⟨some 42, .build [(.int .i64 0), (.int .i64 0), (.int .i64 0), (.int .i64 0), (.int .i64 0), (.int .u8 0), (.int .u8 0), (.int .u8 0), (.int .u8 0), (.int .u8 0), (.int .u8 0), (.int .u8 0), (.int .u8 0), (.int .u8 0), (.int .u8 0), (.int .u8 0), (.int .u8 0), (.int .u8 0), (.int .u8 0), (.int .u8 0), (.int .u8 0), (.int .u8 0), (.int .u8 0), (.int .u8 0), (.int .u8 0), (.int .u8 0), (.int .u8 0), (.int .u8 0), (.int .u8 0), (.int .u8 0), (.int .u8 0), (.int .u8 0), (.int .u8 0), (.int .u8 0), (.int .u8 0), (.int .u8 0), (.int .u8 0), .nil, (.int .u8 0), (.int .u8 0), (.int .u8 0), (.int .u8 0), (.int .u8 0), (.int .u8 0), (.int .u8 0), (.int .u8 0), (.int .u8 0), (.int .u8 0), (.int .u8 0), (.int .u8 0), (.int .u8 0), (.int .u8 0), (.int .u8 0), (.int .u8 0), (.int .u8 0), (.int .u8 0), (.int .u8 0), (.int .u8 0), (.int .u8 0), (.int .u8 0), (.int .u8 0), (.int .u8 0), (.int .u8 0), (.int .u8 0), (.int .u8 0), (.int .u8 0), (.int .u8 0), (.int .u8 0), (.int .u8 0), (.int .u8 0), (.int .u8 0), (.int .u8 0), (.int .u8 0), (.int .u8 0), (.int .u8 0), (.int .u8 0), (.int .u8 0), (.int .u8 0), (.int .u8 0), (.int .u8 0), (.int .u8 0), (.int .u8 0), (.int .u8 0), (.int .u8 0), (.int .u8 0), (.int .u8 0), (.int .u8 0), (.int .u8 0), (.int .u8 0), (.int .u8 0), (.int .u8 0), (.int .u8 0), (.int .u8 0), (.int .u8 0), (.int .u8 0), (.int .u8 0), (.int .u8 0), (.int .u8 0), (.int .u8 0), (.int .u8 0), (.int .u8 0), (.int .u8 0), (.int .u8 0), (.int .u8 0), (.int .u8 0), (.int .u8 0), (.int .u8 0), (.int .u8 0), (.int .u8 0), (.int .u8 0), (.int .u8 0), (.int .u8 0), (.int .u8 0), (.int .u8 0), (.int .u8 0), (.int .u8 0), (.int .u8 0), (.int .u8 0), (.int .u8 0), (.int .u8 0), (.int .u8 0), (.int .u8 0), (.int .u8 0), (.int .u8 0), (.int .u8 0), (.int .u8 0), (.int .u8 0), (.int .u8 0), (.int .u8 0), (.int .u8 0), (.int .u8 0), (.int .u8 0), (.int .u8 0), (.int .u8 0), (.int .i64 0), (.int .i64 0), .nil] [], none⟩,
  ⟨none, .store 137 (.tmp 2) (.tmp 42), none⟩,
  ⟨some 3, .move (.cst (.int .i64 10)), none⟩])
 (.ret))
 (.skip)))
 (.seq
 (.seq
 (.reg [⟨some 8, .move (.cst (.int .i64 0)), none⟩])
 (.block 0
 (.loop [2, 4, 5, 7, 8] false L10_1)))
 (.seq
 (.seq
 (.reg [⟨some 82, .load (some 137) (.tmp 4), none⟩,
  ⟨some 83, .call (.cst (.func (.func 17) [] [])) [(.tmp 82)], none⟩,
  ⟨some 84, .un .not (.tmp 83), none⟩])
 (.cond (.tmp 84)
 (.seq
 (.reg [⟨some 85, .build [(.int .i64 0), (.int .i64 0), (.int .i64 0), (.int .i64 0), (.int .i64 0), (.int .u8 0), (.int .u8 0), (.int .u8 0), (.int .u8 0), (.int .u8 0), (.int .u8 0), (.int .u8 0), (.int .u8 0), (.int .u8 0), (.int .u8 0), (.int .u8 0), (.int .u8 0), (.int .u8 0), (.int .u8 0), (.int .u8 0), (.int .u8 0), (.int .u8 0), (.int .u8 0), (.int .u8 0), (.int .u8 0), (.int .u8 0), (.int .u8 0), (.int .u8 0), (.int .u8 0), (.int .u8 0), (.int .u8 0), (.int .u8 0), (.int .u8 0), (.int .u8 0), (.int .u8 0), (.int .u8 0), (.int .u8 0), .nil, (.int .u8 0), (.int .u8 0), (.int .u8 0), (.int .u8 0), (.int .u8 0), (.int .u8 0), (.int .u8 0), (.int .u8 0), (.int .u8 0), (.int .u8 0), (.int .u8 0), (.int .u8 0), (.int .u8 0), (.int .u8 0), (.int .u8 0), (.int .u8 0), (.int .u8 0), (.int .u8 0), (.int .u8 0), (.int .u8 0), (.int .u8 0), (.int .u8 0), (.int .u8 0), (.int .u8 0), (.int .u8 0), (.int .u8 0), (.int .u8 0), (.int .u8 0), (.int .u8 0), (.int .u8 0), (.int .u8 0), (.int .u8 0), (.int .u8 0), (.int .u8 0), (.int .u8 0), (.int .u8 0), (.int .u8 0), (.int .u8 0), (.int .u8 0), (.int .u8 0), (.int .u8 0), (.int .u8 0), (.int .u8 0), (.int .u8 0), (.int .u8 0), (.int .u8 0), (.int .u8 0), (.int .u8 0), (.int .u8 0), (.int .u8 0), (.int .u8 0), (.int .u8 0), (.int .u8 0), (.int .u8 0), (.int .u8 0), (.int .u8 0), (.int .u8 0), (.int .u8 0), (.int .u8 0), (.int .u8 0), (.int .u8 0), (.int .u8 0), (.int .u8 0), (.int .u8 0), (.int .u8 0), (.int .u8 0), (.int .u8 0), (.int .u8 0), (.int .u8 0), (.int .u8 0), (.int .u8 0), (.int .u8 0), (.int .u8 0), (.int .u8 0), (.int .u8 0), (.int .u8 0), (.int .u8 0), (.int .u8 0), (.int .u8 0), (.int .u8 0), (.int .u8 0), (.int .u8 0), (.int .u8 0), (.int .u8 0), (.int .u8 0), (.int .u8 0), (.int .u8 0), (.int .u8 0), (.int .u8 0), (.int .u8 0), (.int .u8 0), (.int .u8 0), (.int .u8 0), (.int .u8 0), (.int .u8 0), (.int .u8 0), (.int .i64 0), (.int .i64 0), .nil] [], none⟩,
  ⟨none, .store 137 (.tmp 2) (.tmp 85), none⟩,
  ⟨some 3, .move (.cst (.int .i64 10)), none⟩])
 (.ret))
 (.skip)))
 (.seq
 (.reg [⟨some 86, .load (some 137) (.tmp 4), none⟩,
  ⟨none, .store 137 (.tmp 2) (.tmp 86), none⟩,
  ⟨some 3, .move (.cst (.int .i64 0)), none⟩])
 (.ret)))))))))⟩
theorem c10 : compF Try.prog gl true [] [([2, 4, 5, 7, 8], false), ([2, 4, 5, 7, 8, 9, 10], false)] Try.f10 = some F10 := by kernel_rfl
/- tollhouse/tollhouselaw06.lives -/
def F11 : AFn := ⟨55, true, 0, [.tmp 0], .seq
 (.reg [⟨some 0, .move (.cst (.bool false)), none⟩])
 (.seq
 (.reg [⟨some 8, .build [(.int .u8 0), (.int .u8 0), (.int .u8 0), (.int .u8 0), (.int .u8 0), (.int .u8 0), (.int .u8 0), (.int .u8 0), (.int .u8 0), (.int .u8 0), (.int .u8 0), (.int .u8 0), (.int .u8 0), (.int .u8 0), (.int .u8 0), (.int .u8 0), (.int .u8 0), (.int .u8 0), (.int .u8 0), (.int .u8 0), (.int .u8 0), (.int .u8 0), (.int .u8 0), (.int .u8 0), (.int .u8 0), (.int .u8 0), (.int .u8 0), (.int .u8 0), (.int .u8 0), (.int .u8 0), (.int .u8 0), (.int .u8 0)] [(0, 1, (.cst (.int .u8 9)))], none⟩,
  ⟨some 9, .build [(.int .i64 0), (.int .i64 0), (.int .i64 0), (.int .i64 0), (.int .i64 0), (.int .u8 0), (.int .u8 0), (.int .u8 0), (.int .u8 0), (.int .u8 0), (.int .u8 0), (.int .u8 0), (.int .u8 0), (.int .u8 0), (.int .u8 0), (.int .u8 0), (.int .u8 0), (.int .u8 0), (.int .u8 0), (.int .u8 0), (.int .u8 0), (.int .u8 0), (.int .u8 0), (.int .u8 0), (.int .u8 0), (.int .u8 0), (.int .u8 0), (.int .u8 0), (.int .u8 0), (.int .u8 0), (.int .u8 0), (.int .u8 0), (.int .u8 0), (.int .u8 0), (.int .u8 0), (.int .u8 0), (.int .u8 0), .nil, (.int .u8 0), (.int .u8 0), (.int .u8 0), (.int .u8 0), (.int .u8 0), (.int .u8 0), (.int .u8 0), (.int .u8 0), (.int .u8 0), (.int .u8 0), (.int .u8 0), (.int .u8 0), (.int .u8 0), (.int .u8 0), (.int .u8 0), (.int .u8 0), (.int .u8 0), (.int .u8 0), (.int .u8 0), (.int .u8 0), (.int .u8 0), (.int .u8 0), (.int .u8 0), (.int .u8 0), (.int .u8 0), (.int .u8 0), (.int .u8 0), (.int .u8 0), (.int .u8 0), (.int .u8 0), (.int .u8 0), (.int .u8 0), (.int .u8 0), (.int .u8 0), (.int .u8 0), (.int .u8 0), (.int .u8 0), (.int .u8 0), (.int .u8 0), (.int .u8 0), (.int .u8 0), (.int .u8 0), (.int .u8 0), (.int .u8 0), (.int .u8 0), (.int .u8 0), (.int .u8 0), (.int .u8 0), (.int .u8 0), (.int .u8 0), (.int .u8 0), (.int .u8 0), (.int .u8 0), (.int .u8 0), (.int .u8 0), (.int .u8 0), (.int .u8 0), (.int .u8 0), (.int .u8 0), (.int .u8 0), (.int .u8 0), (.int .u8 0), (.int .u8 0), (.int .u8 0), (.int .u8 0), (.int .u8 0), (.int .u8 0), (.int .u8 0), (.int .u8 0), (.int .u8 0), (.int .u8 0), (.int .u8 0), (.int .u8 0), (.int .u8 0), (.int .u8 0), (.int .u8 0), (.int .u8 0), (.int .u8 0), (.int .u8 0), (.int .u8 0), (.int .u8 0), (.int .u8 0), (.int .u8 0), (.int .u8 0), (.int .u8 0), (.int .u8 0), (.int .u8 0), (.int .u8 0), (.int .u8 0), (.int .u8 0), (.int .u8 0), (.int .u8 0), (.int .u8 0), (.int .u8 0), (.int .u8 0), (.int .u8 0), (.int .i64 0), (.int .i64 0), .nil] [(0, 1, (.cst (.int .i64 2))), (1, 1, (.cst (.int .i64 1))), (38, 32, (.tmp 8))], none⟩,
  ⟨some 1, .alloc [(.int .i64 0), (.int .i64 0), (.int .i64 0), (.int .i64 0), (.int .i64 0), (.int .u8 0), (.int .u8 0), (.int .u8 0), (.int .u8 0), (.int .u8 0), (.int .u8 0), (.int .u8 0), (.int .u8 0), (.int .u8 0), (.int .u8 0), (.int .u8 0), (.int .u8 0), (.int .u8 0), (.int .u8 0), (.int .u8 0), (.int .u8 0), (.int .u8 0), (.int .u8 0), (.int .u8 0), (.int .u8 0), (.int .u8 0), (.int .u8 0), (.int .u8 0), (.int .u8 0), (.int .u8 0), (.int .u8 0), (.int .u8 0), (.int .u8 0), (.int .u8 0), (.int .u8 0), (.int .u8 0), (.int .u8 0), .nil, (.int .u8 0), (.int .u8 0), (.int .u8 0), (.int .u8 0), (.int .u8 0), (.int .u8 0), (.int .u8 0), (.int .u8 0), (.int .u8 0), (.int .u8 0), (.int .u8 0), (.int .u8 0), (.int .u8 0), (.int .u8 0), (.int .u8 0), (.int .u8 0), (.int .u8 0), (.int .u8 0), (.int .u8 0), (.int .u8 0), (.int .u8 0), (.int .u8 0), (.int .u8 0), (.int .u8 0), (.int .u8 0), (.int .u8 0), (.int .u8 0), (.int .u8 0), (.int .u8 0), (.int .u8 0), (.int .u8 0), (.int .u8 0), (.int .u8 0), (.int .u8 0), (.int .u8 0), (.int .u8 0), (.int .u8 0), (.int .u8 0), (.int .u8 0), (.int .u8 0), (.int .u8 0), (.int .u8 0), (.int .u8 0), (.int .u8 0), (.int .u8 0), (.int .u8 0), (.int .u8 0), (.int .u8 0), (.int .u8 0), (.int .u8 0), (.int .u8 0), (.int .u8 0), (.int .u8 0), (.int .u8 0), (.int .u8 0), (.int .u8 0), (.int .u8 0), (.int .u8 0), (.int .u8 0), (.int .u8 0), (.int .u8 0), (.int .u8 0), (.int .u8 0), (.int .u8 0), (.int .u8 0), (.int .u8 0), (.int .u8 0), (.int .u8 0), (.int .u8 0), (.int .u8 0), (.int .u8 0), (.int .u8 0), (.int .u8 0), (.int .u8 0), (.int .u8 0), (.int .u8 0), (.int .u8 0), (.int .u8 0), (.int .u8 0), (.int .u8 0), (.int .u8 0), (.int .u8 0), (.int .u8 0), (.int .u8 0), (.int .u8 0), (.int .u8 0), (.int .u8 0), (.int .u8 0), (.int .u8 0), (.int .u8 0), (.int .u8 0), (.int .u8 0), (.int .u8 0), (.int .u8 0), (.int .u8 0), (.int .u8 0), (.int .i64 0), (.int .i64 0), .nil], none⟩,
  ⟨none, .store 137 (.tmp 1) (.tmp 9), none⟩])
 (.seq
 (.reg [⟨some 11, .load (some 137) (.tmp 1), none⟩,
  ⟨some 12, .call (.cst (.func (.func 15) [] [])) [(.tmp 11)], none⟩,
  ⟨some 10, .move (.tmp 12), none⟩,
  ⟨some 13, .extract (.tmp 10) 0, none⟩,
  ⟨some 14, .extract (.tmp 10) 1, none⟩,
  ⟨some 2, .move (.tmp 13), none⟩,
  ⟨some 3, .move (.tmp 14), none⟩])
 (.seq
 (.reg [⟨some 16, .move (.tmp 2), none⟩,
  ⟨some 17, .call (.cst (.func (.func 9) [] [])) [(.tmp 16)], none⟩,
  ⟨some 15, .move (.tmp 17), none⟩,
  ⟨some 18, .extract (.tmp 15) 0, none⟩,
  ⟨some 19, .extract (.tmp 15) 1, none⟩,
  ⟨some 4, .alloc [(.int .i64 0), (.int .i64 0), (.int .i64 0), (.int .i64 0), (.int .i64 0), (.int .u8 0), (.int .u8 0), (.int .u8 0), (.int .u8 0), (.int .u8 0), (.int .u8 0), (.int .u8 0), (.int .u8 0), (.int .u8 0), (.int .u8 0), (.int .u8 0), (.int .u8 0), (.int .u8 0), (.int .u8 0), (.int .u8 0), (.int .u8 0), (.int .u8 0), (.int .u8 0), (.int .u8 0), (.int .u8 0), (.int .u8 0), (.int .u8 0), (.int .u8 0), (.int .u8 0), (.int .u8 0), (.int .u8 0), (.int .u8 0), (.int .u8 0), (.int .u8 0), (.int .u8 0), (.int .u8 0), (.int .u8 0), .nil, (.int .u8 0), (.int .u8 0), (.int .u8 0), (.int .u8 0), (.int .u8 0), (.int .u8 0), (.int .u8 0), (.int .u8 0), (.int .u8 0), (.int .u8 0), (.int .u8 0), (.int .u8 0), (.int .u8 0), (.int .u8 0), (.int .u8 0), (.int .u8 0), (.int .u8 0), (.int .u8 0), (.int .u8 0), (.int .u8 0), (.int .u8 0), (.int .u8 0), (.int .u8 0), (.int .u8 0), (.int .u8 0), (.int .u8 0), (.int .u8 0), (.int .u8 0), (.int .u8 0), (.int .u8 0), (.int .u8 0), (.int .u8 0), (.int .u8 0), (.int .u8 0), (.int .u8 0), (.int .u8 0), (.int .u8 0), (.int .u8 0), (.int .u8 0), (.int .u8 0), (.int .u8 0), (.int .u8 0), (.int .u8 0), (.int .u8 0), (.int .u8 0), (.int .u8 0), (.int .u8 0), (.int .u8 0), (.int .u8 0), (.int .u8 0), (.int .u8 0), (.int .u8 0), (.int .u8 0), (.int .u8 0), (.int .u8 0), (.int .u8 0), (.int .u8 0), (.int .u8 0), (.int .u8 0), (.int .u8 0), (.int .u8 0), (.int .u8 0), (.int .u8 0), (.int .u8 0), (.int .u8 0), (.int .u8 0), (.int .u8 0), (.int .u8 0), (.int .u8 0), (.int .u8 0), (.int .u8 0), (.int .u8 0), (.int .u8 0), (.int .u8 0), (.int .u8 0), (.int .u8 0), (.int .u8 0), (.int .u8 0), (.int .u8 0), (.int .u8 0), (.int .u8 0), (.int .u8 0), (.int .u8 0), (.int .u8 0), (.int .u8 0), (.int .u8 0), (.int .u8 0), (.int .u8 0), (.int .u8 0), (.int .u8 0), (.int .u8 0), (.int .u8 0), (.int .u8 0), (.int .u8 0), (.int .u8 0), (.int .u8 0), (.int .i64 0), (.int .i64 0), .nil], none⟩,
  ⟨none, .store 137 (.tmp 4) (.tmp 18), none⟩,
  ⟨some 5, .move (.tmp 19), none⟩])
 (.seq
 (.reg [⟨some 21, .build [(.int .i64 0), (.int .i64 0), (.int .i64 0), (.int .i64 0), (.int .i64 0), (.int .u8 0), (.int .u8 0), (.int .u8 0), (.int .u8 0), (.int .u8 0), (.int .u8 0), (.int .u8 0), (.int .u8 0), (.int .u8 0), (.int .u8 0), (.int .u8 0), (.int .u8 0), (.int .u8 0), (.int .u8 0), (.int .u8 0), (.int .u8 0), (.int .u8 0), (.int .u8 0), (.int .u8 0), (.int .u8 0), (.int .u8 0), (.int .u8 0), (.int .u8 0), (.int .u8 0), (.int .u8 0), (.int .u8 0), (.int .u8 0), (.int .u8 0), (.int .u8 0), (.int .u8 0), (.int .u8 0), (.int .u8 0), .nil, (.int .u8 0), (.int .u8 0), (.int .u8 0), (.int .u8 0), (.int .u8 0), (.int .u8 0), (.int .u8 0), (.int .u8 0), (.int .u8 0), (.int .u8 0), (.int .u8 0), (.int .u8 0), (.int .u8 0), (.int .u8 0), (.int .u8 0), (.int .u8 0), (.int .u8 0), (.int .u8 0), (.int .u8 0), (.int .u8 0), (.int .u8 0), (.int .u8 0), (.int .u8 0), (.int .u8 0), (.int .u8 0), (.int .u8 0), (.int .u8 0), (.int .u8 0), (.int .u8 0), (.int .u8 0), (.int .u8 0), (.int .u8 0), (.int .u8 0), (.int .u8 0), (.int .u8 0), (.int .u8 0), (.int .u8 0), (.int .u8 0), (.int .u8 0), (.int .u8 0), (.int .u8 0), (.int .u8 0), (.int .u8 0), (.int .u8 0), (.int .u8 0), (.int .u8 0), (.int .u8 0), (.int .u8 0), (.int .u8 0), (.int .u8 0), (.int .u8 0), (.int .u8 0), (.int .u8 0), (.int .u8 0), (.int .u8 0), (.int .u8 0), (.int .u8 0), (.int .u8 0), (.int .u8 0), (.int .u8 0), (.int .u8 0), (.int .u8 0), (.int .u8 0), (.int .u8 0), (.int .u8 0), (.int .u8 0), (.int .u8 0), (.int .u8 0), (.int .u8 0), (.int .u8 0), (.int .u8 0), (.int .u8 0), (.int .u8 0), (.int .u8 0), (.int .u8 0), (.int .u8 0), (.int .u8 0), (.int .u8 0), (.int .u8 0), (.int .u8 0), (.int .u8 0), (.int .u8 0), (.int .u8 0), (.int .u8 0), (.int .u8 0), (.int .u8 0), (.int .u8 0), (.int .u8 0), (.int .u8 0), (.int .u8 0), (.int .u8 0), (.int .u8 0), (.int .u8 0), (.int .u8 0), (.int .u8 0), (.int .u8 0), (.int .i64 0), (.int .i64 0), .nil] [], none⟩,
  ⟨some 22, .call (.cst (.func (.func 15) [] [])) [(.tmp 21)], none⟩,
  ⟨some 20, .move (.tmp 22), none⟩,
  ⟨some 23, .extract (.tmp 20) 0, none⟩,
  ⟨some 24, .extract (.tmp 20) 1, none⟩,
  ⟨some 6, .move (.tmp 23), none⟩,
  ⟨some 7, .move (.tmp 24), none⟩])
 (.seq
 (.reg [⟨some 25, .move (.tmp 3), none⟩,
  ⟨some 26, .bin .eql (.tmp 25) (.cst (.int .i64 0)), none⟩,
  ⟨some 27, .move (.tmp 26), none⟩,
  ⟨some 28, .move (.tmp 5), some (27, true)⟩,
  ⟨some 29, .bin .eql (.tmp 28) (.cst (.int .i64 0)), some (27, true)⟩,
  ⟨some 30, .pick (.tmp 27) (.tmp 29) (.cst (.bool false)), none⟩,
  ⟨some 31, .move (.tmp 30), none⟩,
  ⟨some 32, .move (.tmp 7), some (31, true)⟩,
  ⟨some 33, .bin .eql (.tmp 32) (.cst (.int .i64 1)), some (31, true)⟩,
  ⟨some 34, .pick (.tmp 31) (.tmp 33) (.cst (.bool false)), none⟩,
  ⟨some 35, .move (.tmp 34), none⟩,
  ⟨some 36, .load (some 137) (.tmp 4), some (35, true)⟩,
  ⟨some 37, .load (some 137) (.tmp 1), some (35, true)⟩,
  ⟨some 38, .call (.cst (.func (.func 12) [] [])) [(.tmp 36), (.tmp 37)], some (35, true)⟩,
  ⟨some 39, .pick (.tmp 35) (.tmp 38) (.cst (.bool false)), none⟩,
  ⟨some 40, .move (.tmp 39), none⟩,
  ⟨some 41, .move (.tmp 2), some (40, true)⟩,
  ⟨some 42, .len (.tmp 41), some (40, true)⟩,
  ⟨some 43, .bin .eql (.tmp 42) (.cst (.int .i64 41)), some (40, true)⟩,
  ⟨some 44, .pick (.tmp 40) (.tmp 43) (.cst (.bool false)), none⟩,
  ⟨some 45, .move (.tmp 44), none⟩,
  ⟨some 46, .move (.tmp 2), some (45, true)⟩,
  ⟨some 47, .indexAddr .slice none (.tmp 46) (.cst (.int .i64 1)), some (45, true)⟩,
  ⟨some 48, .load none (.tmp 47), some (45, true)⟩,
  ⟨some 49, .bin .eql (.tmp 48) (.cst (.int .u8 2)), some (45, true)⟩,
  ⟨some 50, .pick (.tmp 45) (.tmp 49) (.cst (.bool false)), none⟩,
  ⟨some 51, .move (.tmp 50), none⟩,
  ⟨some 52, .load (some 137) (.tmp 1), some (51, true)⟩,
  ⟨some 53, .call (.cst (.func (.func 16) [] [])) [(.tmp 52)], some (51, true)⟩,
  ⟨some 54, .pick (.tmp 51) (.tmp 53) (.cst (.bool false)), none⟩,
  ⟨some 0, .move (.tmp 54), none⟩])
 (.ret))))))⟩
theorem c11 : compF Try.prog gl true [] [] Try.f11 = some F11 := by kernel_rfl
/- tollhouse/tollhouseref06.Same -/
def F12 : AFn := ⟨98, true, 2, [.tmp 4], .seq
 (.reg [⟨some 2, .boxI (.tmp 0), none⟩,
  ⟨some 3, .boxI (.tmp 1), none⟩,
  ⟨some 4, .move (.cst (.bool false)), none⟩])
 (.seq
 (.reg [⟨some 5, .fieldAddr 0 1 (.tmp 2), none⟩,
  ⟨some 6, .load none (.tmp 5), none⟩,
  ⟨some 7, .fieldAddr 0 1 (.tmp 3), none⟩,
  ⟨some 8, .load none (.tmp 7), none⟩,
  ⟨some 9, .bin .eql (.tmp 6) (.tmp 8), none⟩,
  ⟨some 10, .move (.tmp 9), none⟩,
  ⟨some 11, .fieldAddr 1 1 (.tmp 2), some (10, true)⟩,
  ⟨some 12, .load none (.tmp 11), some (10, true)⟩,
  ⟨some 13, .fieldAddr 1 1 (.tmp 3), some (10, true)⟩,
  ⟨some 14, .load none (.tmp 13), some (10, true)⟩,
  ⟨some 15, .bin .eql (.tmp 12) (.tmp 14), some (10, true)⟩,
  ⟨some 16, .pick (.tmp 10) (.tmp 15) (.cst (.bool false)), none⟩,
  ⟨some 17, .move (.tmp 16), none⟩,
  ⟨some 18, .fieldAddr 2 1 (.tmp 2), some (17, true)⟩,
  ⟨some 19, .load none (.tmp 18), some (17, true)⟩,
  ⟨some 20, .fieldAddr 2 1 (.tmp 3), some (17, true)⟩,
  ⟨some 21, .load none (.tmp 20), some (17, true)⟩,
  ⟨some 22, .bin .eql (.tmp 19) (.tmp 21), some (17, true)⟩,
  ⟨some 23, .pick (.tmp 17) (.tmp 22) (.cst (.bool false)), none⟩,
  ⟨some 24, .move (.tmp 23), none⟩,
  ⟨some 25, .fieldAddr 3 1 (.tmp 2), some (24, true)⟩,
  ⟨some 26, .load none (.tmp 25), some (24, true)⟩,
  ⟨some 27, .fieldAddr 3 1 (.tmp 3), some (24, true)⟩,
  ⟨some 28, .load none (.tmp 27), some (24, true)⟩,
  ⟨some 29, .bin .eql (.tmp 26) (.tmp 28), some (24, true)⟩,
  ⟨some 30, .pick (.tmp 24) (.tmp 29) (.cst (.bool false)), none⟩,
  ⟨some 31, .move (.tmp 30), none⟩,
  ⟨some 32, .fieldAddr 4 1 (.tmp 2), some (31, true)⟩,
  ⟨some 33, .load none (.tmp 32), some (31, true)⟩,
  ⟨some 34, .fieldAddr 4 1 (.tmp 3), some (31, true)⟩,
  ⟨some 35, .load none (.tmp 34), some (31, true)⟩,
  ⟨some 36, .bin .eql (.tmp 33) (.tmp 35), some (31, true)⟩,
  ⟨some 37, .pick (.tmp 31) (.tmp 36) (.cst (.bool false)), none⟩,
  ⟨some 38, .move (.tmp 37), none⟩,
  ⟨some 39, .fieldAddr 5 32 (.tmp 2), some (38, true)⟩,
  ⟨some 40, .load (some 32) (.tmp 39), some (38, true)⟩,
  ⟨some 41, .fieldAddr 5 32 (.tmp 3), some (38, true)⟩,
  ⟨some 42, .load (some 32) (.tmp 41), some (38, true)⟩,
  ⟨some 43, .eqArr false 32 (.tmp 40) (.tmp 42), some (38, true)⟩,
  ⟨some 44, .pick (.tmp 38) (.tmp 43) (.cst (.bool false)), none⟩,
  ⟨some 45, .move (.tmp 44), none⟩,
  ⟨some 46, .fieldAddr 37 1 (.tmp 2), some (45, true)⟩,
  ⟨some 47, .load none (.tmp 46), some (45, true)⟩,
  ⟨some 48, .convStr (.tmp 47), some (45, true)⟩,
  ⟨some 49, .fieldAddr 37 1 (.tmp 3), some (45, true)⟩,
  ⟨some 50, .load none (.tmp 49), some (45, true)⟩,
  ⟨some 51, .convStr (.tmp 50), some (45, true)⟩,
  ⟨some 52, .bin .eql (.tmp 48) (.tmp 51), some (45, true)⟩,
  ⟨some 53, .pick (.tmp 45) (.tmp 52) (.cst (.bool false)), none⟩,
  ⟨some 54, .move (.tmp 53), none⟩,
  ⟨some 55, .fieldAddr 38 32 (.tmp 2), some (54, true)⟩,
  ⟨some 56, .load (some 32) (.tmp 55), some (54, true)⟩,
  ⟨some 57, .fieldAddr 38 32 (.tmp 3), some (54, true)⟩,
  ⟨some 58, .load (some 32) (.tmp 57), some (54, true)⟩,
  ⟨some 59, .eqArr false 32 (.tmp 56) (.tmp 58), some (54, true)⟩,
  ⟨some 60, .pick (.tmp 54) (.tmp 59) (.cst (.bool false)), none⟩,
  ⟨some 61, .move (.tmp 60), none⟩,
  ⟨some 62, .fieldAddr 70 32 (.tmp 2), some (61, true)⟩,
  ⟨some 63, .load (some 32) (.tmp 62), some (61, true)⟩,
  ⟨some 64, .fieldAddr 70 32 (.tmp 3), some (61, true)⟩,
  ⟨some 65, .load (some 32) (.tmp 64), some (61, true)⟩,
  ⟨some 66, .eqArr false 32 (.tmp 63) (.tmp 65), some (61, true)⟩,
  ⟨some 67, .pick (.tmp 61) (.tmp 66) (.cst (.bool false)), none⟩,
  ⟨some 68, .move (.tmp 67), none⟩,
  ⟨some 69, .fieldAddr 102 32 (.tmp 2), some (68, true)⟩,
  ⟨some 70, .load (some 32) (.tmp 69), some (68, true)⟩,
  ⟨some 71, .fieldAddr 102 32 (.tmp 3), some (68, true)⟩,
  ⟨some 72, .load (some 32) (.tmp 71), some (68, true)⟩,
  ⟨some 73, .eqArr false 32 (.tmp 70) (.tmp 72), some (68, true)⟩,
  ⟨some 74, .pick (.tmp 68) (.tmp 73) (.cst (.bool false)), none⟩,
  ⟨some 75, .move (.tmp 74), none⟩,
  ⟨some 76, .fieldAddr 134 1 (.tmp 2), some (75, true)⟩,
  ⟨some 77, .load none (.tmp 76), some (75, true)⟩,
  ⟨some 78, .fieldAddr 134 1 (.tmp 3), some (75, true)⟩,
  ⟨some 79, .load none (.tmp 78), some (75, true)⟩,
  ⟨some 80, .bin .eql (.tmp 77) (.tmp 79), some (75, true)⟩,
  ⟨some 81, .pick (.tmp 75) (.tmp 80) (.cst (.bool false)), none⟩,
  ⟨some 82, .move (.tmp 81), none⟩,
  ⟨some 83, .fieldAddr 135 1 (.tmp 2), some (82, true)⟩,
  ⟨some 84, .load none (.tmp 83), some (82, true)⟩,
  ⟨some 85, .fieldAddr 135 1 (.tmp 3), some (82, true)⟩,
  ⟨some 86, .load none (.tmp 85), some (82, true)⟩,
  ⟨some 87, .bin .eql (.tmp 84) (.tmp 86), some (82, true)⟩,
  ⟨some 88, .pick (.tmp 82) (.tmp 87) (.cst (.bool false)), none⟩,
  ⟨some 89, .move (.tmp 88), none⟩,
  ⟨some 90, .fieldAddr 136 1 (.tmp 2), some (89, true)⟩,
  ⟨some 91, .load none (.tmp 90), some (89, true)⟩,
  ⟨some 92, .convStr (.tmp 91), some (89, true)⟩,
  ⟨some 93, .fieldAddr 136 1 (.tmp 3), some (89, true)⟩,
  ⟨some 94, .load none (.tmp 93), some (89, true)⟩,
  ⟨some 95, .convStr (.tmp 94), some (89, true)⟩,
  ⟨some 96, .bin .eql (.tmp 92) (.tmp 95), some (89, true)⟩,
  ⟨some 97, .pick (.tmp 89) (.tmp 96) (.cst (.bool false)), none⟩,
  ⟨some 4, .move (.tmp 97), none⟩])
 (.ret))⟩
theorem c12 : compF Try.prog gl true [(2, (some 0)), (3, (some 0))] [] Try.f12 = some F12 := by kernel_rfl
def L13_0 : AC := .seq
 (.seq
 (.reg [⟨some 15, .move (.tmp 6), none⟩,
  ⟨some 16, .move (.tmp 4), none⟩,
  ⟨some 17, .len (.tmp 16), none⟩,
  ⟨some 18, .bin .lss (.tmp 15) (.tmp 17), none⟩])
 (.cond (.tmp 18)
 (.skip)
 (.exit 0)))
 (.seq
 (.block 1
 (.regD [⟨some 21, .move (.tmp 5), none⟩,
  ⟨some 22, .move (.tmp 4), none⟩,
  ⟨some 23, .move (.tmp 6), none⟩,
  ⟨some 24, .indexAddr .slice none (.tmp 22) (.tmp 23), none⟩,
  ⟨some 25, .load none (.tmp 24), none⟩,
  ⟨some 26, .load (some 137) (.tmp 1), none⟩,
  ⟨some 27, .move (.tmp 4), none⟩,
  ⟨some 28, .move (.tmp 6), none⟩,
  ⟨some 29, .indexAddr .slice none (.tmp 27) (.tmp 28), none⟩,
  ⟨some 30, .load none (.tmp 29), none⟩,
  ⟨some 31, .call (.cst (.func (.func 27) [] [])) [(.tmp 26), (.tmp 30)], none⟩,
  ⟨some 32, .build [(.int .u64 0), .nil] [(0, 1, (.tmp 25)), (1, 1, (.tmp 31))], none⟩,
  ⟨some 33, .buildSlice (some 2) (.agg [(.int .u64 0), .nil]) 1 [(0, (.tmp 32))], none⟩,
  ⟨some 34, .append (some 2) 32 (.tmp 21) (.tmp 33), none⟩,
  ⟨some 5, .move (.tmp 34), none⟩] [(0, 1), (0, 1), (0, 1), (0, 1), (0, 1), (0, 0), (0, 0), (0, 0), (0, 0), (0, 0), (0, 0), (1, 1), (1, 1), (1, 1), (2, 2)]))
 (.reg [⟨some 19, .move (.tmp 6), none⟩,
  ⟨some 20, .bin .add (.tmp 19) (.cst (.int .i64 1)), none⟩,
  ⟨some 6, .move (.tmp 20), none⟩]))
/- tollhouse/tollhouseref06.Encode -/
def F13 : AFn := ⟨50, true, 1, [.tmp 2, .tmp 3], .seq
 (.reg [⟨some 1, .boxI (.tmp 0), none⟩,
  ⟨some 2, .move (.cst .nil), none⟩,
  ⟨some 3, .move (.cst (.int .i64 0)), none⟩])
 (.seq
 (.seq
 (.reg [⟨some 9, .load (some 137) (.tmp 1), none⟩,
  ⟨some 10, .call (.cst (.func (.func 17) [] [])) [(.tmp 9)], none⟩,
  ⟨some 11, .un .not (.tmp 10), none⟩])
 (.cond (.tmp 11)
 (.seq
 (.reg [⟨some 2, .move (.cst .nil), none⟩,
  ⟨some 3, .move (.cst (.int .i64 1)), none⟩])
 (.ret))
 (.skip)))
 (.seq
 (.reg [⟨some 12, .fieldAddr 0 1 (.tmp 1), none⟩,
  ⟨some 13, .load none (.tmp 12), none⟩,
  ⟨some 14, .call (.cst (.func (.func 25) [] [])) [(.tmp 13)], none⟩,
  ⟨some 4, .move (.tmp 14), none⟩])
 (.seq
 (.reg [⟨some 5, .acc (some 2) (.cst .nil), none⟩])
 (.seq
 (.seq
 (.reg [⟨some 6, .move (.cst (.int .i64 0)), none⟩])
 (.block 0
 (.loop [1, 4, 5, 6] false L13_0)))
 (.seq
 (.reg [⟨some 36, .move (.tmp 5), none⟩,
  ⟨some 37, .call (.cst (.func (.func 28) [] [])) [(.tmp 36)], none⟩,
  ⟨some 35, .move (.tmp 37), none⟩,
  ⟨some 38, .extract (.tmp 35) 0, none⟩,
  ⟨some 39, .extract (.tmp 35) 1, none⟩,
  ⟨some 7, .move (.tmp 38), none⟩,
  ⟨some 8, .move (.tmp 39), none⟩])
 (.seq
 (.reg [⟨some 40, .fieldAddr 0 1 (.tmp 1), none⟩,
  ⟨some 41, .load none (.tmp 40), none⟩,
  ⟨some 42, .bin .shr (.tmp 41) (.cst (.int .u64 8)), none⟩,
  ⟨some 43, .convInt .u8 (.tmp 42), none⟩,
  ⟨some 44, .fieldAddr 0 1 (.tmp 1), none⟩,
  ⟨some 45, .load none (.tmp 44), none⟩,
  ⟨some 46, .convInt .u8 (.tmp 45), none⟩,
  ⟨some 47, .buildSlice none (.int .u8 0) 2 [(0, (.tmp 43)), (1, (.tmp 46))], none⟩,
  ⟨some 48, .move (.tmp 7), none⟩,
  ⟨some 49, .append none 1 (.tmp 47) (.tmp 48), none⟩,
  ⟨some 2, .move (.tmp 49), none⟩,
  ⟨some 3, .move (.cst (.int .i64 0)), none⟩])
 (.ret)))))))⟩
theorem c13 : compF Try.prog gl true [(5, (some 2)), (1, (some 0))] [([1, 4, 5, 6], false)] Try.f13 = some F13 := by kernel_rfl
def L14_0 : AC := .seq
 (.reg [⟨some 56, .bin .lss (.tmp 55) (.tmp 54), none⟩])
 (.seq
 (.cond (.tmp 56)
 (.skip)
 (.exit 2))
 (.seq
 (.block 3
 (.seq
 (.reg [⟨some 57, .indexAddr .slice (some 2) (.tmp 53) (.tmp 55), none⟩,
  ⟨some 58, .load (some 2) (.tmp 57), none⟩,
  ⟨some 9, .alloc [(.int .u64 0), .nil], none⟩,
  ⟨none, .store 2 (.tmp 9) (.tmp 58), none⟩])
 (.regD [⟨some 59, .move (.tmp 7), none⟩,
  ⟨some 60, .fieldAddr 0 1 (.tmp 9), none⟩,
  ⟨some 61, .load none (.tmp 60), none⟩,
  ⟨some 62, .call (.cst (.func (.func 30) [] [])) [(.tmp 59), (.tmp 61)], none⟩,
  ⟨some 63, .fieldAddr 1 1 (.tmp 9), none⟩,
  ⟨some 64, .load none (.tmp 63), none⟩,
  ⟨some 65, .len (.tmp 64), none⟩,
  ⟨some 66, .convInt .u64 (.tmp 65), none⟩,
  ⟨some 67, .call (.cst (.func (.func 30) [] [])) [(.tmp 62), (.tmp 66)], none⟩,
  ⟨some 68, .fieldAddr 1 1 (.tmp 9), none⟩,
  ⟨some 69, .load none (.tmp 68), none⟩,
  ⟨some 70, .append none 1 (.tmp 67) (.tmp 69), none⟩,
  ⟨some 7, .move (.tmp 70), none⟩] [(0, 0), (0, 0), (0, 0), (0, 0), (0, 1), (0, 1), (0, 1), (0, 1), (1, 1), (0, 2), (0, 2), (2, 2), (3, 3)])))
 (.reg [⟨some 71, .bin .add (.tmp 55) (.cst (.int .i64 1)), none⟩,
  ⟨some 55, .move (.tmp 71), none⟩])))
def L14_1 : AC := .seq
 (.reg [⟨some 13, .bin .lss (.tmp 12) (.tmp 11), none⟩])
 (.seq
 (.cond (.tmp 13)
 (.skip)
 (.exit 0))
 (.seq
 (.block 1
 (.seq
 (.reg [⟨some 14, .move (.tmp 12), none⟩,
  ⟨some 15, .indexAddr .slice (some 2) (.tmp 10) (.tmp 12), none⟩,
  ⟨some 16, .load (some 2) (.tmp 15), none⟩,
  ⟨some 6, .alloc [(.int .u64 0), .nil], none⟩,
  ⟨some 5, .move (.tmp 14), none⟩,
  ⟨none, .store 2 (.tmp 6) (.tmp 16), none⟩])
 (.seq
 (.seq
 (.regQ [⟨some 17, .move (.tmp 5), none⟩,
  ⟨some 18, .bin .gtr (.tmp 17) (.cst (.int .i64 0)), none⟩,
  ⟨some 19, .move (.tmp 18), none⟩,
  ⟨some 20, .fieldAddr 0 1 (.tmp 6), some (19, true)⟩,
  ⟨some 21, .load none (.tmp 20), some (19, true)⟩,
  ⟨some 22, .move (.tmp 0), some (19, true)⟩,
  ⟨some 23, .move (.tmp 5), some (19, true)⟩,
  ⟨some 24, .bin .sub (.tmp 23) (.cst (.int .i64 1)), some (19, true)⟩,
  ⟨some 25, .indexAddr .slice (some 2) (.tmp 22) (.tmp 24), some (19, true)⟩,
  ⟨some 26, .fieldAddr 0 1 (.tmp 25), some (19, true)⟩,
  ⟨some 27, .load none (.tmp 26), some (19, true)⟩,
  ⟨some 28, .bin .leq (.tmp 21) (.tmp 27), some (19, true)⟩,
  ⟨some 29, .pick (.tmp 19) (.tmp 28) (.cst (.bool false)), none⟩])
 (.cond (.tmp 29)
 (.seq
 (.reg [⟨some 2, .move (.cst .nil), none⟩,
  ⟨some 3, .move (.cst (.int .i64 11)), none⟩])
 (.ret))
 (.skip)))
 (.regD [⟨some 30, .move (.tmp 4), none⟩,
  ⟨some 31, .fieldAddr 0 1 (.tmp 6), none⟩,
  ⟨some 32, .load none (.tmp 31), none⟩,
  ⟨some 33, .call (.cst (.func (.func 29) [] [])) [(.tmp 32)], none⟩,
  ⟨some 34, .fieldAddr 1 1 (.tmp 6), none⟩,
  ⟨some 35, .load none (.tmp 34), none⟩,
  ⟨some 36, .len (.tmp 35), none⟩,
  ⟨some 37, .convInt .u64 (.tmp 36), none⟩,
  ⟨some 38, .call (.cst (.func (.func 29) [] [])) [(.tmp 37)], none⟩,
  ⟨some 39, .bin .add (.tmp 33) (.tmp 38), none⟩,
  ⟨some 40, .fieldAddr 1 1 (.tmp 6), none⟩,
  ⟨some 41, .load none (.tmp 40), none⟩,
  ⟨some 42, .len (.tmp 41), none⟩,
  ⟨some 43, .bin .add (.tmp 39) (.tmp 42), none⟩,
  ⟨some 44, .bin .add (.tmp 30) (.tmp 43), none⟩,
  ⟨some 4, .move (.tmp 44), none⟩] [(0, 2), (0, 0), (0, 0), (0, 0), (0, 1), (0, 1), (0, 1), (0, 1), (1, 1), (2, 2), (0, 2), (0, 2), (0, 2), (2, 2), (2, 2), (2, 2)]))))
 (.reg [⟨some 45, .bin .add (.tmp 12) (.cst (.int .i64 1)), none⟩,
  ⟨some 12, .move (.tmp 45), none⟩])))
/- tollhouse/bigsize.Encode -/
def F14 : AFn := ⟨73, true, 1, [.tmp 2, .tmp 3], .seq
 (.reg [⟨some 2, .move (.cst .nil), none⟩,
  ⟨some 3, .move (.cst (.int .i64 0)), none⟩])
 (.seq
 (.reg [⟨some 4, .move (.cst (.int .i64 0)), none⟩])
 (.seq
 (.seq
 (.reg [⟨some 10, .move (.tmp 0), none⟩,
  ⟨some 11, .len (.tmp 10), none⟩,
  ⟨some 12, .move (.cst (.int .i64 0)), none⟩])
 (.block 0
 (.loop [0, 4, 10, 11, 12] false L14_1)))
 (.seq
 (.seq
 (.reg [⟨some 46, .move (.tmp 0), none⟩,
  ⟨some 47, .len (.tmp 46), none⟩,
  ⟨some 48, .bin .gtr (.tmp 47) (.cst (.int .i64 64)), none⟩,
  ⟨some 49, .move (.tmp 48), none⟩,
  ⟨some 50, .move (.tmp 4), some (49, false)⟩,
  ⟨some 51, .bin .gtr (.tmp 50) (.cst (.int .i64 65536)), some (49, false)⟩,
  ⟨some 52, .pick (.tmp 49) (.cst (.bool true)) (.tmp 51), none⟩])
 (.cond (.tmp 52)
 (.seq
 (.reg [⟨some 2, .move (.cst .nil), none⟩,
  ⟨some 3, .move (.cst (.int .i64 3)), none⟩])
 (.ret))
 (.skip)))
 (.seq
 (.reg [⟨some 7, .move (.cst .nil), none⟩])
 (.seq
 (.seq
 (.reg [⟨some 53, .move (.tmp 0), none⟩,
  ⟨some 54, .len (.tmp 53), none⟩,
  ⟨some 55, .move (.cst (.int .i64 0)), none⟩])
 (.block 2
 (.loop [7, 53, 54, 55] false L14_0)))
 (.seq
 (.reg [⟨some 72, .move (.tmp 7), none⟩,
  ⟨some 2, .move (.tmp 72), none⟩,
  ⟨some 3, .move (.cst (.int .i64 0)), none⟩])
 (.ret)))))))⟩
theorem c14 : compF Try.prog gl true [] [([0, 4, 10, 11, 12], false), ([7, 53, 54, 55], false)] Try.f14 = some F14 := by kernel_rfl
def L15_0 : AC := .seq
 (.reg [⟨some 17, .bin .lss (.tmp 16) (.tmp 15), none⟩])
 (.seq
 (.cond (.tmp 17)
 (.skip)
 (.exit 0))
 (.seq
 (.block 1
 (.seq
 (.reg [⟨some 18, .indexAddr .slice none (.tmp 14) (.tmp 16), none⟩,
  ⟨some 19, .load none (.tmp 18), none⟩,
  ⟨some 6, .move (.tmp 19), none⟩])
 (.reg [⟨some 20, .move (.tmp 4), none⟩,
  ⟨some 21, .move (.tmp 6), none⟩,
  ⟨some 22, .move (.tmp 6), none⟩,
  ⟨some 23, .call (.cst (.func (.func 31) [] [])) [(.tmp 1), (.tmp 22)], none⟩,
  ⟨some 24, .build [(.int .u64 0), .nil] [(0, 1, (.tmp 21)), (1, 1, (.tmp 23))], none⟩,
  ⟨some 25, .buildSlice (some 2) (.agg [(.int .u64 0), .nil]) 1 [(0, (.tmp 24))], none⟩,
  ⟨some 26, .append (some 2) 32 (.tmp 20) (.tmp 25), none⟩,
  ⟨some 4, .move (.tmp 26), none⟩])))
 (.reg [⟨some 27, .bin .add (.tmp 16) (.cst (.int .i64 1)), none⟩,
  ⟨some 16, .move (.tmp 27), none⟩])))
/- tollhouse/wire.Encode -/
def F15 : AFn := ⟨46, true, 1, [.tmp 2, .tmp 3], .seq
 (.reg [⟨some 1, .boxI (.tmp 0), none⟩,
  ⟨some 2, .move (.cst .nil), none⟩,
  ⟨some 3, .move (.cst (.int .i64 0)), none⟩])
 (.seq
 (.seq
 (.reg [⟨some 9, .load (some 137) (.tmp 1), none⟩,
  ⟨some 10, .call (.cst (.func (.func 16) [] [])) [(.tmp 9)], none⟩,
  ⟨some 11, .un .not (.tmp 10), none⟩])
 (.cond (.tmp 11)
 (.seq
 (.reg [⟨some 2, .move (.cst .nil), none⟩,
  ⟨some 3, .move (.cst (.int .i64 1)), none⟩])
 (.ret))
 (.skip)))
 (.seq
 (.reg [⟨some 4, .acc (some 2) (.cst .nil), none⟩])
 (.seq
 (.seq
 (.reg [⟨some 12, .fieldAddr 0 1 (.tmp 1), none⟩,
  ⟨some 13, .load none (.tmp 12), none⟩,
  ⟨some 14, .call (.cst (.func (.func 20) [] [])) [(.tmp 13)], none⟩,
  ⟨some 15, .len (.tmp 14), none⟩,
  ⟨some 16, .move (.cst (.int .i64 0)), none⟩])
 (.block 0
 (.loop [1, 4, 14, 15, 16] false L15_0)))
 (.seq
 (.reg [⟨some 29, .move (.tmp 4), none⟩,
  ⟨some 30, .call (.cst (.func (.func 14) [] [])) [(.tmp 29)], none⟩,
  ⟨some 28, .move (.tmp 30), none⟩,
  ⟨some 31, .extract (.tmp 28) 0, none⟩,
  ⟨some 32, .extract (.tmp 28) 1, none⟩,
  ⟨some 7, .move (.tmp 31), none⟩,
  ⟨some 8, .move (.tmp 32), none⟩])
 (.seq
 (.seq
 (.reg [⟨some 33, .move (.tmp 8), none⟩,
  ⟨some 34, .bin .neq (.tmp 33) (.cst (.int .i64 0)), none⟩])
 (.cond (.tmp 34)
 (.seq
 (.reg [⟨some 35, .move (.tmp 8), none⟩,
  ⟨some 2, .move (.cst .nil), none⟩,
  ⟨some 3, .move (.tmp 35), none⟩])
 (.ret))
 (.skip)))
 (.seq
 (.reg [⟨some 36, .fieldAddr 0 1 (.tmp 1), none⟩,
  ⟨some 37, .load none (.tmp 36), none⟩,
  ⟨some 38, .bin .shr (.tmp 37) (.cst (.int .u64 8)), none⟩,
  ⟨some 39, .convInt .u8 (.tmp 38), none⟩,
  ⟨some 40, .fieldAddr 0 1 (.tmp 1), none⟩,
  ⟨some 41, .load none (.tmp 40), none⟩,
  ⟨some 42, .convInt .u8 (.tmp 41), none⟩,
  ⟨some 43, .buildSlice none (.int .u8 0) 2 [(0, (.tmp 39)), (1, (.tmp 42))], none⟩,
  ⟨some 44, .move (.tmp 7), none⟩,
  ⟨some 45, .append none 1 (.tmp 43) (.tmp 44), none⟩,
  ⟨some 2, .move (.tmp 45), none⟩,
  ⟨some 3, .move (.cst (.int .i64 0)), none⟩])
 (.ret)))))))⟩
theorem c15 : compF Try.prog gl true [(4, (some 2)), (1, (some 0))] [([1, 4, 14, 15, 16], false)] Try.f15 = some F15 := by kernel_rfl
/- tollhouse/wire.May -/
def F16 : AFn := ⟨67, true, 1, [.tmp 2], .seq
 (.reg [⟨some 1, .boxI (.tmp 0), none⟩,
  ⟨some 2, .move (.cst (.bool false)), none⟩])
 (.seq
 (.reg [⟨some 3, .move (.cst (.func (.func 32) [] [])), none⟩])
 (.seq
 (.block 0
 (.seq
 (.reg [⟨some 5, .fieldAddr 0 1 (.tmp 1), none⟩,
  ⟨some 6, .load none (.tmp 5), none⟩,
  ⟨some 7, .call (.cst (.func (.func 20) [] [])) [(.tmp 6)], none⟩,
  ⟨some 8, .eqNil false .slice (.tmp 7), none⟩,
  ⟨some 9, .move (.tmp 8), none⟩,
  ⟨some 10, .load (some 137) (.tmp 1), some (9, false)⟩,
  ⟨some 11, .call (.cst (.func (.func 33) [] [])) [(.tmp 10)], some (9, false)⟩,
  ⟨some 12, .un .not (.tmp 11), some (9, false)⟩,
  ⟨some 13, .pick (.tmp 9) (.cst (.bool true)) (.tmp 12), none⟩,
  ⟨some 4, .move (.tmp 13), none⟩])
 (.cond (.tmp 4)
 (.seq
 (.reg [⟨some 2, .move (.cst (.bool false)), none⟩])
 (.ret))
 (.seq
 (.reg [⟨some 15, .move (.tmp 3), none⟩,
  ⟨some 16, .fieldAddr 1 1 (.tmp 1), none⟩,
  ⟨some 17, .load none (.tmp 16), none⟩,
  ⟨some 18, .call (.tmp 15) [(.tmp 17), (.cst (.int .i64 1)), (.cst (.int .i64 65535))], none⟩,
  ⟨some 19, .un .not (.tmp 18), none⟩,
  ⟨some 20, .move (.tmp 19), none⟩,
  ⟨some 21, .move (.tmp 3), some (20, false)⟩,
  ⟨some 22, .fieldAddr 2 1 (.tmp 1), some (20, false)⟩,
  ⟨some 23, .load none (.tmp 22), some (20, false)⟩,
  ⟨some 24, .call (.tmp 21) [(.tmp 23), (.cst (.int .i64 0)), (.cst (.int .i64 2147483647))], some (20, false)⟩,
  ⟨some 25, .un .not (.tmp 24), some (20, false)⟩,
  ⟨some 26, .pick (.tmp 20) (.cst (.bool true)) (.tmp 25), none⟩,
  ⟨some 27, .move (.tmp 26), none⟩,
  ⟨some 28, .fieldAddr 3 1 (.tmp 1), some (27, false)⟩,
  ⟨some 29, .load none (.tmp 28), some (27, false)⟩,
  ⟨some 30, .bin .lss (.tmp 29) (.cst (.int .i64 0)), some (27, false)⟩,
  ⟨some 31, .pick (.tmp 27) (.cst (.bool true)) (.tmp 30), none⟩,
  ⟨some 32, .move (.tmp 31), none⟩,
  ⟨some 33, .move (.tmp 3), some (32, false)⟩,
  ⟨some 34, .fieldAddr 4 1 (.tmp 1), some (32, false)⟩,
  ⟨some 35, .load none (.tmp 34), some (32, false)⟩,
  ⟨some 36, .call (.tmp 33) [(.tmp 35), (.cst (.int .i64 0)), (.cst (.int .i64 2147483647))], some (32, false)⟩,
  ⟨some 37, .un .not (.tmp 36), some (32, false)⟩,
  ⟨some 38, .pick (.tmp 32) (.cst (.bool true)) (.tmp 37), none⟩,
  ⟨some 14, .move (.tmp 38), none⟩])
 (.cond (.tmp 14)
 (.seq
 (.reg [⟨some 2, .move (.cst (.bool false)), none⟩])
 (.ret))
 (.seq
 (.reg [⟨some 40, .move (.tmp 3), none⟩,
  ⟨some 41, .fieldAddr 134 1 (.tmp 1), none⟩,
  ⟨some 42, .load none (.tmp 41), none⟩,
  ⟨some 43, .call (.tmp 40) [(.tmp 42), (.cst (.int .i64 0)), (.cst (.int .i64 2147483647))], none⟩,
  ⟨some 44, .un .not (.tmp 43), none⟩,
  ⟨some 45, .move (.tmp 44), none⟩,
  ⟨some 46, .move (.tmp 3), some (45, false)⟩,
  ⟨some 47, .fieldAddr 135 1 (.tmp 1), some (45, false)⟩,
  ⟨some 48, .load none (.tmp 47), some (45, false)⟩,
  ⟨some 49, .call (.tmp 46) [(.tmp 48), (.cst (.int .i64 0)), (.cst (.int .i64 2147483647))], some (45, false)⟩,
  ⟨some 50, .un .not (.tmp 49), some (45, false)⟩,
  ⟨some 51, .pick (.tmp 45) (.cst (.bool true)) (.tmp 50), none⟩,
  ⟨some 52, .move (.tmp 51), none⟩,
  ⟨some 53, .fieldAddr 136 1 (.tmp 1), some (52, false)⟩,
  ⟨some 54, .load none (.tmp 53), some (52, false)⟩,
  ⟨some 55, .len (.tmp 54), some (52, false)⟩,
  ⟨some 56, .bin .gtr (.tmp 55) (.cst (.int .i64 256)), some (52, false)⟩,
  ⟨some 57, .pick (.tmp 52) (.cst (.bool true)) (.tmp 56), none⟩,
  ⟨some 39, .move (.tmp 57), none⟩])
 (.cond (.tmp 39)
 (.seq
 (.reg [⟨some 2, .move (.cst (.bool false)), none⟩])
 (.ret))
 (.skip))))))))
 (.seq
 (.reg [⟨some 58, .fieldAddr 0 1 (.tmp 1), none⟩,
  ⟨some 59, .load none (.tmp 58), none⟩,
  ⟨some 60, .bin .neq (.tmp 59) (.cst (.int .i64 1)), none⟩,
  ⟨some 61, .move (.tmp 60), none⟩,
  ⟨some 62, .fieldAddr 37 1 (.tmp 1), some (61, false)⟩,
  ⟨some 63, .load none (.tmp 62), some (61, false)⟩,
  ⟨some 64, .len (.tmp 63), some (61, false)⟩,
  ⟨some 65, .bin .eql (.tmp 64) (.cst (.int .i64 2112)), some (61, false)⟩,
  ⟨some 66, .pick (.tmp 61) (.cst (.bool true)) (.tmp 65), none⟩,
  ⟨some 2, .move (.tmp 66), none⟩])
 (.ret))))⟩
theorem c16 : compF Try.prog gl true [(1, (some 0))] [] Try.f16 = some F16 := by kernel_rfl
/- tollhouse/tollhouseref06.May -/
def F17 : AFn := ⟨83, true, 1, [.tmp 2], .seq
 (.reg [⟨some 1, .boxI (.tmp 0), none⟩,
  ⟨some 2, .move (.cst (.bool false)), none⟩])
 (.seq
 (.seq
 (.regD [⟨some 3, .fieldAddr 0 1 (.tmp 1), none⟩,
  ⟨some 4, .load none (.tmp 3), none⟩,
  ⟨some 5, .call (.cst (.func (.func 25) [] [])) [(.tmp 4)], none⟩,
  ⟨some 6, .len (.tmp 5), none⟩,
  ⟨some 7, .bin .eql (.tmp 6) (.cst (.int .i64 0)), none⟩,
  ⟨some 8, .move (.tmp 7), none⟩,
  ⟨some 9, .load (some 137) (.tmp 1), some (8, false)⟩,
  ⟨some 10, .load (some 137) (.tmp 1), some (8, false)⟩,
  ⟨some 11, .call (.cst (.func (.func 19) [] [])) [(.tmp 10)], some (8, false)⟩,
  ⟨some 12, .call (.cst (.func (.func 12) [] [])) [(.tmp 9), (.tmp 11)], some (8, false)⟩,
  ⟨some 13, .un .not (.tmp 12), some (8, false)⟩,
  ⟨some 14, .pick (.tmp 8) (.cst (.bool true)) (.tmp 13), none⟩] [(0, 0), (0, 0), (0, 0), (1, 1), (1, 1), (1, 1), (1, 2), (1, 1), (1, 1), (2, 2), (3, 3), (3, 3)])
 (.cond (.tmp 14)
 (.seq
 (.reg [⟨some 2, .move (.cst (.bool false)), none⟩])
 (.ret))
 (.skip)))
 (.seq
 (.seq
 (.reg [⟨some 15, .fieldAddr 1 1 (.tmp 1), none⟩,
  ⟨some 16, .load none (.tmp 15), none⟩,
  ⟨some 17, .bin .lss (.tmp 16) (.cst (.int .i64 1)), none⟩,
  ⟨some 18, .move (.tmp 17), none⟩,
  ⟨some 19, .fieldAddr 1 1 (.tmp 1), some (18, false)⟩,
  ⟨some 20, .load none (.tmp 19), some (18, false)⟩,
  ⟨some 21, .bin .gtr (.tmp 20) (.cst (.int .i64 65535)), some (18, false)⟩,
  ⟨some 22, .pick (.tmp 18) (.cst (.bool true)) (.tmp 21), none⟩,
  ⟨some 23, .move (.tmp 22), none⟩,
  ⟨some 24, .fieldAddr 2 1 (.tmp 1), some (23, false)⟩,
  ⟨some 25, .load none (.tmp 24), some (23, false)⟩,
  ⟨some 26, .bin .lss (.tmp 25) (.cst (.int .i64 0)), some (23, false)⟩,
  ⟨some 27, .pick (.tmp 23) (.cst (.bool true)) (.tmp 26), none⟩,
  ⟨some 28, .move (.tmp 27), none⟩,
  ⟨some 29, .fieldAddr 2 1 (.tmp 1), some (28, false)⟩,
  ⟨some 30, .load none (.tmp 29), some (28, false)⟩,
  ⟨some 31, .bin .gtr (.tmp 30) (.cst (.int .i64 2147483647)), some (28, false)⟩,
  ⟨some 32, .pick (.tmp 28) (.cst (.bool true)) (.tmp 31), none⟩,
  ⟨some 33, .move (.tmp 32), none⟩,
  ⟨some 34, .fieldAddr 3 1 (.tmp 1), some (33, false)⟩,
  ⟨some 35, .load none (.tmp 34), some (33, false)⟩,
  ⟨some 36, .bin .lss (.tmp 35) (.cst (.int .i64 0)), some (33, false)⟩,
  ⟨some 37, .pick (.tmp 33) (.cst (.bool true)) (.tmp 36), none⟩,
  ⟨some 38, .move (.tmp 37), none⟩,
  ⟨some 39, .fieldAddr 4 1 (.tmp 1), some (38, false)⟩,
  ⟨some 40, .load none (.tmp 39), some (38, false)⟩,
  ⟨some 41, .bin .lss (.tmp 40) (.cst (.int .i64 0)), some (38, false)⟩,
  ⟨some 42, .pick (.tmp 38) (.cst (.bool true)) (.tmp 41), none⟩,
  ⟨some 43, .move (.tmp 42), none⟩,
  ⟨some 44, .fieldAddr 4 1 (.tmp 1), some (43, false)⟩,
  ⟨some 45, .load none (.tmp 44), some (43, false)⟩,
  ⟨some 46, .bin .gtr (.tmp 45) (.cst (.int .i64 2147483647)), some (43, false)⟩,
  ⟨some 47, .pick (.tmp 43) (.cst (.bool true)) (.tmp 46), none⟩,
  ⟨some 48, .move (.tmp 47), none⟩,
  ⟨some 49, .fieldAddr 134 1 (.tmp 1), some (48, false)⟩,
  ⟨some 50, .load none (.tmp 49), some (48, false)⟩,
  ⟨some 51, .bin .lss (.tmp 50) (.cst (.int .i64 0)), some (48, false)⟩,
  ⟨some 52, .pick (.tmp 48) (.cst (.bool true)) (.tmp 51), none⟩,
  ⟨some 53, .move (.tmp 52), none⟩,
  ⟨some 54, .fieldAddr 134 1 (.tmp 1), some (53, false)⟩,
  ⟨some 55, .load none (.tmp 54), some (53, false)⟩,
  ⟨some 56, .bin .gtr (.tmp 55) (.cst (.int .i64 2147483647)), some (53, false)⟩,
  ⟨some 57, .pick (.tmp 53) (.cst (.bool true)) (.tmp 56), none⟩,
  ⟨some 58, .move (.tmp 57), none⟩,
  ⟨some 59, .fieldAddr 135 1 (.tmp 1), some (58, false)⟩,
  ⟨some 60, .load none (.tmp 59), some (58, false)⟩,
  ⟨some 61, .bin .lss (.tmp 60) (.cst (.int .i64 0)), some (58, false)⟩,
  ⟨some 62, .pick (.tmp 58) (.cst (.bool true)) (.tmp 61), none⟩,
  ⟨some 63, .move (.tmp 62), none⟩,
  ⟨some 64, .fieldAddr 135 1 (.tmp 1), some (63, false)⟩,
  ⟨some 65, .load none (.tmp 64), some (63, false)⟩,
  ⟨some 66, .bin .gtr (.tmp 65) (.cst (.int .i64 2147483647)), some (63, false)⟩,
  ⟨some 67, .pick (.tmp 63) (.cst (.bool true)) (.tmp 66), none⟩,
  ⟨some 68, .move (.tmp 67), none⟩,
  ⟨some 69, .fieldAddr 136 1 (.tmp 1), some (68, false)⟩,
  ⟨some 70, .load none (.tmp 69), some (68, false)⟩,
  ⟨some 71, .len (.tmp 70), some (68, false)⟩,
  ⟨some 72, .bin .gtr (.tmp 71) (.cst (.int .i64 256)), some (68, false)⟩,
  ⟨some 73, .pick (.tmp 68) (.cst (.bool true)) (.tmp 72), none⟩])
 (.cond (.tmp 73)
 (.seq
 (.reg [⟨some 2, .move (.cst (.bool false)), none⟩])
 (.ret))
 (.skip)))
 (.seq
 (.reg [⟨some 74, .fieldAddr 0 1 (.tmp 1), none⟩,
  ⟨some 75, .load none (.tmp 74), none⟩,
  ⟨some 76, .bin .neq (.tmp 75) (.cst (.int .i64 1)), none⟩,
  ⟨some 77, .move (.tmp 76), none⟩,
  ⟨some 78, .fieldAddr 37 1 (.tmp 1), some (77, false)⟩,
  ⟨some 79, .load none (.tmp 78), some (77, false)⟩,
  ⟨some 80, .len (.tmp 79), some (77, false)⟩,
  ⟨some 81, .bin .eql (.tmp 80) (.cst (.int .i64 2112)), some (77, false)⟩,
  ⟨some 82, .pick (.tmp 77) (.cst (.bool true)) (.tmp 81), none⟩,
  ⟨some 2, .move (.tmp 82), none⟩])
 (.ret))))⟩
theorem c17 : compF Try.prog gl true [(1, (some 0))] [] Try.f17 = some F17 := by kernel_rfl
def L18_0 : AC := .seq
 (.reg [⟨some 14, .bin .lss (.tmp 13) (.tmp 12), none⟩])
 (.seq
 (.cond (.tmp 14)
 (.skip)
 (.exit 0))
 (.seq
 (.block 1
 (.seq
 (.reg [⟨some 15, .indexAddr .slice none (.tmp 11) (.tmp 13), none⟩,
  ⟨some 16, .load none (.tmp 15), none⟩,
  ⟨some 5, .move (.tmp 16), none⟩])
 (.block 2
 (.seq
 (.reg [⟨some 26, .move (.tmp 5), none⟩,
  ⟨some 27, .call (.cst (.func (.func 34) [] [])) [(.tmp 1), (.tmp 26)], none⟩,
  ⟨some 28, .eqNil true .ptr (.tmp 27), none⟩,
  ⟨some 25, .move (.tmp 28), none⟩])
 (.cond (.tmp 25)
 (.reg [⟨some 29, .move (.tmp 5), none⟩,
  ⟨some 30, .call (.cst (.func (.func 34) [] [])) [(.tmp 3), (.tmp 29)], none⟩,
  ⟨some 31, .move (.tmp 5), none⟩,
  ⟨some 32, .call (.cst (.func (.func 34) [] [])) [(.tmp 1), (.tmp 31)], none⟩,
  ⟨some 33, .nilCheck (.tmp 32), none⟩,
  ⟨some 34, .load none (.tmp 33), none⟩,
  ⟨some 35, .nilCheck (.tmp 30), none⟩,
  ⟨none, .store 1 (.tmp 35) (.tmp 34), none⟩])
 (.seq
 (.reg [⟨some 37, .move (.tmp 5), none⟩,
  ⟨some 38, .call (.cst (.func (.func 35) [] [])) [(.tmp 1), (.tmp 37)], none⟩,
  ⟨some 39, .eqNil true .ptr (.tmp 38), none⟩,
  ⟨some 36, .move (.tmp 39), none⟩])
 (.cond (.tmp 36)
 (.reg [⟨some 40, .move (.tmp 5), none⟩,
  ⟨some 41, .call (.cst (.func (.func 35) [] [])) [(.tmp 3), (.tmp 40)], none⟩,
  ⟨some 42, .move (.tmp 5), none⟩,
  ⟨some 43, .call (.cst (.func (.func 35) [] [])) [(.tmp 1), (.tmp 42)], none⟩,
  ⟨some 44, .nilCheck (.tmp 43), none⟩,
  ⟨some 45, .load (some 32) (.tmp 44), none⟩,
  ⟨some 46, .nilCheck (.tmp 41), none⟩,
  ⟨none, .store 32 (.tmp 46) (.tmp 45), none⟩])
 (.reg [⟨some 17, .move (.tmp 5), none⟩,
  ⟨some 18, .call (.cst (.func (.func 37) [] [])) [(.tmp 3), (.tmp 17)], none⟩,
  ⟨some 19, .move (.tmp 5), none⟩,
  ⟨some 20, .call (.cst (.func (.func 37) [] [])) [(.tmp 1), (.tmp 19)], none⟩,
  ⟨some 21, .nilCheck (.tmp 20), none⟩,
  ⟨some 22, .load none (.tmp 21), none⟩,
  ⟨some 23, .call (.cst (.func (.func 36) [] [])) [(.tmp 22)], none⟩,
  ⟨some 24, .nilCheck (.tmp 18), none⟩,
  ⟨none, .store 1 (.tmp 24) (.tmp 23), none⟩]))))))))
 (.reg [⟨some 47, .bin .add (.tmp 13) (.cst (.int .i64 1)), none⟩,
  ⟨some 13, .move (.tmp 47), none⟩])))
/- tollhouse/wire.Bare -/
def F18 : AFn := ⟨49, true, 1, [.cell 2 (some 137)], .seq
 (.reg [⟨some 1, .boxI (.tmp 0), none⟩,
  ⟨some 2, .alloc [(.int .i64 0), (.int .i64 0), (.int .i64 0), (.int .i64 0), (.int .i64 0), (.int .u8 0), (.int .u8 0), (.int .u8 0), (.int .u8 0), (.int .u8 0), (.int .u8 0), (.int .u8 0), (.int .u8 0), (.int .u8 0), (.int .u8 0), (.int .u8 0), (.int .u8 0), (.int .u8 0), (.int .u8 0), (.int .u8 0), (.int .u8 0), (.int .u8 0), (.int .u8 0), (.int .u8 0), (.int .u8 0), (.int .u8 0), (.int .u8 0), (.int .u8 0), (.int .u8 0), (.int .u8 0), (.int .u8 0), (.int .u8 0), (.int .u8 0), (.int .u8 0), (.int .u8 0), (.int .u8 0), (.int .u8 0), .nil, (.int .u8 0), (.int .u8 0), (.int .u8 0), (.int .u8 0), (.int .u8 0), (.int .u8 0), (.int .u8 0), (.int .u8 0), (.int .u8 0), (.int .u8 0), (.int .u8 0), (.int .u8 0), (.int .u8 0), (.int .u8 0), (.int .u8 0), (.int .u8 0), (.int .u8 0), (.int .u8 0), (.int .u8 0), (.int .u8 0), (.int .u8 0), (.int .u8 0), (.int .u8 0), (.int .u8 0), (.int .u8 0), (.int .u8 0), (.int .u8 0), (.int .u8 0), (.int .u8 0), (.int .u8 0), (.int .u8 0), (.int .u8 0), (.int .u8 0), (.int .u8 0), (.int .u8 0), (.int .u8 0), (.int .u8 0), (.int .u8 0), (.int .u8 0), (.int .u8 0), (.int .u8 0), (.int .u8 0), (.int .u8 0), (.int .u8 0), (.int .u8 0), (.int .u8 0), (.int .u8 0), (.int .u8 0), (.int .u8 0), (.int .u8 0), (.int .u8 0), (.int .u8 0), (.int .u8 0), (.int .u8 0), (.int .u8 0), (.int .u8 0), (.int .u8 0), (.int .u8 0), (.int .u8 0), (.int .u8 0), (.int .u8 0), (.int .u8 0), (.int .u8 0), (.int .u8 0), (.int .u8 0), (.int .u8 0), (.int .u8 0), (.int .u8 0), (.int .u8 0), (.int .u8 0), (.int .u8 0), (.int .u8 0), (.int .u8 0), (.int .u8 0), (.int .u8 0), (.int .u8 0), (.int .u8 0), (.int .u8 0), (.int .u8 0), (.int .u8 0), (.int .u8 0), (.int .u8 0), (.int .u8 0), (.int .u8 0), (.int .u8 0), (.int .u8 0), (.int .u8 0), (.int .u8 0), (.int .u8 0), (.int .u8 0), (.int .u8 0), (.int .u8 0), (.int .u8 0), (.int .u8 0), (.int .u8 0), (.int .u8 0), (.int .i64 0), (.int .i64 0), .nil], none⟩])
 (.seq
 (.reg [⟨some 6, .fieldAddr 0 1 (.tmp 1), none⟩,
  ⟨some 7, .load none (.tmp 6), none⟩,
  ⟨some 8, .build [(.int .i64 0), (.int .i64 0), (.int .i64 0), (.int .i64 0), (.int .i64 0), (.int .u8 0), (.int .u8 0), (.int .u8 0), (.int .u8 0), (.int .u8 0), (.int .u8 0), (.int .u8 0), (.int .u8 0), (.int .u8 0), (.int .u8 0), (.int .u8 0), (.int .u8 0), (.int .u8 0), (.int .u8 0), (.int .u8 0), (.int .u8 0), (.int .u8 0), (.int .u8 0), (.int .u8 0), (.int .u8 0), (.int .u8 0), (.int .u8 0), (.int .u8 0), (.int .u8 0), (.int .u8 0), (.int .u8 0), (.int .u8 0), (.int .u8 0), (.int .u8 0), (.int .u8 0), (.int .u8 0), (.int .u8 0), .nil, (.int .u8 0), (.int .u8 0), (.int .u8 0), (.int .u8 0), (.int .u8 0), (.int .u8 0), (.int .u8 0), (.int .u8 0), (.int .u8 0), (.int .u8 0), (.int .u8 0), (.int .u8 0), (.int .u8 0), (.int .u8 0), (.int .u8 0), (.int .u8 0), (.int .u8 0), (.int .u8 0), (.int .u8 0), (.int .u8 0), (.int .u8 0), (.int .u8 0), (.int .u8 0), (.int .u8 0), (.int .u8 0), (.int .u8 0), (.int .u8 0), (.int .u8 0), (.int .u8 0), (.int .u8 0), (.int .u8 0), (.int .u8 0), (.int .u8 0), (.int .u8 0), (.int .u8 0), (.int .u8 0), (.int .u8 0), (.int .u8 0), (.int .u8 0), (.int .u8 0), (.int .u8 0), (.int .u8 0), (.int .u8 0), (.int .u8 0), (.int .u8 0), (.int .u8 0), (.int .u8 0), (.int .u8 0), (.int .u8 0), (.int .u8 0), (.int .u8 0), (.int .u8 0), (.int .u8 0), (.int .u8 0), (.int .u8 0), (.int .u8 0), (.int .u8 0), (.int .u8 0), (.int .u8 0), (.int .u8 0), (.int .u8 0), (.int .u8 0), (.int .u8 0), (.int .u8 0), (.int .u8 0), (.int .u8 0), (.int .u8 0), (.int .u8 0), (.int .u8 0), (.int .u8 0), (.int .u8 0), (.int .u8 0), (.int .u8 0), (.int .u8 0), (.int .u8 0), (.int .u8 0), (.int .u8 0), (.int .u8 0), (.int .u8 0), (.int .u8 0), (.int .u8 0), (.int .u8 0), (.int .u8 0), (.int .u8 0), (.int .u8 0), (.int .u8 0), (.int .u8 0), (.int .u8 0), (.int .u8 0), (.int .u8 0), (.int .u8 0), (.int .u8 0), (.int .u8 0), (.int .u8 0), (.int .u8 0), (.int .u8 0), (.int .i64 0), (.int .i64 0), .nil] [(0, 1, (.tmp 7))], none⟩,
  ⟨some 3, .alloc [(.int .i64 0), (.int .i64 0), (.int .i64 0), (.int .i64 0), (.int .i64 0), (.int .u8 0), (.int .u8 0), (.int .u8 0), (.int .u8 0), (.int .u8 0), (.int .u8 0), (.int .u8 0), (.int .u8 0), (.int .u8 0), (.int .u8 0), (.int .u8 0), (.int .u8 0), (.int .u8 0), (.int .u8 0), (.int .u8 0), (.int .u8 0), (.int .u8 0), (.int .u8 0), (.int .u8 0), (.int .u8 0), (.int .u8 0), (.int .u8 0), (.int .u8 0), (.int .u8 0), (.int .u8 0), (.int .u8 0), (.int .u8 0), (.int .u8 0), (.int .u8 0), (.int .u8 0), (.int .u8 0), (.int .u8 0), .nil, (.int .u8 0), (.int .u8 0), (.int .u8 0), (.int .u8 0), (.int .u8 0), (.int .u8 0), (.int .u8 0), (.int .u8 0), (.int .u8 0), (.int .u8 0), (.int .u8 0), (.int .u8 0), (.int .u8 0), (.int .u8 0), (.int .u8 0), (.int .u8 0), (.int .u8 0), (.int .u8 0), (.int .u8 0), (.int .u8 0), (.int .u8 0), (.int .u8 0), (.int .u8 0), (.int .u8 0), (.int .u8 0), (.int .u8 0), (.int .u8 0), (.int .u8 0), (.int .u8 0), (.int .u8 0), (.int .u8 0), (.int .u8 0), (.int .u8 0), (.int .u8 0), (.int .u8 0), (.int .u8 0), (.int .u8 0), (.int .u8 0), (.int .u8 0), (.int .u8 0), (.int .u8 0), (.int .u8 0), (.int .u8 0), (.int .u8 0), (.int .u8 0), (.int .u8 0), (.int .u8 0), (.int .u8 0), (.int .u8 0), (.int .u8 0), (.int .u8 0), (.int .u8 0), (.int .u8 0), (.int .u8 0), (.int .u8 0), (.int .u8 0), (.int .u8 0), (.int .u8 0), (.int .u8 0), (.int .u8 0), (.int .u8 0), (.int .u8 0), (.int .u8 0), (.int .u8 0), (.int .u8 0), (.int .u8 0), (.int .u8 0), (.int .u8 0), (.int .u8 0), (.int .u8 0), (.int .u8 0), (.int .u8 0), (.int .u8 0), (.int .u8 0), (.int .u8 0), (.int .u8 0), (.int .u8 0), (.int .u8 0), (.int .u8 0), (.int .u8 0), (.int .u8 0), (.int .u8 0), (.int .u8 0), (.int .u8 0), (.int .u8 0), (.int .u8 0), (.int .u8 0), (.int .u8 0), (.int .u8 0), (.int .u8 0), (.int .u8 0), (.int .u8 0), (.int .u8 0), (.int .u8 0), (.int .u8 0), (.int .u8 0), (.int .i64 0), (.int .i64 0), .nil], none⟩,
  ⟨none, .store 137 (.tmp 3) (.tmp 8), none⟩])
 (.seq
 (.seq
 (.reg [⟨some 9, .fieldAddr 0 1 (.tmp 1), none⟩,
  ⟨some 10, .load none (.tmp 9), none⟩,
  ⟨some 11, .call (.cst (.func (.func 20) [] [])) [(.tmp 10)], none⟩,
  ⟨some 12, .len (.tmp 11), none⟩,
  ⟨some 13, .move (.cst (.int .i64 0)), none⟩])
 (.block 0
 (.loop [1, 2, 3, 11, 12, 13] false L18_0)))
 (.seq
 (.reg [⟨some 48, .load (some 137) (.tmp 3), none⟩,
  ⟨none, .store 137 (.tmp 2) (.tmp 48), none⟩])
 (.ret))))⟩
theorem c18 : compF Try.prog gl true [(1, (some 0))] [([1, 2, 3, 11, 12, 13], false)] Try.f18 = some F18 := by kernel_rfl
def L19_0 : AC := .seq
 (.seq
 (.reg [⟨some 12, .move (.tmp 5), none⟩,
  ⟨some 13, .move (.tmp 4), none⟩,
  ⟨some 14, .len (.tmp 13), none⟩,
  ⟨some 15, .bin .lss (.tmp 12) (.tmp 14), none⟩])
 (.cond (.tmp 15)
 (.skip)
 (.exit 0)))
 (.seq
 (.block 1
 (.regD [⟨some 18, .load (some 137) (.tmp 3), none⟩,
  ⟨some 19, .load (some 137) (.tmp 1), none⟩,
  ⟨some 20, .move (.tmp 4), none⟩,
  ⟨some 21, .move (.tmp 5), none⟩,
  ⟨some 22, .indexAddr .slice none (.tmp 20) (.tmp 21), none⟩,
  ⟨some 23, .load none (.tmp 22), none⟩,
  ⟨some 24, .call (.cst (.func (.func 38) [] [])) [(.tmp 18), (.tmp 19), (.tmp 23)], none⟩,
  ⟨none, .store 137 (.tmp 3) (.tmp 24), none⟩] [(0, 0), (0, 0), (0, 0), (0, 0), (0, 0), (0, 0), (0, 0), (1, 1)]))
 (.reg [⟨some 16, .move (.tmp 5), none⟩,
  ⟨some 17, .bin .add (.tmp 16) (.cst (.int .i64 1)), none⟩,
  ⟨some 5, .move (.tmp 17), none⟩]))
/- tollhouse/tollhouseref06.Bare -/
def F19 : AFn := ⟨26, true, 1, [.cell 2 (some 137)], .seq
 (.reg [⟨some 1, .boxI (.tmp 0), none⟩,
  ⟨some 2, .alloc [(.int .i64 0), (.int .i64 0), (.int .i64 0), (.int .i64 0), (.int .i64 0), (.int .u8 0), (.int .u8 0), (.int .u8 0), (.int .u8 0), (.int .u8 0), (.int .u8 0), (.int .u8 0), (.int .u8 0), (.int .u8 0), (.int .u8 0), (.int .u8 0), (.int .u8 0), (.int .u8 0), (.int .u8 0), (.int .u8 0), (.int .u8 0), (.int .u8 0), (.int .u8 0), (.int .u8 0), (.int .u8 0), (.int .u8 0), (.int .u8 0), (.int .u8 0), (.int .u8 0), (.int .u8 0), (.int .u8 0), (.int .u8 0), (.int .u8 0), (.int .u8 0), (.int .u8 0), (.int .u8 0), (.int .u8 0), .nil, (.int .u8 0), (.int .u8 0), (.int .u8 0), (.int .u8 0), (.int .u8 0), (.int .u8 0), (.int .u8 0), (.int .u8 0), (.int .u8 0), (.int .u8 0), (.int .u8 0), (.int .u8 0), (.int .u8 0), (.int .u8 0), (.int .u8 0), (.int .u8 0), (.int .u8 0), (.int .u8 0), (.int .u8 0), (.int .u8 0), (.int .u8 0), (.int .u8 0), (.int .u8 0), (.int .u8 0), (.int .u8 0), (.int .u8 0), (.int .u8 0), (.int .u8 0), (.int .u8 0), (.int .u8 0), (.int .u8 0), (.int .u8 0), (.int .u8 0), (.int .u8 0), (.int .u8 0), (.int .u8 0), (.int .u8 0), (.int .u8 0), (.int .u8 0), (.int .u8 0), (.int .u8 0), (.int .u8 0), (.int .u8 0), (.int .u8 0), (.int .u8 0), (.int .u8 0), (.int .u8 0), (.int .u8 0), (.int .u8 0), (.int .u8 0), (.int .u8 0), (.int .u8 0), (.int .u8 0), (.int .u8 0), (.int .u8 0), (.int .u8 0), (.int .u8 0), (.int .u8 0), (.int .u8 0), (.int .u8 0), (.int .u8 0), (.int .u8 0), (.int .u8 0), (.int .u8 0), (.int .u8 0), (.int .u8 0), (.int .u8 0), (.int .u8 0), (.int .u8 0), (.int .u8 0), (.int .u8 0), (.int .u8 0), (.int .u8 0), (.int .u8 0), (.int .u8 0), (.int .u8 0), (.int .u8 0), (.int .u8 0), (.int .u8 0), (.int .u8 0), (.int .u8 0), (.int .u8 0), (.int .u8 0), (.int .u8 0), (.int .u8 0), (.int .u8 0), (.int .u8 0), (.int .u8 0), (.int .u8 0), (.int .u8 0), (.int .u8 0), (.int .u8 0), (.int .u8 0), (.int .u8 0), (.int .u8 0), (.int .u8 0), (.int .i64 0), (.int .i64 0), .nil], none⟩])
 (.seq
 (.reg [⟨some 6, .fieldAddr 0 1 (.tmp 1), none⟩,
  ⟨some 7, .load none (.tmp 6), none⟩,
  ⟨some 8, .build [(.int .i64 0), (.int .i64 0), (.int .i64 0), (.int .i64 0), (.int .i64 0), (.int .u8 0), (.int .u8 0), (.int .u8 0), (.int .u8 0), (.int .u8 0), (.int .u8 0), (.int .u8 0), (.int .u8 0), (.int .u8 0), (.int .u8 0), (.int .u8 0), (.int .u8 0), (.int .u8 0), (.int .u8 0), (.int .u8 0), (.int .u8 0), (.int .u8 0), (.int .u8 0), (.int .u8 0), (.int .u8 0), (.int .u8 0), (.int .u8 0), (.int .u8 0), (.int .u8 0), (.int .u8 0), (.int .u8 0), (.int .u8 0), (.int .u8 0), (.int .u8 0), (.int .u8 0), (.int .u8 0), (.int .u8 0), .nil, (.int .u8 0), (.int .u8 0), (.int .u8 0), (.int .u8 0), (.int .u8 0), (.int .u8 0), (.int .u8 0), (.int .u8 0), (.int .u8 0), (.int .u8 0), (.int .u8 0), (.int .u8 0), (.int .u8 0), (.int .u8 0), (.int .u8 0), (.int .u8 0), (.int .u8 0), (.int .u8 0), (.int .u8 0), (.int .u8 0), (.int .u8 0), (.int .u8 0), (.int .u8 0), (.int .u8 0), (.int .u8 0), (.int .u8 0), (.int .u8 0), (.int .u8 0), (.int .u8 0), (.int .u8 0), (.int .u8 0), (.int .u8 0), (.int .u8 0), (.int .u8 0), (.int .u8 0), (.int .u8 0), (.int .u8 0), (.int .u8 0), (.int .u8 0), (.int .u8 0), (.int .u8 0), (.int .u8 0), (.int .u8 0), (.int .u8 0), (.int .u8 0), (.int .u8 0), (.int .u8 0), (.int .u8 0), (.int .u8 0), (.int .u8 0), (.int .u8 0), (.int .u8 0), (.int .u8 0), (.int .u8 0), (.int .u8 0), (.int .u8 0), (.int .u8 0), (.int .u8 0), (.int .u8 0), (.int .u8 0), (.int .u8 0), (.int .u8 0), (.int .u8 0), (.int .u8 0), (.int .u8 0), (.int .u8 0), (.int .u8 0), (.int .u8 0), (.int .u8 0), (.int .u8 0), (.int .u8 0), (.int .u8 0), (.int .u8 0), (.int .u8 0), (.int .u8 0), (.int .u8 0), (.int .u8 0), (.int .u8 0), (.int .u8 0), (.int .u8 0), (.int .u8 0), (.int .u8 0), (.int .u8 0), (.int .u8 0), (.int .u8 0), (.int .u8 0), (.int .u8 0), (.int .u8 0), (.int .u8 0), (.int .u8 0), (.int .u8 0), (.int .u8 0), (.int .u8 0), (.int .u8 0), (.int .u8 0), (.int .u8 0), (.int .i64 0), (.int .i64 0), .nil] [(0, 1, (.tmp 7))], none⟩,
  ⟨some 3, .alloc [(.int .i64 0), (.int .i64 0), (.int .i64 0), (.int .i64 0), (.int .i64 0), (.int .u8 0), (.int .u8 0), (.int .u8 0), (.int .u8 0), (.int .u8 0), (.int .u8 0), (.int .u8 0), (.int .u8 0), (.int .u8 0), (.int .u8 0), (.int .u8 0), (.int .u8 0), (.int .u8 0), (.int .u8 0), (.int .u8 0), (.int .u8 0), (.int .u8 0), (.int .u8 0), (.int .u8 0), (.int .u8 0), (.int .u8 0), (.int .u8 0), (.int .u8 0), (.int .u8 0), (.int .u8 0), (.int .u8 0), (.int .u8 0), (.int .u8 0), (.int .u8 0), (.int .u8 0), (.int .u8 0), (.int .u8 0), .nil, (.int .u8 0), (.int .u8 0), (.int .u8 0), (.int .u8 0), (.int .u8 0), (.int .u8 0), (.int .u8 0), (.int .u8 0), (.int .u8 0), (.int .u8 0), (.int .u8 0), (.int .u8 0), (.int .u8 0), (.int .u8 0), (.int .u8 0), (.int .u8 0), (.int .u8 0), (.int .u8 0), (.int .u8 0), (.int .u8 0), (.int .u8 0), (.int .u8 0), (.int .u8 0), (.int .u8 0), (.int .u8 0), (.int .u8 0), (.int .u8 0), (.int .u8 0), (.int .u8 0), (.int .u8 0), (.int .u8 0), (.int .u8 0), (.int .u8 0), (.int .u8 0), (.int .u8 0), (.int .u8 0), (.int .u8 0), (.int .u8 0), (.int .u8 0), (.int .u8 0), (.int .u8 0), (.int .u8 0), (.int .u8 0), (.int .u8 0), (.int .u8 0), (.int .u8 0), (.int .u8 0), (.int .u8 0), (.int .u8 0), (.int .u8 0), (.int .u8 0), (.int .u8 0), (.int .u8 0), (.int .u8 0), (.int .u8 0), (.int .u8 0), (.int .u8 0), (.int .u8 0), (.int .u8 0), (.int .u8 0), (.int .u8 0), (.int .u8 0), (.int .u8 0), (.int .u8 0), (.int .u8 0), (.int .u8 0), (.int .u8 0), (.int .u8 0), (.int .u8 0), (.int .u8 0), (.int .u8 0), (.int .u8 0), (.int .u8 0), (.int .u8 0), (.int .u8 0), (.int .u8 0), (.int .u8 0), (.int .u8 0), (.int .u8 0), (.int .u8 0), (.int .u8 0), (.int .u8 0), (.int .u8 0), (.int .u8 0), (.int .u8 0), (.int .u8 0), (.int .u8 0), (.int .u8 0), (.int .u8 0), (.int .u8 0), (.int .u8 0), (.int .u8 0), (.int .u8 0), (.int .u8 0), (.int .u8 0), (.int .u8 0), (.int .i64 0), (.int .i64 0), .nil], none⟩,
  ⟨none, .store 137 (.tmp 3) (.tmp 8), none⟩])
 (.seq
 (.reg [⟨some 9, .fieldAddr 0 1 (.tmp 1), none⟩,
  ⟨some 10, .load none (.tmp 9), none⟩,
  ⟨some 11, .call (.cst (.func (.func 25) [] [])) [(.tmp 10)], none⟩,
  ⟨some 4, .move (.tmp 11), none⟩])
 (.seq
 (.seq
 (.reg [⟨some 5, .move (.cst (.int .i64 0)), none⟩])
 (.block 0
 (.loop [1, 2, 3, 4, 5] true L19_0)))
 (.seq
 (.reg [⟨some 25, .load (some 137) (.tmp 3), none⟩,
  ⟨none, .store 137 (.tmp 2) (.tmp 25), none⟩])
 (.ret)))))⟩
theorem c19 : compF Try.prog gl true [(1, (some 0))] [([1, 2, 3, 4, 5], true)] Try.f19 = some F19 := by kernel_rfl
/- tollhouse/wire.fields -/
def F20 : AFn := ⟨22, true, 1, [.tmp 2], .seq
 (.reg [⟨some 2, .move (.cst .nil), none⟩])
 (.seq
 (.seq
 (.reg [⟨some 3, .move (.tmp 0), none⟩])
 (.block 0
 (.seq
 (.reg [⟨some 5, .bin .eql (.tmp 3) (.cst (.int .i64 1)), none⟩,
  ⟨some 4, .move (.tmp 5), none⟩])
 (.cond (.tmp 4)
 (.seq
 (.reg [⟨some 6, .buildSlice none (.int .u64 0) 6 [(0, (.cst (.int .u64 1))), (1, (.cst (.int .u64 3))), (2, (.cst (.int .u64 5))), (3, (.cst (.int .u64 7))), (4, (.cst (.int .u64 9))), (5, (.cst (.int .u64 11)))], none⟩,
  ⟨some 2, .move (.tmp 6), none⟩])
 (.ret))
 (.seq
 (.reg [⟨some 8, .bin .eql (.tmp 3) (.cst (.int .i64 2)), none⟩,
  ⟨some 7, .move (.tmp 8), none⟩])
 (.cond (.tmp 7)
 (.seq
 (.reg [⟨some 9, .buildSlice none (.int .u64 0) 3 [(0, (.cst (.int .u64 1))), (1, (.cst (.int .u64 3))), (2, (.cst (.int .u64 13)))], none⟩,
  ⟨some 2, .move (.tmp 9), none⟩])
 (.ret))
 (.seq
 (.reg [⟨some 11, .bin .eql (.tmp 3) (.cst (.int .i64 3)), none⟩,
  ⟨some 10, .move (.tmp 11), none⟩])
 (.cond (.tmp 10)
 (.seq
 (.reg [⟨some 12, .buildSlice none (.int .u64 0) 3 [(0, (.cst (.int .u64 1))), (1, (.cst (.int .u64 3))), (2, (.cst (.int .u64 23)))], none⟩,
  ⟨some 2, .move (.tmp 12), none⟩])
 (.ret))
 (.seq
 (.reg [⟨some 14, .bin .eql (.tmp 3) (.cst (.int .i64 4)), none⟩,
  ⟨some 13, .move (.tmp 14), none⟩])
 (.cond (.tmp 13)
 (.seq
 (.reg [⟨some 15, .buildSlice none (.int .u64 0) 3 [(0, (.cst (.int .u64 1))), (1, (.cst (.int .u64 17))), (2, (.cst (.int .u64 19)))], none⟩,
  ⟨some 2, .move (.tmp 15), none⟩])
 (.ret))
 (.seq
 (.reg [⟨some 17, .bin .eql (.tmp 3) (.cst (.int .i64 5)), none⟩,
  ⟨some 16, .move (.tmp 17), none⟩])
 (.cond (.tmp 16)
 (.seq
 (.reg [⟨some 18, .buildSlice none (.int .u64 0) 4 [(0, (.cst (.int .u64 1))), (1, (.cst (.int .u64 13))), (2, (.cst (.int .u64 15))), (3, (.cst (.int .u64 19)))], none⟩,
  ⟨some 2, .move (.tmp 18), none⟩])
 (.ret))
 (.seq
 (.reg [⟨some 20, .bin .eql (.tmp 3) (.cst (.int .i64 6)), none⟩,
  ⟨some 19, .move (.tmp 20), none⟩])
 (.cond (.tmp 19)
 (.seq
 (.reg [⟨some 21, .buildSlice none (.int .u64 0) 4 [(0, (.cst (.int .u64 1))), (1, (.cst (.int .u64 15))), (2, (.cst (.int .u64 19))), (3, (.cst (.int .u64 21)))], none⟩,
  ⟨some 2, .move (.tmp 21), none⟩])
 (.ret))
 (.skip)))))))))))))))
 (.seq
 (.reg [⟨some 2, .move (.cst .nil), none⟩])
 (.ret)))⟩
theorem c20 : compF Try.prog gl true [] [] Try.f20 = some F20 := by kernel_rfl
def L21_0 : AC := .seq
 (.reg [⟨some 26, .bin .lss (.tmp 25) (.cst (.int .i64 2)), none⟩])
 (.seq
 (.cond (.tmp 26)
 (.skip)
 (.exit 2))
 (.seq
 (.block 3
 (.seq
 (.reg [⟨some 27, .move (.tmp 25), none⟩,
  ⟨some 10, .move (.tmp 27), none⟩])
 (.seq
 (.reg [⟨some 29, .move (.tmp 0), none⟩,
  ⟨some 30, .move (.tmp 8), none⟩,
  ⟨some 31, .slice .slice none (.tmp 29) (some (.tmp 30)) none none, none⟩,
  ⟨some 32, .call (.cst (.func (.func 39) [] [])) [(.tmp 31)], none⟩,
  ⟨some 28, .move (.tmp 32), none⟩,
  ⟨some 33, .extract (.tmp 28) 0, none⟩,
  ⟨some 34, .extract (.tmp 28) 1, none⟩,
  ⟨some 35, .extract (.tmp 28) 2, none⟩,
  ⟨some 11, .move (.tmp 33), none⟩,
  ⟨some 12, .move (.tmp 34), none⟩,
  ⟨some 13, .move (.tmp 35), none⟩])
 (.seq
 (.block 4
 (.seq
 (.reg [⟨some 37, .move (.tmp 13), none⟩,
  ⟨some 38, .bin .neq (.tmp 37) (.cst (.int .i64 0)), none⟩,
  ⟨some 36, .move (.tmp 38), none⟩])
 (.cond (.tmp 36)
 (.seq
 (.reg [⟨some 39, .move (.tmp 13), none⟩,
  ⟨some 7, .move (.tmp 39), none⟩])
 (.exit 0))
 (.seq
 (.reg [⟨some 41, .move (.tmp 10), none⟩,
  ⟨some 42, .bin .eql (.tmp 41) (.cst (.int .i64 0)), none⟩,
  ⟨some 43, .move (.tmp 42), none⟩,
  ⟨some 44, .move (.tmp 6), some (43, true)⟩,
  ⟨some 45, .len (.tmp 44), some (43, true)⟩,
  ⟨some 46, .bin .gtr (.tmp 45) (.cst (.int .i64 0)), some (43, true)⟩,
  ⟨some 47, .pick (.tmp 43) (.tmp 46) (.cst (.bool false)), none⟩,
  ⟨some 48, .move (.tmp 47), none⟩,
  ⟨some 49, .move (.tmp 11), some (48, true)⟩,
  ⟨some 50, .move (.tmp 6), some (48, true)⟩,
  ⟨some 51, .move (.tmp 6), some (48, true)⟩,
  ⟨some 52, .len (.tmp 51), some (48, true)⟩,
  ⟨some 53, .bin .sub (.tmp 52) (.cst (.int .i64 1)), some (48, true)⟩,
  ⟨some 54, .indexAddr .slice (some 2) (.tmp 50) (.tmp 53), some (48, true)⟩,
  ⟨some 55, .fieldAddr 0 1 (.tmp 54), some (48, true)⟩,
  ⟨some 56, .load none (.tmp 55), some (48, true)⟩,
  ⟨some 57, .bin .leq (.tmp 49) (.tmp 56), some (48, true)⟩,
  ⟨some 58, .pick (.tmp 48) (.tmp 57) (.cst (.bool false)), none⟩,
  ⟨some 40, .move (.tmp 58), none⟩])
 (.cond (.tmp 40)
 (.seq
 (.reg [⟨some 7, .move (.cst (.int .i64 11)), none⟩])
 (.exit 0))
 (.skip))))))
 (.reg [⟨some 59, .move (.tmp 10), none⟩,
  ⟨some 60, .move (.tmp 11), none⟩,
  ⟨some 61, .move (.tmp 8), none⟩,
  ⟨some 62, .move (.tmp 12), none⟩,
  ⟨some 63, .bin .add (.tmp 61) (.tmp 62), none⟩,
  ⟨some 64, .indexAddr (.arr 2) none (.tmp 9) (.tmp 59), none⟩,
  ⟨none, .store 1 (.tmp 64) (.tmp 60), none⟩,
  ⟨some 8, .move (.tmp 63), none⟩])))))
 (.reg [⟨some 65, .bin .add (.tmp 25) (.cst (.int .i64 1)), none⟩,
  ⟨some 25, .move (.tmp 65), none⟩])))
def L21_1 : AC := .seq
 (.seq
 (.reg [⟨some 18, .move (.tmp 8), none⟩,
  ⟨some 19, .move (.tmp 0), none⟩,
  ⟨some 20, .len (.tmp 19), none⟩,
  ⟨some 21, .bin .lss (.tmp 18) (.tmp 20), none⟩])
 (.cond (.tmp 21)
 (.skip)
 (.exit 0)))
 (.block 1
 (.seq
 (.seq
 (.reg [⟨some 22, .move (.tmp 6), none⟩,
  ⟨some 23, .len (.tmp 22), none⟩,
  ⟨some 24, .bin .geq (.tmp 23) (.cst (.int .i64 64)), none⟩])
 (.cond (.tmp 24)
 (.seq
 (.reg [⟨some 7, .move (.cst (.int .i64 3)), none⟩])
 (.exit 0))
 (.skip)))
 (.seq
 (.reg [⟨some 9, .alloc [(.int .u64 0), (.int .u64 0)], none⟩])
 (.seq
 (.seq
 (.reg [⟨some 25, .move (.cst (.int .i64 0)), none⟩])
 (.block 2
 (.loop [0, 1, 6, 7, 8, 9, 25] false L21_0)))
 (.seq
 (.block 5
 (.seq
 (.reg [⟨some 67, .indexAddr (.arr 2) none (.tmp 9) (.cst (.int .i64 1)), none⟩,
  ⟨some 68, .load none (.tmp 67), none⟩,
  ⟨some 69, .move (.tmp 0), none⟩,
  ⟨some 70, .len (.tmp 69), none⟩,
  ⟨some 71, .move (.tmp 8), none⟩,
  ⟨some 72, .bin .sub (.tmp 70) (.tmp 71), none⟩,
  ⟨some 73, .convInt .u64 (.tmp 72), none⟩,
  ⟨some 74, .bin .gtr (.tmp 68) (.tmp 73), none⟩,
  ⟨some 66, .move (.tmp 74), none⟩])
 (.cond (.tmp 66)
 (.seq
 (.reg [⟨some 7, .move (.cst (.int .i64 10)), none⟩])
 (.exit 0))
 (.seq
 (.reg [⟨some 76, .indexAddr (.arr 2) none (.tmp 9) (.cst (.int .i64 0)), none⟩,
  ⟨some 77, .load none (.tmp 76), none⟩,
  ⟨some 78, .bin .rem (.tmp 77) (.cst (.int .u64 2)), none⟩,
  ⟨some 79, .bin .eql (.tmp 78) (.cst (.int .u64 0)), none⟩,
  ⟨some 80, .move (.tmp 79), none⟩,
  ⟨some 81, .move (.tmp 1), some (80, true)⟩,
  ⟨some 82, .indexAddr (.arr 2) none (.tmp 9) (.cst (.int .i64 0)), some (80, true)⟩,
  ⟨some 83, .load none (.tmp 82), some (80, true)⟩,
  ⟨some 84, .call (.cst (.func (.func 40) [] [])) [(.tmp 81), (.tmp 83)], some (80, true)⟩,
  ⟨some 85, .un .not (.tmp 84), some (80, true)⟩,
  ⟨some 86, .pick (.tmp 80) (.tmp 85) (.cst (.bool false)), none⟩,
  ⟨some 75, .move (.tmp 86), none⟩])
 (.cond (.tmp 75)
 (.seq
 (.reg [⟨some 7, .move (.cst (.int .i64 12)), none⟩])
 (.exit 0))
 (.skip))))))
 (.seq
 (.reg [⟨some 87, .move (.tmp 8), none⟩,
  ⟨some 88, .indexAddr (.arr 2) none (.tmp 9) (.cst (.int .i64 1)), none⟩,
  ⟨some 89, .load none (.tmp 88), none⟩,
  ⟨some 90, .convInt .i64 (.tmp 89), none⟩,
  ⟨some 91, .bin .add (.tmp 87) (.tmp 90), none⟩,
  ⟨some 14, .move (.tmp 91), none⟩])
 (.seq
 (.regD [⟨some 92, .move (.tmp 6), none⟩,
  ⟨some 93, .indexAddr (.arr 2) none (.tmp 9) (.cst (.int .i64 0)), none⟩,
  ⟨some 94, .load none (.tmp 93), none⟩,
  ⟨some 95, .move (.tmp 0), none⟩,
  ⟨some 96, .move (.tmp 8), none⟩,
  ⟨some 97, .move (.tmp 14), none⟩,
  ⟨some 98, .slice .slice none (.tmp 95) (some (.tmp 96)) (some (.tmp 97)) none, none⟩,
  ⟨some 99, .call (.cst (.func (.func 36) [] [])) [(.tmp 98)], none⟩,
  ⟨some 100, .build [(.int .u64 0), .nil] [(0, 1, (.tmp 94)), (1, 1, (.tmp 99))], none⟩,
  ⟨some 101, .buildSlice (some 2) (.agg [(.int .u64 0), .nil]) 1 [(0, (.tmp 100))], none⟩,
  ⟨some 102, .append (some 2) 32 (.tmp 92) (.tmp 101), none⟩,
  ⟨some 6, .move (.tmp 102), none⟩] [(0, 1), (0, 1), (0, 1), (0, 0), (0, 0), (0, 0), (0, 0), (0, 0), (1, 1), (1, 1), (1, 1), (2, 2)])
 (.reg [⟨some 103, .move (.tmp 14), none⟩,
  ⟨some 8, .move (.tmp 103), none⟩]))))))))
/- tollhouse/bigsize.Decode -/
def F21 : AFn := ⟨108, true, 2, [.tmp 4, .tmp 5], .seq
 (.reg [⟨some 4, .move (.cst .nil), none⟩,
  ⟨some 5, .move (.cst (.int .i64 0)), none⟩])
 (.scope
 (.seq
 (.seq
 (.reg [⟨some 15, .move (.tmp 0), none⟩,
  ⟨some 16, .len (.tmp 15), none⟩,
  ⟨some 17, .bin .gtr (.tmp 16) (.cst (.int .i64 65536)), none⟩])
 (.cond (.tmp 17)
 (.seq
 (.reg [⟨some 4, .move (.cst .nil), none⟩,
  ⟨some 5, .move (.cst (.int .i64 3)), none⟩])
 (.ret))
 (.skip)))
 (.seq
 (.reg [⟨some 6, .acc (some 2) (.cst .nil), none⟩])
 (.seq
 (.reg [⟨some 7, .move (.cst (.int .i64 0)), none⟩])
 (.seq
 (.reg [⟨some 8, .move (.cst (.int .i64 0)), none⟩])
 (.seq
 (.skip)
 (.seq
 (.block 0
 (.loop [0, 1, 6, 7, 8] false L21_1))
 (.seq
 (.seq
 (.reg [⟨some 104, .move (.tmp 7), none⟩,
  ⟨some 105, .bin .neq (.tmp 104) (.cst (.int .i64 0)), none⟩])
 (.cond (.tmp 105)
 (.seq
 (.reg [⟨some 106, .move (.tmp 7), none⟩,
  ⟨some 4, .move (.cst .nil), none⟩,
  ⟨some 5, .move (.tmp 106), none⟩])
 (.ret))
 (.skip)))
 (.seq
 (.reg [⟨some 107, .move (.tmp 6), none⟩,
  ⟨some 4, .move (.tmp 107), none⟩,
  ⟨some 5, .move (.cst (.int .i64 0)), none⟩])
 (.ret))))))))))⟩
theorem c21 : compF Try.prog gl true [(6, (some 2))] [([0, 1, 6, 7, 8], false), ([0, 1, 6, 7, 8, 9, 25], false)] Try.f21 = some F21 := by kernel_rfl
/- tollhouse/bigsize.Find -/
def F22 : AFn := ⟨18, true, 2, [.tmp 4, .tmp 5], .seq
 (.reg [⟨some 3, .box (.tmp 1), none⟩,
  ⟨some 4, .move (.cst .nil), none⟩,
  ⟨some 5, .move (.cst (.bool false)), none⟩])
 (.seq
 (.reg [⟨some 7, .move (.tmp 0), none⟩,
  ⟨some 8, .makeFunc (.func 42) [] [(.tmp 3)], none⟩,
  ⟨some 9, .call (.cst (.func (.func 41) [] [])) [(.tmp 7), (.tmp 8)], none⟩,
  ⟨some 6, .move (.tmp 9), none⟩])
 (.seq
 (.seq
 (.reg [⟨some 10, .move (.tmp 6), none⟩,
  ⟨some 11, .bin .lss (.tmp 10) (.cst (.int .i64 0)), none⟩])
 (.cond (.tmp 11)
 (.seq
 (.reg [⟨some 4, .move (.cst .nil), none⟩,
  ⟨some 5, .move (.cst (.bool false)), none⟩])
 (.ret))
 (.skip)))
 (.seq
 (.reg [⟨some 12, .move (.tmp 0), none⟩,
  ⟨some 13, .move (.tmp 6), none⟩,
  ⟨some 14, .indexAddr .slice (some 2) (.tmp 12) (.tmp 13), none⟩,
  ⟨some 15, .fieldAddr 1 1 (.tmp 14), none⟩,
  ⟨some 16, .load none (.tmp 15), none⟩,
  ⟨some 17, .call (.cst (.func (.func 36) [] [])) [(.tmp 16)], none⟩,
  ⟨some 4, .move (.tmp 17), none⟩,
  ⟨some 5, .move (.cst (.bool true)), none⟩])
 (.ret))))⟩
theorem c22 : compF Try.prog gl true [] [] Try.f22 = some F22 := by kernel_rfl
def L23_0 : AC := .seq
 (.reg [⟨some 45, .bin .lss (.tmp 44) (.tmp 43), none⟩])
 (.seq
 (.cond (.tmp 45)
 (.skip)
 (.exit 0))
 (.seq
 (.block 1
 (.seq
 (.reg [⟨some 46, .indexAddr .slice none (.tmp 42) (.tmp 44), none⟩,
  ⟨some 47, .load none (.tmp 46), none⟩,
  ⟨some 9, .move (.tmp 47), none⟩])
 (.reg [⟨some 48, .move (.tmp 7), none⟩,
  ⟨some 49, .move (.tmp 7), none⟩,
  ⟨some 50, .nilCheck (.tmp 49), none⟩,
  ⟨some 51, .load none (.tmp 50), none⟩,
  ⟨some 52, .bin .shl (.tmp 51) (.cst (.int .u64 8)), none⟩,
  ⟨some 53, .move (.tmp 9), none⟩,
  ⟨some 54, .convInt .i64 (.tmp 53), none⟩,
  ⟨some 55, .bin .or (.tmp 52) (.tmp 54), none⟩,
  ⟨some 56, .nilCheck (.tmp 48), none⟩,
  ⟨none, .store 1 (.tmp 56) (.tmp 55), none⟩])))
 (.reg [⟨some 57, .bin .add (.tmp 44) (.cst (.int .i64 1)), none⟩,
  ⟨some 44, .move (.tmp 57), none⟩])))
/- tollhouse/wire.set -/
def F23 : AFn := ⟨79, false, 3, [.tmp 6], .seq
 (.reg [⟨some 6, .move (.cst (.bool false)), none⟩])
 (.seq
 (.seq
 (.reg [⟨some 11, .move (.tmp 0), none⟩,
  ⟨some 12, .move (.tmp 1), none⟩,
  ⟨some 13, .call (.cst (.func (.func 34) [] [])) [(.tmp 11), (.tmp 12)], none⟩,
  ⟨some 7, .move (.tmp 13), none⟩])
 (.seq
 (.reg [⟨some 14, .move (.tmp 7), none⟩,
  ⟨some 15, .eqNil true .ptr (.tmp 14), none⟩])
 (.cond (.tmp 15)
 (.seq
 (.seq
 (.reg [⟨some 16, .move (.tmp 2), none⟩,
  ⟨some 17, .len (.tmp 16), none⟩,
  ⟨some 18, .bin .gtr (.tmp 17) (.cst (.int .i64 8)), none⟩,
  ⟨some 19, .move (.tmp 18), none⟩,
  ⟨some 20, .move (.tmp 2), some (19, false)⟩,
  ⟨some 21, .len (.tmp 20), some (19, false)⟩,
  ⟨some 22, .bin .gtr (.tmp 21) (.cst (.int .i64 0)), some (19, false)⟩,
  ⟨some 23, .move (.tmp 22), some (19, false)⟩,
  ⟨some 24, .move (.tmp 2), some (23, true)⟩,
  ⟨some 25, .indexAddr .slice none (.tmp 24) (.cst (.int .i64 0)), some (23, true)⟩,
  ⟨some 26, .load none (.tmp 25), some (23, true)⟩,
  ⟨some 27, .bin .eql (.tmp 26) (.cst (.int .u8 0)), some (23, true)⟩,
  ⟨some 28, .pick (.tmp 23) (.tmp 27) (.cst (.bool false)), some (19, false)⟩,
  ⟨some 29, .pick (.tmp 19) (.cst (.bool true)) (.tmp 28), none⟩,
  ⟨some 30, .move (.tmp 29), none⟩,
  ⟨some 31, .move (.tmp 2), some (30, false)⟩,
  ⟨some 32, .len (.tmp 31), some (30, false)⟩,
  ⟨some 33, .bin .eql (.tmp 32) (.cst (.int .i64 8)), some (30, false)⟩,
  ⟨some 34, .move (.tmp 33), some (30, false)⟩,
  ⟨some 35, .move (.tmp 2), some (34, true)⟩,
  ⟨some 36, .indexAddr .slice none (.tmp 35) (.cst (.int .i64 0)), some (34, true)⟩,
  ⟨some 37, .load none (.tmp 36), some (34, true)⟩,
  ⟨some 38, .bin .shr (.tmp 37) (.cst (.int .u64 7)), some (34, true)⟩,
  ⟨some 39, .bin .eql (.tmp 38) (.cst (.int .u8 1)), some (34, true)⟩,
  ⟨some 40, .pick (.tmp 34) (.tmp 39) (.cst (.bool false)), some (30, false)⟩,
  ⟨some 41, .pick (.tmp 30) (.cst (.bool true)) (.tmp 40), none⟩])
 (.cond (.tmp 41)
 (.seq
 (.reg [⟨some 6, .move (.cst (.bool false)), none⟩])
 (.ret))
 (.skip)))
 (.seq
 (.seq
 (.reg [⟨some 42, .move (.tmp 2), none⟩,
  ⟨some 43, .len (.tmp 42), none⟩,
  ⟨some 44, .move (.cst (.int .i64 0)), none⟩])
 (.block 0
 (.loop [7, 42, 43, 44] true L23_0)))
 (.seq
 (.reg [⟨some 6, .move (.cst (.bool true)), none⟩])
 (.ret))))
 (.skip))))
 (.seq
 (.seq
 (.reg [⟨some 58, .move (.tmp 0), none⟩,
  ⟨some 59, .move (.tmp 1), none⟩,
  ⟨some 60, .call (.cst (.func (.func 35) [] [])) [(.tmp 58), (.tmp 59)], none⟩,
  ⟨some 10, .move (.tmp 60), none⟩])
 (.seq
 (.reg [⟨some 61, .move (.tmp 10), none⟩,
  ⟨some 62, .eqNil true .ptr (.tmp 61), none⟩])
 (.cond (.tmp 62)
 (.seq
 (.reg [⟨some 63, .move (.tmp 10), none⟩,
  ⟨some 64, .nilCheck (.tmp 63), none⟩,
  ⟨some 65, .slice (.arr 32) none (.tmp 64) none none none, none⟩,
  ⟨some 66, .move (.tmp 2), none⟩,
  ⟨some 67, .copy none (.tmp 65) (.tmp 66), none⟩,
  ⟨some 68, .bin .eql (.tmp 67) (.cst (.int .i64 32)), none⟩,
  ⟨some 69, .move (.tmp 68), none⟩,
  ⟨some 70, .move (.tmp 2), some (69, true)⟩,
  ⟨some 71, .len (.tmp 70), some (69, true)⟩,
  ⟨some 72, .bin .eql (.tmp 71) (.cst (.int .i64 32)), some (69, true)⟩,
  ⟨some 73, .pick (.tmp 69) (.tmp 72) (.cst (.bool false)), none⟩,
  ⟨some 6, .move (.tmp 73), none⟩])
 (.ret))
 (.skip))))
 (.seq
 (.reg [⟨some 74, .move (.tmp 0), none⟩,
  ⟨some 75, .move (.tmp 1), none⟩,
  ⟨some 76, .call (.cst (.func (.func 37) [] [])) [(.tmp 74), (.tmp 75)], none⟩,
  ⟨some 77, .move (.tmp 2), none⟩,
  ⟨some 78, .nilCheck (.tmp 76), none⟩,
  ⟨none, .store 1 (.tmp 78) (.tmp 77), none⟩])
 (.seq
 (.reg [⟨some 6, .move (.cst (.bool true)), none⟩])
 (.ret)))))⟩
theorem c23 : compF Try.prog gl false [] [([7, 42, 43, 44], true)] Try.f23 = some F23 := by kernel_rfl
def L24_0 : AC := .seq
 (.seq
 (.reg [⟨some 14, .move (.tmp 0), none⟩,
  ⟨some 15, .len (.tmp 14), none⟩,
  ⟨some 16, .bin .gtr (.tmp 15) (.cst (.int .i64 0)), none⟩])
 (.cond (.tmp 16)
 (.skip)
 (.exit 0)))
 (.block 1
 (.seq
 (.seq
 (.reg [⟨some 17, .move (.tmp 6), none⟩,
  ⟨some 18, .len (.tmp 17), none⟩,
  ⟨some 19, .bin .eql (.tmp 18) (.cst (.int .i64 64)), none⟩])
 (.cond (.tmp 19)
 (.seq
 (.reg [⟨some 4, .move (.cst .nil), none⟩,
  ⟨some 5, .move (.cst (.int .i64 3)), none⟩])
 (.ret))
 (.skip)))
 (.seq
 (.reg [⟨some 21, .move (.tmp 0), none⟩,
  ⟨some 22, .call (.cst (.func (.func 43) [] [])) [(.tmp 21)], none⟩,
  ⟨some 20, .move (.tmp 22), none⟩,
  ⟨some 23, .extract (.tmp 20) 0, none⟩,
  ⟨some 24, .extract (.tmp 20) 1, none⟩,
  ⟨some 25, .extract (.tmp 20) 2, none⟩,
  ⟨some 7, .move (.tmp 23), none⟩,
  ⟨some 8, .move (.tmp 24), none⟩,
  ⟨some 9, .move (.tmp 25), none⟩])
 (.seq
 (.seq
 (.reg [⟨some 26, .move (.tmp 9), none⟩,
  ⟨some 27, .bin .neq (.tmp 26) (.cst (.int .i64 0)), none⟩])
 (.cond (.tmp 27)
 (.seq
 (.reg [⟨some 28, .move (.tmp 9), none⟩,
  ⟨some 4, .move (.cst .nil), none⟩,
  ⟨some 5, .move (.tmp 28), none⟩])
 (.ret))
 (.skip)))
 (.seq
 (.seq
 (.reg [⟨some 29, .move (.tmp 6), none⟩,
  ⟨some 30, .len (.tmp 29), none⟩,
  ⟨some 31, .bin .gtr (.tmp 30) (.cst (.int .i64 0)), none⟩,
  ⟨some 32, .move (.tmp 31), none⟩,
  ⟨some 33, .move (.tmp 7), some (32, true)⟩,
  ⟨some 34, .move (.tmp 6), some (32, true)⟩,
  ⟨some 35, .move (.tmp 6), some (32, true)⟩,
  ⟨some 36, .len (.tmp 35), some (32, true)⟩,
  ⟨some 37, .bin .sub (.tmp 36) (.cst (.int .i64 1)), some (32, true)⟩,
  ⟨some 38, .indexAddr .slice (some 2) (.tmp 34) (.tmp 37), some (32, true)⟩,
  ⟨some 39, .fieldAddr 0 1 (.tmp 38), some (32, true)⟩,
  ⟨some 40, .load none (.tmp 39), some (32, true)⟩,
  ⟨some 41, .bin .leq (.tmp 33) (.tmp 40), some (32, true)⟩,
  ⟨some 42, .pick (.tmp 32) (.tmp 41) (.cst (.bool false)), none⟩])
 (.cond (.tmp 42)
 (.seq
 (.reg [⟨some 4, .move (.cst .nil), none⟩,
  ⟨some 5, .move (.cst (.int .i64 11)), none⟩])
 (.ret))
 (.skip)))
 (.seq
 (.reg [⟨some 43, .move (.tmp 0), none⟩,
  ⟨some 44, .move (.tmp 8), none⟩,
  ⟨some 45, .slice .slice none (.tmp 43) (some (.tmp 44)) none none, none⟩,
  ⟨some 0, .move (.tmp 45), none⟩])
 (.seq
 (.reg [⟨some 47, .move (.tmp 0), none⟩,
  ⟨some 48, .call (.cst (.func (.func 43) [] [])) [(.tmp 47)], none⟩,
  ⟨some 46, .move (.tmp 48), none⟩,
  ⟨some 49, .extract (.tmp 46) 0, none⟩,
  ⟨some 50, .extract (.tmp 46) 1, none⟩,
  ⟨some 51, .extract (.tmp 46) 2, none⟩,
  ⟨some 10, .move (.tmp 49), none⟩,
  ⟨some 8, .move (.tmp 50), none⟩,
  ⟨some 9, .move (.tmp 51), none⟩])
 (.seq
 (.seq
 (.reg [⟨some 52, .move (.tmp 9), none⟩,
  ⟨some 53, .bin .neq (.tmp 52) (.cst (.int .i64 0)), none⟩])
 (.cond (.tmp 53)
 (.seq
 (.reg [⟨some 54, .move (.tmp 9), none⟩,
  ⟨some 4, .move (.cst .nil), none⟩,
  ⟨some 5, .move (.tmp 54), none⟩])
 (.ret))
 (.skip)))
 (.seq
 (.reg [⟨some 55, .move (.tmp 0), none⟩,
  ⟨some 56, .move (.tmp 8), none⟩,
  ⟨some 57, .slice .slice none (.tmp 55) (some (.tmp 56)) none none, none⟩,
  ⟨some 0, .move (.tmp 57), none⟩])
 (.seq
 (.seq
 (.reg [⟨some 58, .move (.tmp 10), none⟩,
  ⟨some 59, .move (.tmp 0), none⟩,
  ⟨some 60, .len (.tmp 59), none⟩,
  ⟨some 61, .convInt .u64 (.tmp 60), none⟩,
  ⟨some 62, .bin .gtr (.tmp 58) (.tmp 61), none⟩])
 (.cond (.tmp 62)
 (.seq
 (.reg [⟨some 4, .move (.cst .nil), none⟩,
  ⟨some 5, .move (.cst (.int .i64 10)), none⟩])
 (.ret))
 (.skip)))
 (.seq
 (.seq
 (.reg [⟨some 63, .move (.tmp 7), none⟩,
  ⟨some 64, .bin .rem (.tmp 63) (.cst (.int .u64 2)), none⟩,
  ⟨some 65, .bin .eql (.tmp 64) (.cst (.int .u64 0)), none⟩,
  ⟨some 66, .move (.tmp 65), none⟩,
  ⟨some 67, .move (.tmp 1), some (66, true)⟩,
  ⟨some 68, .move (.tmp 7), some (66, true)⟩,
  ⟨some 69, .call (.cst (.func (.func 44) [] [])) [(.tmp 67), (.tmp 68)], some (66, true)⟩,
  ⟨some 70, .un .not (.tmp 69), some (66, true)⟩,
  ⟨some 71, .pick (.tmp 66) (.tmp 70) (.cst (.bool false)), none⟩])
 (.cond (.tmp 71)
 (.seq
 (.reg [⟨some 4, .move (.cst .nil), none⟩,
  ⟨some 5, .move (.cst (.int .i64 12)), none⟩])
 (.ret))
 (.skip)))
 (.seq
 (.reg [⟨some 72, .move (.tmp 6), none⟩,
  ⟨some 73, .move (.tmp 7), none⟩,
  ⟨some 74, .buildSlice none (.int .u8 0) 0 [], none⟩,
  ⟨some 75, .move (.tmp 0), none⟩,
  ⟨some 76, .move (.tmp 10), none⟩,
  ⟨some 77, .slice .slice none (.tmp 75) none (some (.tmp 76)) none, none⟩,
  ⟨some 78, .append none 1 (.tmp 74) (.tmp 77), none⟩,
  ⟨some 79, .build [(.int .u64 0), .nil] [(0, 1, (.tmp 73)), (1, 1, (.tmp 78))], none⟩,
  ⟨some 80, .buildSlice (some 2) (.agg [(.int .u64 0), .nil]) 1 [(0, (.tmp 79))], none⟩,
  ⟨some 81, .append (some 2) 32 (.tmp 72) (.tmp 80), none⟩,
  ⟨some 6, .move (.tmp 81), none⟩])
 (.reg [⟨some 82, .move (.tmp 0), none⟩,
  ⟨some 83, .move (.tmp 10), none⟩,
  ⟨some 84, .slice .slice none (.tmp 82) (some (.tmp 83)) none none, none⟩,
  ⟨some 0, .move (.tmp 84), none⟩])))))))))))))
/- tollhouse/tollhouseref01.Decode -/
def F24 : AFn := ⟨86, true, 2, [.tmp 4, .tmp 5], .seq
 (.reg [⟨some 4, .move (.cst .nil), none⟩,
  ⟨some 5, .move (.cst (.int .i64 0)), none⟩])
 (.seq
 (.seq
 (.reg [⟨some 11, .move (.tmp 0), none⟩,
  ⟨some 12, .len (.tmp 11), none⟩,
  ⟨some 13, .bin .gtr (.tmp 12) (.cst (.int .i64 65536)), none⟩])
 (.cond (.tmp 13)
 (.seq
 (.reg [⟨some 4, .move (.cst .nil), none⟩,
  ⟨some 5, .move (.cst (.int .i64 3)), none⟩])
 (.ret))
 (.skip)))
 (.seq
 (.reg [⟨some 6, .acc (some 2) (.cst .nil), none⟩])
 (.seq
 (.block 0
 (.loop [0, 1, 6] false L24_0))
 (.seq
 (.reg [⟨some 85, .move (.tmp 6), none⟩,
  ⟨some 4, .move (.tmp 85), none⟩,
  ⟨some 5, .move (.cst (.int .i64 0)), none⟩])
 (.ret)))))⟩
theorem c24 : compF Try.prog gl true [(6, (some 2))] [([0, 1, 6], false)] Try.f24 = some F24 := by kernel_rfl
/- tollhouse/tollhouseref06.Fields -/
def F25 : AFn := ⟨22, true, 1, [.tmp 2], .seq
 (.reg [⟨some 2, .move (.cst .nil), none⟩])
 (.seq
 (.seq
 (.reg [⟨some 3, .move (.tmp 0), none⟩])
 (.block 0
 (.seq
 (.reg [⟨some 5, .bin .eql (.tmp 3) (.cst (.int .i64 1)), none⟩,
  ⟨some 4, .move (.tmp 5), none⟩])
 (.cond (.tmp 4)
 (.seq
 (.reg [⟨some 6, .buildSlice none (.int .u64 0) 6 [(0, (.cst (.int .u64 1))), (1, (.cst (.int .u64 3))), (2, (.cst (.int .u64 5))), (3, (.cst (.int .u64 7))), (4, (.cst (.int .u64 9))), (5, (.cst (.int .u64 11)))], none⟩,
  ⟨some 2, .move (.tmp 6), none⟩])
 (.ret))
 (.seq
 (.reg [⟨some 8, .bin .eql (.tmp 3) (.cst (.int .i64 2)), none⟩,
  ⟨some 7, .move (.tmp 8), none⟩])
 (.cond (.tmp 7)
 (.seq
 (.reg [⟨some 9, .buildSlice none (.int .u64 0) 3 [(0, (.cst (.int .u64 1))), (1, (.cst (.int .u64 3))), (2, (.cst (.int .u64 13)))], none⟩,
  ⟨some 2, .move (.tmp 9), none⟩])
 (.ret))
 (.seq
 (.reg [⟨some 11, .bin .eql (.tmp 3) (.cst (.int .i64 3)), none⟩,
  ⟨some 10, .move (.tmp 11), none⟩])
 (.cond (.tmp 10)
 (.seq
 (.reg [⟨some 12, .buildSlice none (.int .u64 0) 3 [(0, (.cst (.int .u64 1))), (1, (.cst (.int .u64 3))), (2, (.cst (.int .u64 23)))], none⟩,
  ⟨some 2, .move (.tmp 12), none⟩])
 (.ret))
 (.seq
 (.reg [⟨some 14, .bin .eql (.tmp 3) (.cst (.int .i64 4)), none⟩,
  ⟨some 13, .move (.tmp 14), none⟩])
 (.cond (.tmp 13)
 (.seq
 (.reg [⟨some 15, .buildSlice none (.int .u64 0) 3 [(0, (.cst (.int .u64 1))), (1, (.cst (.int .u64 17))), (2, (.cst (.int .u64 19)))], none⟩,
  ⟨some 2, .move (.tmp 15), none⟩])
 (.ret))
 (.seq
 (.reg [⟨some 17, .bin .eql (.tmp 3) (.cst (.int .i64 5)), none⟩,
  ⟨some 16, .move (.tmp 17), none⟩])
 (.cond (.tmp 16)
 (.seq
 (.reg [⟨some 18, .buildSlice none (.int .u64 0) 4 [(0, (.cst (.int .u64 1))), (1, (.cst (.int .u64 13))), (2, (.cst (.int .u64 15))), (3, (.cst (.int .u64 19)))], none⟩,
  ⟨some 2, .move (.tmp 18), none⟩])
 (.ret))
 (.seq
 (.reg [⟨some 20, .bin .eql (.tmp 3) (.cst (.int .i64 6)), none⟩,
  ⟨some 19, .move (.tmp 20), none⟩])
 (.cond (.tmp 19)
 (.seq
 (.reg [⟨some 21, .buildSlice none (.int .u64 0) 4 [(0, (.cst (.int .u64 1))), (1, (.cst (.int .u64 15))), (2, (.cst (.int .u64 19))), (3, (.cst (.int .u64 21)))], none⟩,
  ⟨some 2, .move (.tmp 21), none⟩])
 (.ret))
 (.skip)))))))))))))))
 (.seq
 (.reg [⟨some 2, .move (.cst .nil), none⟩])
 (.ret)))⟩
theorem c25 : compF Try.prog gl true [] [] Try.f25 = some F25 := by kernel_rfl
/- tollhouse/tollhouseref06.with -/
def F26 : AFn := ⟨78, true, 3, [.cell 6 (some 137), .tmp 7], .seq
 (.reg [⟨some 3, .box (.tmp 0), none⟩,
  ⟨some 6, .alloc [(.int .i64 0), (.int .i64 0), (.int .i64 0), (.int .i64 0), (.int .i64 0), (.int .u8 0), (.int .u8 0), (.int .u8 0), (.int .u8 0), (.int .u8 0), (.int .u8 0), (.int .u8 0), (.int .u8 0), (.int .u8 0), (.int .u8 0), (.int .u8 0), (.int .u8 0), (.int .u8 0), (.int .u8 0), (.int .u8 0), (.int .u8 0), (.int .u8 0), (.int .u8 0), (.int .u8 0), (.int .u8 0), (.int .u8 0), (.int .u8 0), (.int .u8 0), (.int .u8 0), (.int .u8 0), (.int .u8 0), (.int .u8 0), (.int .u8 0), (.int .u8 0), (.int .u8 0), (.int .u8 0), (.int .u8 0), .nil, (.int .u8 0), (.int .u8 0), (.int .u8 0), (.int .u8 0), (.int .u8 0), (.int .u8 0), (.int .u8 0), (.int .u8 0), (.int .u8 0), (.int .u8 0), (.int .u8 0), (.int .u8 0), (.int .u8 0), (.int .u8 0), (.int .u8 0), (.int .u8 0), (.int .u8 0), (.int .u8 0), (.int .u8 0), (.int .u8 0), (.int .u8 0), (.int .u8 0), (.int .u8 0), (.int .u8 0), (.int .u8 0), (.int .u8 0), (.int .u8 0), (.int .u8 0), (.int .u8 0), (.int .u8 0), (.int .u8 0), (.int .u8 0), (.int .u8 0), (.int .u8 0), (.int .u8 0), (.int .u8 0), (.int .u8 0), (.int .u8 0), (.int .u8 0), (.int .u8 0), (.int .u8 0), (.int .u8 0), (.int .u8 0), (.int .u8 0), (.int .u8 0), (.int .u8 0), (.int .u8 0), (.int .u8 0), (.int .u8 0), (.int .u8 0), (.int .u8 0), (.int .u8 0), (.int .u8 0), (.int .u8 0), (.int .u8 0), (.int .u8 0), (.int .u8 0), (.int .u8 0), (.int .u8 0), (.int .u8 0), (.int .u8 0), (.int .u8 0), (.int .u8 0), (.int .u8 0), (.int .u8 0), (.int .u8 0), (.int .u8 0), (.int .u8 0), (.int .u8 0), (.int .u8 0), (.int .u8 0), (.int .u8 0), (.int .u8 0), (.int .u8 0), (.int .u8 0), (.int .u8 0), (.int .u8 0), (.int .u8 0), (.int .u8 0), (.int .u8 0), (.int .u8 0), (.int .u8 0), (.int .u8 0), (.int .u8 0), (.int .u8 0), (.int .u8 0), (.int .u8 0), (.int .u8 0), (.int .u8 0), (.int .u8 0), (.int .u8 0), (.int .u8 0), (.int .u8 0), (.int .u8 0), (.int .u8 0), (.int .u8 0), (.int .i64 0), (.int .i64 0), .nil], none⟩,
  ⟨some 7, .move (.cst (.bool false)), none⟩])
 (.seq
 (.reg [⟨some 12, .move (.tmp 2), none⟩,
  ⟨some 13, .call (.cst (.func (.func 45) [] [])) [(.tmp 12)], none⟩,
  ⟨some 11, .move (.tmp 13), none⟩,
  ⟨some 14, .extract (.tmp 11) 0, none⟩,
  ⟨some 15, .extract (.tmp 11) 1, none⟩,
  ⟨some 8, .alloc [(.int .u8 0), (.int .u8 0), (.int .u8 0), (.int .u8 0), (.int .u8 0), (.int .u8 0), (.int .u8 0), (.int .u8 0), (.int .u8 0), (.int .u8 0), (.int .u8 0), (.int .u8 0), (.int .u8 0), (.int .u8 0), (.int .u8 0), (.int .u8 0), (.int .u8 0), (.int .u8 0), (.int .u8 0), (.int .u8 0), (.int .u8 0), (.int .u8 0), (.int .u8 0), (.int .u8 0), (.int .u8 0), (.int .u8 0), (.int .u8 0), (.int .u8 0), (.int .u8 0), (.int .u8 0), (.int .u8 0), (.int .u8 0)], none⟩,
  ⟨none, .store 32 (.tmp 8) (.tmp 14), none⟩,
  ⟨some 9, .move (.tmp 15), none⟩])
 (.seq
 (.reg [⟨some 16, .move (.tmp 2), none⟩,
  ⟨some 17, .call (.cst (.func (.func 46) [] [])) [(.tmp 16)], none⟩,
  ⟨some 10, .move (.tmp 17), none⟩])
 (.seq
 (.seq
 (.reg [⟨some 18, .move (.tmp 1), none⟩])
 (.block 0
 (.seq
 (.reg [⟨some 23, .bin .eql (.tmp 18) (.cst (.int .u64 1)), none⟩,
  ⟨some 22, .move (.tmp 23), none⟩])
 (.cond (.tmp 22)
 (.reg [⟨some 24, .move (.tmp 10), none⟩,
  ⟨some 25, .fieldAddr 1 1 (.tmp 3), none⟩,
  ⟨none, .store 1 (.tmp 25) (.tmp 24), none⟩])
 (.seq
 (.reg [⟨some 27, .bin .eql (.tmp 18) (.cst (.int .u64 3)), none⟩,
  ⟨some 26, .move (.tmp 27), none⟩])
 (.cond (.tmp 26)
 (.reg [⟨some 28, .move (.tmp 10), none⟩,
  ⟨some 29, .fieldAddr 2 1 (.tmp 3), none⟩,
  ⟨none, .store 1 (.tmp 29) (.tmp 28), none⟩])
 (.seq
 (.reg [⟨some 31, .bin .eql (.tmp 18) (.cst (.int .u64 5)), none⟩,
  ⟨some 30, .move (.tmp 31), none⟩])
 (.cond (.tmp 30)
 (.reg [⟨some 32, .move (.tmp 10), none⟩,
  ⟨some 33, .fieldAddr 3 1 (.tmp 3), none⟩,
  ⟨none, .store 1 (.tmp 33) (.tmp 32), none⟩])
 (.seq
 (.reg [⟨some 35, .bin .eql (.tmp 18) (.cst (.int .u64 7)), none⟩,
  ⟨some 34, .move (.tmp 35), none⟩])
 (.cond (.tmp 34)
 (.reg [⟨some 36, .move (.tmp 10), none⟩,
  ⟨some 37, .fieldAddr 4 1 (.tmp 3), none⟩,
  ⟨none, .store 1 (.tmp 37) (.tmp 36), none⟩])
 (.seq
 (.reg [⟨some 39, .bin .eql (.tmp 18) (.cst (.int .u64 9)), none⟩,
  ⟨some 38, .move (.tmp 39), none⟩])
 (.cond (.tmp 38)
 (.seq
 (.reg [⟨some 40, .load (some 32) (.tmp 8), none⟩,
  ⟨some 41, .fieldAddr 5 32 (.tmp 3), none⟩,
  ⟨none, .store 32 (.tmp 41) (.tmp 40), none⟩])
 (.seq
 (.reg [⟨some 42, .load (some 137) (.tmp 3), none⟩,
  ⟨some 43, .move (.tmp 9), none⟩,
  ⟨none, .store 137 (.tmp 6) (.tmp 42), none⟩,
  ⟨some 7, .move (.tmp 43), none⟩])
 (.ret)))
 (.seq
 (.reg [⟨some 45, .bin .eql (.tmp 18) (.cst (.int .u64 11)), none⟩,
  ⟨some 44, .move (.tmp 45), none⟩])
 (.cond (.tmp 44)
 (.seq
 (.reg [⟨some 46, .move (.tmp 2), none⟩,
  ⟨some 47, .fieldAddr 37 1 (.tmp 3), none⟩,
  ⟨none, .store 1 (.tmp 47) (.tmp 46), none⟩])
 (.seq
 (.reg [⟨some 48, .load (some 137) (.tmp 3), none⟩,
  ⟨none, .store 137 (.tmp 6) (.tmp 48), none⟩,
  ⟨some 7, .move (.cst (.bool true)), none⟩])
 (.ret)))
 (.seq
 (.reg [⟨some 50, .bin .eql (.tmp 18) (.cst (.int .u64 13)), none⟩,
  ⟨some 49, .move (.tmp 50), none⟩])
 (.cond (.tmp 49)
 (.seq
 (.reg [⟨some 51, .load (some 32) (.tmp 8), none⟩,
  ⟨some 52, .fieldAddr 38 32 (.tmp 3), none⟩,
  ⟨none, .store 32 (.tmp 52) (.tmp 51), none⟩])
 (.seq
 (.reg [⟨some 53, .load (some 137) (.tmp 3), none⟩,
  ⟨some 54, .move (.tmp 9), none⟩,
  ⟨none, .store 137 (.tmp 6) (.tmp 53), none⟩,
  ⟨some 7, .move (.tmp 54), none⟩])
 (.ret)))
 (.seq
 (.reg [⟨some 56, .bin .eql (.tmp 18) (.cst (.int .u64 15)), none⟩,
  ⟨some 55, .move (.tmp 56), none⟩])
 (.cond (.tmp 55)
 (.seq
 (.reg [⟨some 57, .load (some 32) (.tmp 8), none⟩,
  ⟨some 58, .fieldAddr 70 32 (.tmp 3), none⟩,
  ⟨none, .store 32 (.tmp 58) (.tmp 57), none⟩])
 (.seq
 (.reg [⟨some 59, .load (some 137) (.tmp 3), none⟩,
  ⟨some 60, .move (.tmp 9), none⟩,
  ⟨none, .store 137 (.tmp 6) (.tmp 59), none⟩,
  ⟨some 7, .move (.tmp 60), none⟩])
 (.ret)))
 (.seq
 (.reg [⟨some 62, .bin .eql (.tmp 18) (.cst (.int .u64 17)), none⟩,
  ⟨some 61, .move (.tmp 62), none⟩])
 (.cond (.tmp 61)
 (.seq
 (.reg [⟨some 63, .load (some 32) (.tmp 8), none⟩,
  ⟨some 64, .fieldAddr 102 32 (.tmp 3), none⟩,
  ⟨none, .store 32 (.tmp 64) (.tmp 63), none⟩])
 (.seq
 (.reg [⟨some 65, .load (some 137) (.tmp 3), none⟩,
  ⟨some 66, .move (.tmp 9), none⟩,
  ⟨none, .store 137 (.tmp 6) (.tmp 65), none⟩,
  ⟨some 7, .move (.tmp 66), none⟩])
 (.ret)))
 (.seq
 (.reg [⟨some 68, .bin .eql (.tmp 18) (.cst (.int .u64 19)), none⟩,
  ⟨some 67, .move (.tmp 68), none⟩])
 (.cond (.tmp 67)
 (.reg [⟨some 69, .move (.tmp 10), none⟩,
  ⟨some 70, .fieldAddr 134 1 (.tmp 3), none⟩,
  ⟨none, .store 1 (.tmp 70) (.tmp 69), none⟩])
 (.seq
 (.reg [⟨some 72, .bin .eql (.tmp 18) (.cst (.int .u64 21)), none⟩,
  ⟨some 71, .move (.tmp 72), none⟩])
 (.cond (.tmp 71)
 (.reg [⟨some 73, .move (.tmp 10), none⟩,
  ⟨some 74, .fieldAddr 135 1 (.tmp 3), none⟩,
  ⟨none, .store 1 (.tmp 74) (.tmp 73), none⟩])
 (.seq
 (.reg [⟨some 19, .move (.tmp 2), none⟩,
  ⟨some 20, .fieldAddr 136 1 (.tmp 3), none⟩,
  ⟨none, .store 1 (.tmp 20) (.tmp 19), none⟩])
 (.seq
 (.reg [⟨some 21, .load (some 137) (.tmp 3), none⟩,
  ⟨none, .store 137 (.tmp 6) (.tmp 21), none⟩,
  ⟨some 7, .move (.cst (.bool true)), none⟩])
 (.ret)))))))))))))))))))))))))))
 (.seq
 (.reg [⟨some 75, .load (some 137) (.tmp 3), none⟩,
  ⟨some 76, .move (.tmp 10), none⟩,
  ⟨some 77, .bin .geq (.tmp 76) (.cst (.int .i64 0)), none⟩,
  ⟨none, .store 137 (.tmp 6) (.tmp 75), none⟩,
  ⟨some 7, .move (.tmp 77), none⟩])
 (.ret)))))⟩
theorem c26 : compF Try.prog gl true [] [] Try.f26 = some F26 := by kernel_rfl
/- tollhouse/tollhouseref06.value -/
def F27 : AFn := ⟨58, true, 2, [.tmp 4], .seq
 (.reg [⟨some 2, .boxI (.tmp 0), none⟩,
  ⟨some 4, .move (.cst .nil), none⟩])
 (.seq
 (.seq
 (.reg [⟨some 5, .move (.tmp 1), none⟩])
 (.block 0
 (.seq
 (.reg [⟨some 7, .bin .eql (.tmp 5) (.cst (.int .u64 1)), none⟩,
  ⟨some 6, .move (.tmp 7), none⟩])
 (.cond (.tmp 6)
 (.seq
 (.reg [⟨some 8, .fieldAddr 1 1 (.tmp 2), none⟩,
  ⟨some 9, .load none (.tmp 8), none⟩,
  ⟨some 10, .call (.cst (.func (.func 47) [] [])) [(.tmp 9)], none⟩,
  ⟨some 4, .move (.tmp 10), none⟩])
 (.ret))
 (.seq
 (.reg [⟨some 12, .bin .eql (.tmp 5) (.cst (.int .u64 3)), none⟩,
  ⟨some 11, .move (.tmp 12), none⟩])
 (.cond (.tmp 11)
 (.seq
 (.reg [⟨some 13, .fieldAddr 2 1 (.tmp 2), none⟩,
  ⟨some 14, .load none (.tmp 13), none⟩,
  ⟨some 15, .call (.cst (.func (.func 47) [] [])) [(.tmp 14)], none⟩,
  ⟨some 4, .move (.tmp 15), none⟩])
 (.ret))
 (.seq
 (.reg [⟨some 17, .bin .eql (.tmp 5) (.cst (.int .u64 5)), none⟩,
  ⟨some 16, .move (.tmp 17), none⟩])
 (.cond (.tmp 16)
 (.seq
 (.reg [⟨some 18, .fieldAddr 3 1 (.tmp 2), none⟩,
  ⟨some 19, .load none (.tmp 18), none⟩,
  ⟨some 20, .call (.cst (.func (.func 47) [] [])) [(.tmp 19)], none⟩,
  ⟨some 4, .move (.tmp 20), none⟩])
 (.ret))
 (.seq
 (.reg [⟨some 22, .bin .eql (.tmp 5) (.cst (.int .u64 7)), none⟩,
  ⟨some 21, .move (.tmp 22), none⟩])
 (.cond (.tmp 21)
 (.seq
 (.reg [⟨some 23, .fieldAddr 4 1 (.tmp 2), none⟩,
  ⟨some 24, .load none (.tmp 23), none⟩,
  ⟨some 25, .call (.cst (.func (.func 47) [] [])) [(.tmp 24)], none⟩,
  ⟨some 4, .move (.tmp 25), none⟩])
 (.ret))
 (.seq
 (.reg [⟨some 27, .bin .eql (.tmp 5) (.cst (.int .u64 9)), none⟩,
  ⟨some 26, .move (.tmp 27), none⟩])
 (.cond (.tmp 26)
 (.seq
 (.reg [⟨some 28, .fieldAddr 5 32 (.tmp 2), none⟩,
  ⟨some 29, .slice (.arr 32) none (.tmp 28) none none none, none⟩,
  ⟨some 4, .move (.tmp 29), none⟩])
 (.ret))
 (.seq
 (.reg [⟨some 31, .bin .eql (.tmp 5) (.cst (.int .u64 11)), none⟩,
  ⟨some 30, .move (.tmp 31), none⟩])
 (.cond (.tmp 30)
 (.seq
 (.reg [⟨some 32, .fieldAddr 37 1 (.tmp 2), none⟩,
  ⟨some 33, .load none (.tmp 32), none⟩,
  ⟨some 4, .move (.tmp 33), none⟩])
 (.ret))
 (.seq
 (.reg [⟨some 35, .bin .eql (.tmp 5) (.cst (.int .u64 13)), none⟩,
  ⟨some 34, .move (.tmp 35), none⟩])
 (.cond (.tmp 34)
 (.seq
 (.reg [⟨some 36, .fieldAddr 38 32 (.tmp 2), none⟩,
  ⟨some 37, .slice (.arr 32) none (.tmp 36) none none none, none⟩,
  ⟨some 4, .move (.tmp 37), none⟩])
 (.ret))
 (.seq
 (.reg [⟨some 39, .bin .eql (.tmp 5) (.cst (.int .u64 15)), none⟩,
  ⟨some 38, .move (.tmp 39), none⟩])
 (.cond (.tmp 38)
 (.seq
 (.reg [⟨some 40, .fieldAddr 70 32 (.tmp 2), none⟩,
  ⟨some 41, .slice (.arr 32) none (.tmp 40) none none none, none⟩,
  ⟨some 4, .move (.tmp 41), none⟩])
 (.ret))
 (.seq
 (.reg [⟨some 43, .bin .eql (.tmp 5) (.cst (.int .u64 17)), none⟩,
  ⟨some 42, .move (.tmp 43), none⟩])
 (.cond (.tmp 42)
 (.seq
 (.reg [⟨some 44, .fieldAddr 102 32 (.tmp 2), none⟩,
  ⟨some 45, .slice (.arr 32) none (.tmp 44) none none none, none⟩,
  ⟨some 4, .move (.tmp 45), none⟩])
 (.ret))
 (.seq
 (.reg [⟨some 47, .bin .eql (.tmp 5) (.cst (.int .u64 19)), none⟩,
  ⟨some 46, .move (.tmp 47), none⟩])
 (.cond (.tmp 46)
 (.seq
 (.reg [⟨some 48, .fieldAddr 134 1 (.tmp 2), none⟩,
  ⟨some 49, .load none (.tmp 48), none⟩,
  ⟨some 50, .call (.cst (.func (.func 47) [] [])) [(.tmp 49)], none⟩,
  ⟨some 4, .move (.tmp 50), none⟩])
 (.ret))
 (.seq
 (.reg [⟨some 52, .bin .eql (.tmp 5) (.cst (.int .u64 21)), none⟩,
  ⟨some 51, .move (.tmp 52), none⟩])
 (.cond (.tmp 51)
 (.seq
 (.reg [⟨some 53, .fieldAddr 135 1 (.tmp 2), none⟩,
  ⟨some 54, .load none (.tmp 53), none⟩,
  ⟨some 55, .call (.cst (.func (.func 47) [] [])) [(.tmp 54)], none⟩,
  ⟨some 4, .move (.tmp 55), none⟩])
 (.ret))
 (.skip)))))))))))))))))))))))))
 (.seq
 (.reg [⟨some 56, .fieldAddr 136 1 (.tmp 2), none⟩,
  ⟨some 57, .load none (.tmp 56), none⟩,
  ⟨some 4, .move (.tmp 57), none⟩])
 (.ret)))⟩
theorem c27 : compF Try.prog gl true [(2, (some 0))] [] Try.f27 = some F27 := by kernel_rfl
def L28_0 : AC := .seq
 (.seq
 (.reg [⟨some 28, .move (.tmp 6), none⟩,
  ⟨some 29, .move (.tmp 0), none⟩,
  ⟨some 30, .len (.tmp 29), none⟩,
  ⟨some 31, .bin .lss (.tmp 28) (.tmp 30), none⟩])
 (.cond (.tmp 31)
 (.skip)
 (.exit 2)))
 (.seq
 (.block 3
 (.seq
 (.regD [⟨some 34, .move (.tmp 5), none⟩,
  ⟨some 35, .move (.tmp 0), none⟩,
  ⟨some 36, .move (.tmp 6), none⟩,
  ⟨some 37, .indexAddr .slice (some 2) (.tmp 35) (.tmp 36), none⟩,
  ⟨some 38, .fieldAddr 0 1 (.tmp 37), none⟩,
  ⟨some 39, .load none (.tmp 38), none⟩,
  ⟨some 40, .call (.cst (.func (.func 48) [] [])) [(.tmp 39)], none⟩,
  ⟨some 41, .append none 1 (.tmp 34) (.tmp 40), none⟩,
  ⟨some 42, .move (.tmp 0), none⟩,
  ⟨some 43, .move (.tmp 6), none⟩,
  ⟨some 44, .indexAddr .slice (some 2) (.tmp 42) (.tmp 43), none⟩,
  ⟨some 45, .fieldAddr 1 1 (.tmp 44), none⟩,
  ⟨some 46, .load none (.tmp 45), none⟩,
  ⟨some 47, .len (.tmp 46), none⟩,
  ⟨some 48, .convInt .u64 (.tmp 47), none⟩,
  ⟨some 49, .call (.cst (.func (.func 48) [] [])) [(.tmp 48)], none⟩,
  ⟨some 50, .append none 1 (.tmp 41) (.tmp 49), none⟩,
  ⟨some 5, .move (.tmp 50), none⟩] [(0, 1), (0, 0), (0, 0), (0, 0), (0, 0), (0, 0), (0, 0), (1, 1), (0, 2), (0, 2), (0, 2), (0, 2), (0, 2), (0, 2), (0, 2), (2, 2), (3, 3), (4, 4)])
 (.seq
 (.reg [⟨some 51, .move (.tmp 5), none⟩,
  ⟨some 52, .move (.tmp 0), none⟩,
  ⟨some 53, .move (.tmp 6), none⟩,
  ⟨some 54, .indexAddr .slice (some 2) (.tmp 52) (.tmp 53), none⟩,
  ⟨some 55, .fieldAddr 1 1 (.tmp 54), none⟩,
  ⟨some 56, .load none (.tmp 55), none⟩,
  ⟨some 57, .append none 1 (.tmp 51) (.tmp 56), none⟩,
  ⟨some 5, .move (.tmp 57), none⟩])
 (.seq
 (.reg [⟨some 58, .move (.tmp 5), none⟩,
  ⟨some 59, .len (.tmp 58), none⟩,
  ⟨some 60, .bin .gtr (.tmp 59) (.cst (.int .i64 65536)), none⟩])
 (.cond (.tmp 60)
 (.seq
 (.reg [⟨some 2, .move (.cst .nil), none⟩,
  ⟨some 3, .move (.cst (.int .i64 3)), none⟩])
 (.ret))
 (.skip))))))
 (.reg [⟨some 32, .move (.tmp 6), none⟩,
  ⟨some 33, .bin .add (.tmp 32) (.cst (.int .i64 1)), none⟩,
  ⟨some 6, .move (.tmp 33), none⟩]))
def L28_1 : AC := .seq
 (.seq
 (.reg [⟨some 7, .move (.tmp 4), none⟩,
  ⟨some 8, .move (.tmp 0), none⟩,
  ⟨some 9, .len (.tmp 8), none⟩,
  ⟨some 10, .bin .lss (.tmp 7) (.tmp 9), none⟩])
 (.cond (.tmp 10)
 (.skip)
 (.exit 0)))
 (.seq
 (.block 1
 (.seq
 (.regQ [⟨some 13, .move (.tmp 0), none⟩,
  ⟨some 14, .move (.tmp 4), none⟩,
  ⟨some 15, .indexAddr .slice (some 2) (.tmp 13) (.tmp 14), none⟩,
  ⟨some 16, .fieldAddr 0 1 (.tmp 15), none⟩,
  ⟨some 17, .load none (.tmp 16), none⟩,
  ⟨some 18, .move (.tmp 0), none⟩,
  ⟨some 19, .move (.tmp 4), none⟩,
  ⟨some 20, .bin .sub (.tmp 19) (.cst (.int .i64 1)), none⟩,
  ⟨some 21, .indexAddr .slice (some 2) (.tmp 18) (.tmp 20), none⟩,
  ⟨some 22, .fieldAddr 0 1 (.tmp 21), none⟩,
  ⟨some 23, .load none (.tmp 22), none⟩,
  ⟨some 24, .bin .leq (.tmp 17) (.tmp 23), none⟩])
 (.cond (.tmp 24)
 (.seq
 (.reg [⟨some 2, .move (.cst .nil), none⟩,
  ⟨some 3, .move (.cst (.int .i64 11)), none⟩])
 (.ret))
 (.skip))))
 (.reg [⟨some 11, .move (.tmp 4), none⟩,
  ⟨some 12, .bin .add (.tmp 11) (.cst (.int .i64 1)), none⟩,
  ⟨some 4, .move (.tmp 12), none⟩]))
/- tollhouse/tollhouseref01.Encode -/
def F28 : AFn := ⟨62, true, 1, [.tmp 2, .tmp 3], .seq
 (.reg [⟨some 2, .move (.cst .nil), none⟩,
  ⟨some 3, .move (.cst (.int .i64 0)), none⟩])
 (.seq
 (.seq
 (.reg [⟨some 4, .move (.cst (.int .i64 1)), none⟩])
 (.block 0
 (.loop [0, 4] false L28_1)))
 (.seq
 (.seq
 (.reg [⟨some 25, .move (.tmp 0), none⟩,
  ⟨some 26, .len (.tmp 25), none⟩,
  ⟨some 27, .bin .gtr (.tmp 26) (.cst (.int .i64 64)), none⟩])
 (.cond (.tmp 27)
 (.seq
 (.reg [⟨some 2, .move (.cst .nil), none⟩,
  ⟨some 3, .move (.cst (.int .i64 3)), none⟩])
 (.ret))
 (.skip)))
 (.seq
 (.reg [⟨some 5, .acc none (.cst .nil), none⟩])
 (.seq
 (.seq
 (.reg [⟨some 6, .move (.cst (.int .i64 0)), none⟩])
 (.block 2
 (.loop [0, 5, 6] false L28_0)))
 (.seq
 (.reg [⟨some 61, .move (.tmp 5), none⟩,
  ⟨some 2, .move (.tmp 61), none⟩,
  ⟨some 3, .move (.cst (.int .i64 0)), none⟩])
 (.ret))))))⟩
theorem c28 : compF Try.prog gl true [(5, none)] [([0, 4], false), ([0, 5, 6], false)] Try.f28 = some F28 := by kernel_rfl
/- tollhouse/bigsize.Size -/
def F29 : AFn := ⟨12, true, 1, [.tmp 2], .seq
 (.reg [⟨some 2, .move (.cst (.int .i64 0)), none⟩])
 (.seq
 (.reg [⟨some 6, .move (.tmp 0), none⟩,
  ⟨some 7, .call (.cst (.func (.func 49) [] [])) [(.tmp 6)], none⟩,
  ⟨some 5, .move (.tmp 7), none⟩,
  ⟨some 8, .extract (.tmp 5) 0, none⟩,
  ⟨some 9, .extract (.tmp 5) 1, none⟩,
  ⟨some 3, .move (.tmp 8), none⟩,
  ⟨some 4, .move (.tmp 9), none⟩])
 (.seq
 (.reg [⟨some 10, .move (.tmp 4), none⟩,
  ⟨some 11, .bin .add (.tmp 10) (.cst (.int .i64 1)), none⟩,
  ⟨some 2, .move (.tmp 11), none⟩])
 (.ret)))⟩
theorem c29 : compF Try.prog gl true [] [] Try.f29 = some F29 := by kernel_rfl
def L30_0 : AC := .seq
 (.seq
 (.reg [⟨some 31, .move (.tmp 7), none⟩,
  ⟨some 32, .bin .geq (.tmp 31) (.cst (.int .i64 0)), none⟩])
 (.cond (.tmp 32)
 (.skip)
 (.exit 0)))
 (.seq
 (.block 1
 (.reg [⟨some 35, .move (.tmp 5), none⟩,
  ⟨some 36, .move (.tmp 1), none⟩,
  ⟨some 37, .move (.tmp 7), none⟩,
  ⟨some 38, .bin .mul (.cst (.int .i64 8)) (.tmp 37), none⟩,
  ⟨some 39, .bin .shr (.tmp 36) (.tmp 38), none⟩,
  ⟨some 40, .convInt .u8 (.tmp 39), none⟩,
  ⟨some 41, .buildSlice none (.int .u8 0) 1 [(0, (.tmp 40))], none⟩,
  ⟨some 42, .append none 1 (.tmp 35) (.tmp 41), none⟩,
  ⟨some 5, .move (.tmp 42), none⟩]))
 (.reg [⟨some 33, .move (.tmp 7), none⟩,
  ⟨some 34, .bin .sub (.tmp 33) (.cst (.int .i64 1)), none⟩,
  ⟨some 7, .move (.tmp 34), none⟩]))
/- tollhouse/bigsize.Put -/
def F30 : AFn := ⟨44, true, 2, [.tmp 4], .seq
 (.reg [⟨some 4, .move (.cst .nil), none⟩])
 (.seq
 (.reg [⟨some 8, .move (.tmp 0), none⟩,
  ⟨some 9, .call (.cst (.func (.func 36) [] [])) [(.tmp 8)], none⟩,
  ⟨some 10, .move (.tmp 1), none⟩,
  ⟨some 11, .call (.cst (.func (.func 29) [] [])) [(.tmp 10)], none⟩,
  ⟨some 12, .call (.cst (.func (.func 50) [] [])) [(.tmp 9), (.tmp 11)], none⟩,
  ⟨some 5, .move (.tmp 12), none⟩])
 (.seq
 (.reg [⟨some 14, .move (.tmp 1), none⟩,
  ⟨some 15, .call (.cst (.func (.func 49) [] [])) [(.tmp 14)], none⟩,
  ⟨some 13, .move (.tmp 15), none⟩,
  ⟨some 16, .extract (.tmp 13) 0, none⟩,
  ⟨some 17, .extract (.tmp 13) 1, none⟩,
  ⟨some 6, .move (.tmp 16), none⟩,
  ⟨some 7, .move (.tmp 17), none⟩])
 (.seq
 (.seq
 (.reg [⟨some 18, .move (.tmp 7), none⟩,
  ⟨some 19, .bin .eql (.tmp 18) (.cst (.int .i64 0)), none⟩])
 (.cond (.tmp 19)
 (.seq
 (.reg [⟨some 20, .move (.tmp 5), none⟩,
  ⟨some 21, .move (.tmp 1), none⟩,
  ⟨some 22, .convInt .u8 (.tmp 21), none⟩,
  ⟨some 23, .buildSlice none (.int .u8 0) 1 [(0, (.tmp 22))], none⟩,
  ⟨some 24, .append none 1 (.tmp 20) (.tmp 23), none⟩,
  ⟨some 4, .move (.tmp 24), none⟩])
 (.ret))
 (.skip)))
 (.seq
 (.reg [⟨some 25, .move (.tmp 5), none⟩,
  ⟨some 26, .move (.tmp 6), none⟩,
  ⟨some 27, .buildSlice none (.int .u8 0) 1 [(0, (.tmp 26))], none⟩,
  ⟨some 28, .append none 1 (.tmp 25) (.tmp 27), none⟩,
  ⟨some 5, .move (.tmp 28), none⟩])
 (.seq
 (.seq
 (.reg [⟨some 29, .move (.tmp 7), none⟩,
  ⟨some 30, .bin .sub (.tmp 29) (.cst (.int .i64 1)), none⟩,
  ⟨some 7, .move (.tmp 30), none⟩])
 (.block 0
 (.loop [1, 5, 7] true L30_0)))
 (.seq
 (.reg [⟨some 43, .move (.tmp 5), none⟩,
  ⟨some 4, .move (.tmp 43), none⟩])
 (.ret)))))))⟩
theorem c30 : compF Try.prog gl true [] [([1, 5, 7], true)] Try.f30 = some F30 := by kernel_rfl
def L31_0 : AC := .seq
 (.seq
 (.reg [⟨some 17, .move (.tmp 7), none⟩,
  ⟨some 18, .bin .gtr (.tmp 17) (.cst (.int .i64 0)), none⟩])
 (.cond (.tmp 18)
 (.skip)
 (.exit 0)))
 (.seq
 (.block 1
 (.reg [⟨some 21, .move (.tmp 6), none⟩,
  ⟨some 22, .move (.tmp 7), none⟩,
  ⟨some 23, .convInt .u8 (.tmp 22), none⟩,
  ⟨some 24, .buildSlice none (.int .u8 0) 1 [(0, (.tmp 23))], none⟩,
  ⟨some 25, .appendV none 1 (.tmp 21) (.tmp 24), none⟩,
  ⟨some 6, .move (.tmp 25), none⟩]))
 (.reg [⟨some 19, .move (.tmp 7), none⟩,
  ⟨some 20, .bin .shr (.tmp 19) (.cst (.int .u64 8)), none⟩,
  ⟨some 7, .move (.tmp 20), none⟩]))
/- tollhouse/wire.get -/
def F31 : AFn := ⟨42, true, 2, [.tmp 4], .seq
 (.reg [⟨some 4, .move (.cst .nil), none⟩])
 (.seq
 (.seq
 (.reg [⟨some 9, .move (.tmp 0), none⟩,
  ⟨some 10, .move (.tmp 1), none⟩,
  ⟨some 11, .call (.cst (.func (.func 34) [] [])) [(.tmp 9), (.tmp 10)], none⟩,
  ⟨some 5, .move (.tmp 11), none⟩])
 (.seq
 (.reg [⟨some 12, .move (.tmp 5), none⟩,
  ⟨some 13, .eqNil true .ptr (.tmp 12), none⟩])
 (.cond (.tmp 13)
 (.seq
 (.reg [⟨some 6, .move (.cst .nil), none⟩])
 (.seq
 (.seq
 (.reg [⟨some 14, .move (.tmp 5), none⟩,
  ⟨some 15, .nilCheck (.tmp 14), none⟩,
  ⟨some 16, .load none (.tmp 15), none⟩,
  ⟨some 7, .move (.tmp 16), none⟩])
 (.block 0
 (.loop [6, 7] false L31_0)))
 (.seq
 (.reg [⟨some 26, .move (.tmp 6), none⟩,
  ⟨some 27, .call (.cst (.func (.func 51) [] [])) [(.tmp 26)], none⟩])
 (.seq
 (.reg [⟨some 28, .move (.tmp 6), none⟩,
  ⟨some 4, .move (.tmp 28), none⟩])
 (.ret)))))
 (.skip))))
 (.seq
 (.seq
 (.reg [⟨some 29, .move (.tmp 0), none⟩,
  ⟨some 30, .move (.tmp 1), none⟩,
  ⟨some 31, .call (.cst (.func (.func 35) [] [])) [(.tmp 29), (.tmp 30)], none⟩,
  ⟨some 8, .move (.tmp 31), none⟩])
 (.seq
 (.reg [⟨some 32, .move (.tmp 8), none⟩,
  ⟨some 33, .eqNil true .ptr (.tmp 32), none⟩])
 (.cond (.tmp 33)
 (.seq
 (.reg [⟨some 34, .move (.tmp 8), none⟩,
  ⟨some 35, .nilCheck (.tmp 34), none⟩,
  ⟨some 36, .slice (.arr 32) none (.tmp 35) none none none, none⟩,
  ⟨some 4, .move (.tmp 36), none⟩])
 (.ret))
 (.skip))))
 (.seq
 (.reg [⟨some 37, .move (.tmp 0), none⟩,
  ⟨some 38, .move (.tmp 1), none⟩,
  ⟨some 39, .call (.cst (.func (.func 37) [] [])) [(.tmp 37), (.tmp 38)], none⟩,
  ⟨some 40, .nilCheck (.tmp 39), none⟩,
  ⟨some 41, .load none (.tmp 40), none⟩,
  ⟨some 4, .move (.tmp 41), none⟩])
 (.ret))))⟩
theorem c31 : compF Try.prog gl true [(25, (some 0))] [([6, 7], false)] Try.f31 = some F31 := by kernel_rfl
/- tollhouse/wire.May$1 -/
def F32 : AFn := ⟨15, true, 3, [.tmp 6], .seq
 (.reg [⟨some 6, .move (.cst (.bool false)), none⟩])
 (.seq
 (.reg [⟨some 7, .move (.tmp 0), none⟩,
  ⟨some 8, .move (.tmp 1), none⟩,
  ⟨some 9, .bin .geq (.tmp 7) (.tmp 8), none⟩,
  ⟨some 10, .move (.tmp 9), none⟩,
  ⟨some 11, .move (.tmp 0), some (10, true)⟩,
  ⟨some 12, .move (.tmp 2), some (10, true)⟩,
  ⟨some 13, .bin .leq (.tmp 11) (.tmp 12), some (10, true)⟩,
  ⟨some 14, .pick (.tmp 10) (.tmp 13) (.cst (.bool false)), none⟩,
  ⟨some 6, .move (.tmp 14), none⟩])
 (.ret))⟩
theorem c32 : compF Try.prog gl true [] [] Try.f32 = some F32 := by kernel_rfl
def L33_0 : AC := .seq
 (.seq
 (.reg [⟨some 11, .move (.tmp 4), none⟩,
  ⟨some 12, .bin .leq (.tmp 11) (.cst (.int .u64 23)), none⟩])
 (.cond (.tmp 12)
 (.skip)
 (.exit 0)))
 (.seq
 (.block 1
 (.seq
 (.seq
 (.reg [⟨some 15, .move (.tmp 3), none⟩,
  ⟨some 16, .move (.tmp 4), none⟩,
  ⟨some 17, .call (.cst (.func (.func 40) [] [])) [(.tmp 15), (.tmp 16)], none⟩])
 (.cond (.tmp 17)
 (.exit 1)
 (.skip)))
 (.seq
 (.reg [⟨some 18, .move (.tmp 4), none⟩,
  ⟨some 19, .call (.cst (.func (.func 34) [] [])) [(.tmp 1), (.tmp 18)], none⟩,
  ⟨some 20, .move (.tmp 4), none⟩,
  ⟨some 21, .call (.cst (.func (.func 35) [] [])) [(.tmp 1), (.tmp 20)], none⟩,
  ⟨some 22, .move (.tmp 4), none⟩,
  ⟨some 23, .call (.cst (.func (.func 37) [] [])) [(.tmp 1), (.tmp 22)], none⟩,
  ⟨some 5, .move (.tmp 19), none⟩,
  ⟨some 6, .move (.tmp 21), none⟩,
  ⟨some 7, .move (.tmp 23), none⟩])
 (.seq
 (.reg [⟨some 24, .move (.tmp 5), none⟩,
  ⟨some 25, .eqNil true .ptr (.tmp 24), none⟩,
  ⟨some 26, .move (.tmp 25), none⟩,
  ⟨some 27, .move (.tmp 5), some (26, true)⟩,
  ⟨some 28, .nilCheck (.tmp 27), some (26, true)⟩,
  ⟨some 29, .load none (.tmp 28), some (26, true)⟩,
  ⟨some 30, .bin .neq (.tmp 29) (.cst (.int .i64 0)), some (26, true)⟩,
  ⟨some 31, .pick (.tmp 26) (.tmp 30) (.cst (.bool false)), none⟩,
  ⟨some 32, .move (.tmp 31), none⟩,
  ⟨some 33, .move (.tmp 6), some (32, false)⟩,
  ⟨some 34, .eqNil true .ptr (.tmp 33), some (32, false)⟩,
  ⟨some 35, .move (.tmp 34), some (32, false)⟩,
  ⟨some 36, .move (.tmp 6), some (35, true)⟩,
  ⟨some 37, .nilCheck (.tmp 36), some (35, true)⟩,
  ⟨some 38, .load (some 32) (.tmp 37), some (35, true)⟩,
  ⟨some 39, .build [(.int .u8 0), (.int .u8 0), (.int .u8 0), (.int .u8 0), (.int .u8 0), (.int .u8 0), (.int .u8 0), (.int .u8 0), (.int .u8 0), (.int .u8 0), (.int .u8 0), (.int .u8 0), (.int .u8 0), (.int .u8 0), (.int .u8 0), (.int .u8 0), (.int .u8 0), (.int .u8 0), (.int .u8 0), (.int .u8 0), (.int .u8 0), (.int .u8 0), (.int .u8 0), (.int .u8 0), (.int .u8 0), (.int .u8 0), (.int .u8 0), (.int .u8 0), (.int .u8 0), (.int .u8 0), (.int .u8 0), (.int .u8 0)] [], some (35, true)⟩,
  ⟨some 40, .eqArr true 32 (.tmp 38) (.tmp 39), some (35, true)⟩,
  ⟨some 41, .pick (.tmp 35) (.tmp 40) (.cst (.bool false)), some (32, false)⟩,
  ⟨some 42, .pick (.tmp 32) (.cst (.bool true)) (.tmp 41), none⟩,
  ⟨some 43, .move (.tmp 42), none⟩,
  ⟨some 44, .move (.tmp 7), some (43, false)⟩,
  ⟨some 45, .eqNil true .ptr (.tmp 44), some (43, false)⟩,
  ⟨some 46, .move (.tmp 45), some (43, false)⟩,
  ⟨some 47, .move (.tmp 7), some (46, true)⟩,
  ⟨some 48, .nilCheck (.tmp 47), some (46, true)⟩,
  ⟨some 49, .load none (.tmp 48), some (46, true)⟩,
  ⟨some 50, .len (.tmp 49), some (46, true)⟩,
  ⟨some 51, .bin .gtr (.tmp 50) (.cst (.int .i64 0)), some (46, true)⟩,
  ⟨some 52, .pick (.tmp 46) (.tmp 51) (.cst (.bool false)), some (43, false)⟩,
  ⟨some 53, .pick (.tmp 43) (.cst (.bool true)) (.tmp 52), none⟩])
 (.cond (.tmp 53)
 (.seq
 (.reg [⟨some 2, .move (.cst (.bool false)), none⟩])
 (.ret))
 (.skip))))))
 (.reg [⟨some 13, .move (.tmp 4), none⟩,
  ⟨some 14, .bin .add (.tmp 13) (.cst (.int .u64 2)), none⟩,
  ⟨some 4, .move (.tmp 14), none⟩]))
/- tollhouse/wire.isBare -/
def F33 : AFn := ⟨54, true, 1, [.tmp 2], .seq
 (.reg [⟨some 1, .boxI (.tmp 0), none⟩,
  ⟨some 2, .move (.cst (.bool false)), none⟩])
 (.seq
 (.reg [⟨some 8, .fieldAddr 0 1 (.tmp 1), none⟩,
  ⟨some 9, .load none (.tmp 8), none⟩,
  ⟨some 10, .call (.cst (.func (.func 20) [] [])) [(.tmp 9)], none⟩,
  ⟨some 3, .move (.tmp 10), none⟩])
 (.seq
 (.seq
 (.reg [⟨some 4, .move (.cst (.int .u64 1)), none⟩])
 (.block 0
 (.loop [1, 3, 4] true L33_0)))
 (.seq
 (.reg [⟨some 2, .move (.cst (.bool true)), none⟩])
 (.ret))))⟩
theorem c33 : compF Try.prog gl true [(1, (some 0))] [([1, 3, 4], true)] Try.f33 = some F33 := by kernel_rfl
/- tollhouse/wire.numbers -/
def F34 : AFn := ⟨36, false, 2, [.tmp 4], .seq
 (.reg [⟨some 4, .move (.cst (.sc (.pointer none))), none⟩])
 (.seq
 (.seq
 (.reg [⟨some 5, .move (.tmp 1), none⟩])
 (.block 0
 (.seq
 (.reg [⟨some 7, .bin .eql (.tmp 5) (.cst (.int .u64 1)), none⟩,
  ⟨some 6, .move (.tmp 7), none⟩])
 (.cond (.tmp 6)
 (.seq
 (.reg [⟨some 8, .move (.tmp 0), none⟩,
  ⟨some 9, .nilCheck (.tmp 8), none⟩,
  ⟨some 10, .fieldAddr 1 1 (.tmp 9), none⟩,
  ⟨some 4, .move (.tmp 10), none⟩])
 (.ret))
 (.seq
 (.reg [⟨some 12, .bin .eql (.tmp 5) (.cst (.int .u64 3)), none⟩,
  ⟨some 11, .move (.tmp 12), none⟩])
 (.cond (.tmp 11)
 (.seq
 (.reg [⟨some 13, .move (.tmp 0), none⟩,
  ⟨some 14, .nilCheck (.tmp 13), none⟩,
  ⟨some 15, .fieldAddr 2 1 (.tmp 14), none⟩,
  ⟨some 4, .move (.tmp 15), none⟩])
 (.ret))
 (.seq
 (.reg [⟨some 17, .bin .eql (.tmp 5) (.cst (.int .u64 5)), none⟩,
  ⟨some 16, .move (.tmp 17), none⟩])
 (.cond (.tmp 16)
 (.seq
 (.reg [⟨some 18, .move (.tmp 0), none⟩,
  ⟨some 19, .nilCheck (.tmp 18), none⟩,
  ⟨some 20, .fieldAddr 3 1 (.tmp 19), none⟩,
  ⟨some 4, .move (.tmp 20), none⟩])
 (.ret))
 (.seq
 (.reg [⟨some 22, .bin .eql (.tmp 5) (.cst (.int .u64 7)), none⟩,
  ⟨some 21, .move (.tmp 22), none⟩])
 (.cond (.tmp 21)
 (.seq
 (.reg [⟨some 23, .move (.tmp 0), none⟩,
  ⟨some 24, .nilCheck (.tmp 23), none⟩,
  ⟨some 25, .fieldAddr 4 1 (.tmp 24), none⟩,
  ⟨some 4, .move (.tmp 25), none⟩])
 (.ret))
 (.seq
 (.reg [⟨some 27, .bin .eql (.tmp 5) (.cst (.int .u64 19)), none⟩,
  ⟨some 26, .move (.tmp 27), none⟩])
 (.cond (.tmp 26)
 (.seq
 (.reg [⟨some 28, .move (.tmp 0), none⟩,
  ⟨some 29, .nilCheck (.tmp 28), none⟩,
  ⟨some 30, .fieldAddr 134 1 (.tmp 29), none⟩,
  ⟨some 4, .move (.tmp 30), none⟩])
 (.ret))
 (.seq
 (.reg [⟨some 32, .bin .eql (.tmp 5) (.cst (.int .u64 21)), none⟩,
  ⟨some 31, .move (.tmp 32), none⟩])
 (.cond (.tmp 31)
 (.seq
 (.reg [⟨some 33, .move (.tmp 0), none⟩,
  ⟨some 34, .nilCheck (.tmp 33), none⟩,
  ⟨some 35, .fieldAddr 135 1 (.tmp 34), none⟩,
  ⟨some 4, .move (.tmp 35), none⟩])
 (.ret))
 (.skip)))))))))))))))
 (.seq
 (.reg [⟨some 4, .move (.cst (.sc (.pointer none))), none⟩])
 (.ret)))⟩
theorem c34 : compF Try.prog gl false [] [] Try.f34 = some F34 := by kernel_rfl
/- tollhouse/wire.hashes -/
def F35 : AFn := ⟨26, false, 2, [.tmp 4], .seq
 (.reg [⟨some 4, .move (.cst (.sc (.pointer none))), none⟩])
 (.seq
 (.seq
 (.reg [⟨some 5, .move (.tmp 1), none⟩])
 (.block 0
 (.seq
 (.reg [⟨some 7, .bin .eql (.tmp 5) (.cst (.int .u64 9)), none⟩,
  ⟨some 6, .move (.tmp 7), none⟩])
 (.cond (.tmp 6)
 (.seq
 (.reg [⟨some 8, .move (.tmp 0), none⟩,
  ⟨some 9, .nilCheck (.tmp 8), none⟩,
  ⟨some 10, .fieldAddr 5 32 (.tmp 9), none⟩,
  ⟨some 4, .move (.tmp 10), none⟩])
 (.ret))
 (.seq
 (.reg [⟨some 12, .bin .eql (.tmp 5) (.cst (.int .u64 13)), none⟩,
  ⟨some 11, .move (.tmp 12), none⟩])
 (.cond (.tmp 11)
 (.seq
 (.reg [⟨some 13, .move (.tmp 0), none⟩,
  ⟨some 14, .nilCheck (.tmp 13), none⟩,
  ⟨some 15, .fieldAddr 38 32 (.tmp 14), none⟩,
  ⟨some 4, .move (.tmp 15), none⟩])
 (.ret))
 (.seq
 (.reg [⟨some 17, .bin .eql (.tmp 5) (.cst (.int .u64 15)), none⟩,
  ⟨some 16, .move (.tmp 17), none⟩])
 (.cond (.tmp 16)
 (.seq
 (.reg [⟨some 18, .move (.tmp 0), none⟩,
  ⟨some 19, .nilCheck (.tmp 18), none⟩,
  ⟨some 20, .fieldAddr 70 32 (.tmp 19), none⟩,
  ⟨some 4, .move (.tmp 20), none⟩])
 (.ret))
 (.seq
 (.reg [⟨some 22, .bin .eql (.tmp 5) (.cst (.int .u64 17)), none⟩,
  ⟨some 21, .move (.tmp 22), none⟩])
 (.cond (.tmp 21)
 (.seq
 (.reg [⟨some 23, .move (.tmp 0), none⟩,
  ⟨some 24, .nilCheck (.tmp 23), none⟩,
  ⟨some 25, .fieldAddr 102 32 (.tmp 24), none⟩,
  ⟨some 4, .move (.tmp 25), none⟩])
 (.ret))
 (.skip)))))))))))
 (.seq
 (.reg [⟨some 4, .move (.cst (.sc (.pointer none))), none⟩])
 (.ret)))⟩
theorem c35 : compF Try.prog gl false [] [] Try.f35 = some F35 := by kernel_rfl
/- slices.Clone[[]byte,byte] -/
def F36 : AFn := ⟨8, true, 1, [.tmp 2], .seq
 (.reg [⟨some 2, .move (.cst .nil), none⟩])
 (.seq
 (.seq
 (.reg [⟨some 3, .move (.tmp 0), none⟩,
  ⟨some 4, .eqNil false .slice (.tmp 3), none⟩])
 (.cond (.tmp 4)
 (.seq
 (.reg [⟨some 2, .move (.cst .nil), none⟩])
 (.ret))
 (.skip)))
 (.seq
 (.reg [⟨some 5, .buildSlice none (.int .u8 0) 0 [], none⟩,
  ⟨some 6, .move (.tmp 0), none⟩,
  ⟨some 7, .append none 1 (.tmp 5) (.tmp 6), none⟩,
  ⟨some 2, .move (.tmp 7), none⟩])
 (.ret)))⟩
theorem c36 : compF Try.prog gl true [] [] Try.f36 = some F36 := by kernel_rfl
/- tollhouse/wire.texts -/
def F37 : AFn := ⟨16, false, 2, [.tmp 4], .seq
 (.reg [⟨some 4, .move (.cst (.sc (.pointer none))), none⟩])
 (.seq
 (.seq
 (.reg [⟨some 5, .move (.tmp 1), none⟩])
 (.block 0
 (.seq
 (.reg [⟨some 7, .bin .eql (.tmp 5) (.cst (.int .u64 11)), none⟩,
  ⟨some 6, .move (.tmp 7), none⟩])
 (.cond (.tmp 6)
 (.seq
 (.reg [⟨some 8, .move (.tmp 0), none⟩,
  ⟨some 9, .nilCheck (.tmp 8), none⟩,
  ⟨some 10, .fieldAddr 37 1 (.tmp 9), none⟩,
  ⟨some 4, .move (.tmp 10), none⟩])
 (.ret))
 (.seq
 (.reg [⟨some 12, .bin .eql (.tmp 5) (.cst (.int .u64 23)), none⟩,
  ⟨some 11, .move (.tmp 12), none⟩])
 (.cond (.tmp 11)
 (.seq
 (.reg [⟨some 13, .move (.tmp 0), none⟩,
  ⟨some 14, .nilCheck (.tmp 13), none⟩,
  ⟨some 15, .fieldAddr 136 1 (.tmp 14), none⟩,
  ⟨some 4, .move (.tmp 15), none⟩])
 (.ret))
 (.skip)))))))
 (.seq
 (.reg [⟨some 4, .move (.cst (.sc (.pointer none))), none⟩])
 (.ret)))⟩
theorem c37 : compF Try.prog gl false [] [] Try.f37 = some F37 := by kernel_rfl
/- tollhouse/tollhouseref06.copied -/
def F38 : AFn := ⟨69, true, 3, [.cell 6 (some 137)], .seq
 (.reg [⟨some 3, .box (.tmp 0), none⟩,
  ⟨some 4, .boxI (.tmp 1), none⟩,
  ⟨some 6, .alloc [(.int .i64 0), (.int .i64 0), (.int .i64 0), (.int .i64 0), (.int .i64 0), (.int .u8 0), (.int .u8 0), (.int .u8 0), (.int .u8 0), (.int .u8 0), (.int .u8 0), (.int .u8 0), (.int .u8 0), (.int .u8 0), (.int .u8 0), (.int .u8 0), (.int .u8 0), (.int .u8 0), (.int .u8 0), (.int .u8 0), (.int .u8 0), (.int .u8 0), (.int .u8 0), (.int .u8 0), (.int .u8 0), (.int .u8 0), (.int .u8 0), (.int .u8 0), (.int .u8 0), (.int .u8 0), (.int .u8 0), (.int .u8 0), (.int .u8 0), (.int .u8 0), (.int .u8 0), (.int .u8 0), (.int .u8 0), .nil, (.int .u8 0), (.int .u8 0), (.int .u8 0), (.int .u8 0), (.int .u8 0), (.int .u8 0), (.int .u8 0), (.int .u8 0), (.int .u8 0), (.int .u8 0), (.int .u8 0), (.int .u8 0), (.int .u8 0), (.int .u8 0), (.int .u8 0), (.int .u8 0), (.int .u8 0), (.int .u8 0), (.int .u8 0), (.int .u8 0), (.int .u8 0), (.int .u8 0), (.int .u8 0), (.int .u8 0), (.int .u8 0), (.int .u8 0), (.int .u8 0), (.int .u8 0), (.int .u8 0), (.int .u8 0), (.int .u8 0), (.int .u8 0), (.int .u8 0), (.int .u8 0), (.int .u8 0), (.int .u8 0), (.int .u8 0), (.int .u8 0), (.int .u8 0), (.int .u8 0), (.int .u8 0), (.int .u8 0), (.int .u8 0), (.int .u8 0), (.int .u8 0), (.int .u8 0), (.int .u8 0), (.int .u8 0), (.int .u8 0), (.int .u8 0), (.int .u8 0), (.int .u8 0), (.int .u8 0), (.int .u8 0), (.int .u8 0), (.int .u8 0), (.int .u8 0), (.int .u8 0), (.int .u8 0), (.int .u8 0), (.int .u8 0), (.int .u8 0), (.int .u8 0), (.int .u8 0), (.int .u8 0), (.int .u8 0), (.int .u8 0), (.int .u8 0), (.int .u8 0), (.int .u8 0), (.int .u8 0), (.int .u8 0), (.int .u8 0), (.int .u8 0), (.int .u8 0), (.int .u8 0), (.int .u8 0), (.int .u8 0), (.int .u8 0), (.int .u8 0), (.int .u8 0), (.int .u8 0), (.int .u8 0), (.int .u8 0), (.int .u8 0), (.int .u8 0), (.int .u8 0), (.int .u8 0), (.int .u8 0), (.int .u8 0), (.int .u8 0), (.int .u8 0), (.int .u8 0), (.int .u8 0), (.int .u8 0), (.int .u8 0), (.int .i64 0), (.int .i64 0), .nil], none⟩])
 (.seq
 (.seq
 (.reg [⟨some 7, .move (.tmp 2), none⟩])
 (.block 0
 (.seq
 (.reg [⟨some 9, .bin .eql (.tmp 7) (.cst (.int .u64 1)), none⟩,
  ⟨some 8, .move (.tmp 9), none⟩])
 (.cond (.tmp 8)
 (.reg [⟨some 10, .fieldAddr 1 1 (.tmp 4), none⟩,
  ⟨some 11, .load none (.tmp 10), none⟩,
  ⟨some 12, .fieldAddr 1 1 (.tmp 3), none⟩,
  ⟨none, .store 1 (.tmp 12) (.tmp 11), none⟩])
 (.seq
 (.reg [⟨some 14, .bin .eql (.tmp 7) (.cst (.int .u64 3)), none⟩,
  ⟨some 13, .move (.tmp 14), none⟩])
 (.cond (.tmp 13)
 (.reg [⟨some 15, .fieldAddr 2 1 (.tmp 4), none⟩,
  ⟨some 16, .load none (.tmp 15), none⟩,
  ⟨some 17, .fieldAddr 2 1 (.tmp 3), none⟩,
  ⟨none, .store 1 (.tmp 17) (.tmp 16), none⟩])
 (.seq
 (.reg [⟨some 19, .bin .eql (.tmp 7) (.cst (.int .u64 5)), none⟩,
  ⟨some 18, .move (.tmp 19), none⟩])
 (.cond (.tmp 18)
 (.reg [⟨some 20, .fieldAddr 3 1 (.tmp 4), none⟩,
  ⟨some 21, .load none (.tmp 20), none⟩,
  ⟨some 22, .fieldAddr 3 1 (.tmp 3), none⟩,
  ⟨none, .store 1 (.tmp 22) (.tmp 21), none⟩])
 (.seq
 (.reg [⟨some 24, .bin .eql (.tmp 7) (.cst (.int .u64 7)), none⟩,
  ⟨some 23, .move (.tmp 24), none⟩])
 (.cond (.tmp 23)
 (.reg [⟨some 25, .fieldAddr 4 1 (.tmp 4), none⟩,
  ⟨some 26, .load none (.tmp 25), none⟩,
  ⟨some 27, .fieldAddr 4 1 (.tmp 3), none⟩,
  ⟨none, .store 1 (.tmp 27) (.tmp 26), none⟩])
 (.seq
 (.reg [⟨some 29, .bin .eql (.tmp 7) (.cst (.int .u64 9)), none⟩,
  ⟨some 28, .move (.tmp 29), none⟩])
 (.cond (.tmp 28)
 (.reg [⟨some 30, .fieldAddr 5 32 (.tmp 4), none⟩,
  ⟨some 31, .load (some 32) (.tmp 30), none⟩,
  ⟨some 32, .fieldAddr 5 32 (.tmp 3), none⟩,
  ⟨none, .store 32 (.tmp 32) (.tmp 31), none⟩])
 (.seq
 (.reg [⟨some 34, .bin .eql (.tmp 7) (.cst (.int .u64 11)), none⟩,
  ⟨some 33, .move (.tmp 34), none⟩])
 (.cond (.tmp 33)
 (.reg [⟨some 35, .fieldAddr 37 1 (.tmp 4), none⟩,
  ⟨some 36, .load none (.tmp 35), none⟩,
  ⟨some 37, .fieldAddr 37 1 (.tmp 3), none⟩,
  ⟨none, .store 1 (.tmp 37) (.tmp 36), none⟩])
 (.seq
 (.reg [⟨some 39, .bin .eql (.tmp 7) (.cst (.int .u64 13)), none⟩,
  ⟨some 38, .move (.tmp 39), none⟩])
 (.cond (.tmp 38)
 (.reg [⟨some 40, .fieldAddr 38 32 (.tmp 4), none⟩,
  ⟨some 41, .load (some 32) (.tmp 40), none⟩,
  ⟨some 42, .fieldAddr 38 32 (.tmp 3), none⟩,
  ⟨none, .store 32 (.tmp 42) (.tmp 41), none⟩])
 (.seq
 (.reg [⟨some 44, .bin .eql (.tmp 7) (.cst (.int .u64 15)), none⟩,
  ⟨some 43, .move (.tmp 44), none⟩])
 (.cond (.tmp 43)
 (.reg [⟨some 45, .fieldAddr 70 32 (.tmp 4), none⟩,
  ⟨some 46, .load (some 32) (.tmp 45), none⟩,
  ⟨some 47, .fieldAddr 70 32 (.tmp 3), none⟩,
  ⟨none, .store 32 (.tmp 47) (.tmp 46), none⟩])
 (.seq
 (.reg [⟨some 49, .bin .eql (.tmp 7) (.cst (.int .u64 17)), none⟩,
  ⟨some 48, .move (.tmp 49), none⟩])
 (.cond (.tmp 48)
 (.reg [⟨some 50, .fieldAddr 102 32 (.tmp 4), none⟩,
  ⟨some 51, .load (some 32) (.tmp 50), none⟩,
  ⟨some 52, .fieldAddr 102 32 (.tmp 3), none⟩,
  ⟨none, .store 32 (.tmp 52) (.tmp 51), none⟩])
 (.seq
 (.reg [⟨some 54, .bin .eql (.tmp 7) (.cst (.int .u64 19)), none⟩,
  ⟨some 53, .move (.tmp 54), none⟩])
 (.cond (.tmp 53)
 (.reg [⟨some 55, .fieldAddr 134 1 (.tmp 4), none⟩,
  ⟨some 56, .load none (.tmp 55), none⟩,
  ⟨some 57, .fieldAddr 134 1 (.tmp 3), none⟩,
  ⟨none, .store 1 (.tmp 57) (.tmp 56), none⟩])
 (.seq
 (.reg [⟨some 59, .bin .eql (.tmp 7) (.cst (.int .u64 21)), none⟩,
  ⟨some 58, .move (.tmp 59), none⟩])
 (.cond (.tmp 58)
 (.reg [⟨some 60, .fieldAddr 135 1 (.tmp 4), none⟩,
  ⟨some 61, .load none (.tmp 60), none⟩,
  ⟨some 62, .fieldAddr 135 1 (.tmp 3), none⟩,
  ⟨none, .store 1 (.tmp 62) (.tmp 61), none⟩])
 (.seq
 (.reg [⟨some 64, .bin .eql (.tmp 7) (.cst (.int .u64 23)), none⟩,
  ⟨some 63, .move (.tmp 64), none⟩])
 (.cond (.tmp 63)
 (.reg [⟨some 65, .fieldAddr 136 1 (.tmp 4), none⟩,
  ⟨some 66, .load none (.tmp 65), none⟩,
  ⟨some 67, .fieldAddr 136 1 (.tmp 3), none⟩,
  ⟨none, .store 1 (.tmp 67) (.tmp 66), none⟩])
 (.skip)))))))))))))))))))))))))))
 (.seq
 (.reg [⟨some 68, .load (some 137) (.tmp 3), none⟩,
  ⟨none, .store 137 (.tmp 6) (.tmp 68), none⟩])
 (.ret)))⟩
theorem c38 : compF Try.prog gl true [(4, (some 0))] [] Try.f38 = some F38 := by kernel_rfl
def L39_0 : AC := .seq
 (.reg [⟨some 35, .bin .lss (.tmp 34) (.tmp 33), none⟩])
 (.seq
 (.cond (.tmp 35)
 (.skip)
 (.exit 0))
 (.seq
 (.block 1
 (.seq
 (.reg [⟨some 36, .indexAddr .slice none (.tmp 32) (.tmp 34), none⟩,
  ⟨some 37, .load none (.tmp 36), none⟩,
  ⟨some 8, .move (.tmp 37), none⟩])
 (.reg [⟨some 38, .move (.tmp 6), none⟩,
  ⟨some 39, .bin .shl (.tmp 38) (.cst (.int .u64 8)), none⟩,
  ⟨some 40, .move (.tmp 8), none⟩,
  ⟨some 41, .convInt .u64 (.tmp 40), none⟩,
  ⟨some 42, .bin .or (.tmp 39) (.tmp 41), none⟩,
  ⟨some 6, .move (.tmp 42), none⟩])))
 (.reg [⟨some 43, .bin .add (.tmp 34) (.cst (.int .i64 1)), none⟩,
  ⟨some 34, .move (.tmp 43), none⟩])))
/- tollhouse/bigsize.Read -/
def F39 : AFn := ⟨52, true, 1, [.tmp 2, .tmp 3, .tmp 4], .seq
 (.reg [⟨some 2, .move (.cst (.int .u64 0)), none⟩,
  ⟨some 3, .move (.cst (.int .i64 0)), none⟩,
  ⟨some 4, .move (.cst (.int .i64 0)), none⟩])
 (.seq
 (.seq
 (.reg [⟨some 9, .move (.tmp 0), none⟩,
  ⟨some 10, .len (.tmp 9), none⟩,
  ⟨some 11, .bin .eql (.tmp 10) (.cst (.int .i64 0)), none⟩])
 (.cond (.tmp 11)
 (.seq
 (.reg [⟨some 2, .move (.cst (.int .u64 0)), none⟩,
  ⟨some 3, .move (.cst (.int .i64 0)), none⟩,
  ⟨some 4, .move (.cst (.int .i64 10)), none⟩])
 (.ret))
 (.skip)))
 (.seq
 (.seq
 (.reg [⟨some 12, .move (.tmp 0), none⟩,
  ⟨some 13, .indexAddr .slice none (.tmp 12) (.cst (.int .i64 0)), none⟩,
  ⟨some 14, .load none (.tmp 13), none⟩,
  ⟨some 15, .bin .lss (.tmp 14) (.cst (.int .u8 253)), none⟩])
 (.cond (.tmp 15)
 (.seq
 (.reg [⟨some 16, .move (.tmp 0), none⟩,
  ⟨some 17, .indexAddr .slice none (.tmp 16) (.cst (.int .i64 0)), none⟩,
  ⟨some 18, .load none (.tmp 17), none⟩,
  ⟨some 19, .convInt .u64 (.tmp 18), none⟩,
  ⟨some 2, .move (.tmp 19), none⟩,
  ⟨some 3, .move (.cst (.int .i64 1)), none⟩,
  ⟨some 4, .move (.cst (.int .i64 0)), none⟩])
 (.ret))
 (.skip)))
 (.seq
 (.reg [⟨some 20, .move (.tmp 0), none⟩,
  ⟨some 21, .indexAddr .slice none (.tmp 20) (.cst (.int .i64 0)), none⟩,
  ⟨some 22, .load none (.tmp 21), none⟩,
  ⟨some 23, .bin .sub (.tmp 22) (.cst (.int .u8 253)), none⟩,
  ⟨some 24, .bin .shl (.cst (.int .i64 2)) (.tmp 23), none⟩,
  ⟨some 5, .move (.tmp 24), none⟩])
 (.seq
 (.seq
 (.reg [⟨some 25, .move (.tmp 0), none⟩,
  ⟨some 26, .len (.tmp 25), none⟩,
  ⟨some 27, .move (.tmp 5), none⟩,
  ⟨some 28, .bin .leq (.tmp 26) (.tmp 27), none⟩])
 (.cond (.tmp 28)
 (.seq
 (.reg [⟨some 2, .move (.cst (.int .u64 0)), none⟩,
  ⟨some 3, .move (.cst (.int .i64 0)), none⟩,
  ⟨some 4, .move (.cst (.int .i64 10)), none⟩])
 (.ret))
 (.skip)))
 (.seq
 (.reg [⟨some 6, .move (.cst (.int .u64 0)), none⟩])
 (.seq
 (.seq
 (.reg [⟨some 29, .move (.tmp 0), none⟩,
  ⟨some 30, .move (.tmp 5), none⟩,
  ⟨some 31, .bin .add (.tmp 30) (.cst (.int .i64 1)), none⟩,
  ⟨some 32, .slice .slice none (.tmp 29) (some (.cst (.int .i64 1))) (some (.tmp 31)) none, none⟩,
  ⟨some 33, .len (.tmp 32), none⟩,
  ⟨some 34, .move (.cst (.int .i64 0)), none⟩])
 (.block 0
 (.loop [5, 6, 32, 33, 34] true L39_0)))
 (.seq
 (.seq
 (.reg [⟨some 44, .move (.tmp 6), none⟩,
  ⟨some 45, .call (.cst (.func (.func 29) [] [])) [(.tmp 44)], none⟩,
  ⟨some 46, .move (.tmp 5), none⟩,
  ⟨some 47, .bin .add (.tmp 46) (.cst (.int .i64 1)), none⟩,
  ⟨some 48, .bin .neq (.tmp 45) (.tmp 47), none⟩])
 (.cond (.tmp 48)
 (.seq
 (.reg [⟨some 2, .move (.cst (.int .u64 0)), none⟩,
  ⟨some 3, .move (.cst (.int .i64 0)), none⟩,
  ⟨some 4, .move (.cst (.int .i64 10)), none⟩])
 (.ret))
 (.skip)))
 (.seq
 (.reg [⟨some 49, .move (.tmp 6), none⟩,
  ⟨some 50, .move (.tmp 5), none⟩,
  ⟨some 51, .bin .add (.tmp 50) (.cst (.int .i64 1)), none⟩,
  ⟨some 2, .move (.tmp 49), none⟩,
  ⟨some 3, .move (.tmp 51), none⟩,
  ⟨some 4, .move (.cst (.int .i64 0)), none⟩])
 (.ret)))))))))⟩
theorem c39 : compF Try.prog gl true [] [([5, 6, 32, 33, 34], true)] Try.f39 = some F39 := by kernel_rfl
/- slices.Contains[[]uint64,uint64] -/
def F40 : AFn := ⟨9, true, 2, [.tmp 4], .seq
 (.reg [⟨some 4, .move (.cst (.bool false)), none⟩])
 (.seq
 (.reg [⟨some 5, .move (.tmp 0), none⟩,
  ⟨some 6, .move (.tmp 1), none⟩,
  ⟨some 7, .call (.cst (.func (.func 52) [] [])) [(.tmp 5), (.tmp 6)], none⟩,
  ⟨some 8, .bin .geq (.tmp 7) (.cst (.int .i64 0)), none⟩,
  ⟨some 4, .move (.tmp 8), none⟩])
 (.ret))⟩
theorem c40 : compF Try.prog gl true [] [] Try.f40 = some F40 := by kernel_rfl
def L41_0 : AC := .seq
 (.reg [⟨some 9, .bin .lss (.tmp 8) (.tmp 7), none⟩])
 (.seq
 (.cond (.tmp 9)
 (.skip)
 (.exit 0))
 (.seq
 (.block 1
 (.seq
 (.reg [⟨some 10, .move (.tmp 8), none⟩,
  ⟨some 5, .move (.tmp 10), none⟩])
 (.seq
 (.reg [⟨some 11, .move (.tmp 1), none⟩,
  ⟨some 12, .move (.tmp 0), none⟩,
  ⟨some 13, .move (.tmp 5), none⟩,
  ⟨some 14, .indexAddr .slice (some 2) (.tmp 12) (.tmp 13), none⟩,
  ⟨some 15, .load (some 2) (.tmp 14), none⟩,
  ⟨some 16, .call (.tmp 11) [(.tmp 15)], none⟩])
 (.cond (.tmp 16)
 (.seq
 (.reg [⟨some 17, .move (.tmp 5), none⟩,
  ⟨some 4, .move (.tmp 17), none⟩])
 (.ret))
 (.skip)))))
 (.reg [⟨some 18, .bin .add (.tmp 8) (.cst (.int .i64 1)), none⟩,
  ⟨some 8, .move (.tmp 18), none⟩])))
/- slices.IndexFunc[[]tollhouse/api.Record,tollhouse/api.Record] -/
def F41 : AFn := ⟨19, false, 2, [.tmp 4], .seq
 (.reg [⟨some 4, .move (.cst (.int .i64 0)), none⟩])
 (.seq
 (.seq
 (.reg [⟨some 6, .move (.tmp 0), none⟩,
  ⟨some 7, .len (.tmp 6), none⟩,
  ⟨some 8, .move (.cst (.int .i64 0)), none⟩])
 (.block 0
 (.loop [0, 1, 7, 8] true L41_0)))
 (.seq
 (.reg [⟨some 4, .move (.cst (.int .i64 (-1))), none⟩])
 (.ret)))⟩
theorem c41 : compF Try.prog gl false [] [([0, 1, 7, 8], true)] Try.f41 = some F41 := by kernel_rfl
/- tollhouse/bigsize.Find$1 -/
def F42 : AFn := ⟨8, false, 2, [.tmp 3], .seq
 (.reg [⟨some 2, .box (.tmp 0), none⟩,
  ⟨some 3, .move (.cst (.bool false)), none⟩])
 (.seq
 (.reg [⟨some 4, .fieldAddr 0 1 (.tmp 2), none⟩,
  ⟨some 5, .load none (.tmp 4), none⟩,
  ⟨some 6, .load none (.tmp 1), none⟩,
  ⟨some 7, .bin .eql (.tmp 5) (.tmp 6), none⟩,
  ⟨some 3, .move (.tmp 7), none⟩])
 (.ret))⟩
theorem c42 : compF Try.prog gl false [] [] Try.f42 = some F42 := by kernel_rfl
def L43_0 : AC := .seq
 (.seq
 (.reg [⟨some 29, .move (.tmp 7), none⟩,
  ⟨some 30, .move (.tmp 5), none⟩,
  ⟨some 31, .bin .leq (.tmp 29) (.tmp 30), none⟩])
 (.cond (.tmp 31)
 (.skip)
 (.exit 1)))
 (.seq
 (.block 2
 (.reg [⟨some 34, .move (.tmp 6), none⟩,
  ⟨some 35, .bin .mul (.tmp 34) (.cst (.int .u64 256)), none⟩,
  ⟨some 36, .move (.tmp 0), none⟩,
  ⟨some 37, .move (.tmp 7), none⟩,
  ⟨some 38, .indexAddr .slice none (.tmp 36) (.tmp 37), none⟩,
  ⟨some 39, .load none (.tmp 38), none⟩,
  ⟨some 40, .convInt .u64 (.tmp 39), none⟩,
  ⟨some 41, .bin .add (.tmp 35) (.tmp 40), none⟩,
  ⟨some 6, .move (.tmp 41), none⟩]))
 (.reg [⟨some 32, .move (.tmp 7), none⟩,
  ⟨some 33, .bin .add (.tmp 32) (.cst (.int .i64 1)), none⟩,
  ⟨some 7, .move (.tmp 33), none⟩]))
/- tollhouse/tollhouseref01.Read -/
def F43 : AFn := ⟨51, true, 1, [.tmp 2, .tmp 3, .tmp 4], .seq
 (.reg [⟨some 2, .move (.cst (.int .u64 0)), none⟩,
  ⟨some 3, .move (.cst (.int .i64 0)), none⟩,
  ⟨some 4, .move (.cst (.int .i64 0)), none⟩])
 (.seq
 (.seq
 (.reg [⟨some 8, .move (.tmp 0), none⟩,
  ⟨some 9, .len (.tmp 8), none⟩,
  ⟨some 10, .bin .eql (.tmp 9) (.cst (.int .i64 0)), none⟩])
 (.cond (.tmp 10)
 (.seq
 (.reg [⟨some 2, .move (.cst (.int .u64 0)), none⟩,
  ⟨some 3, .move (.cst (.int .i64 0)), none⟩,
  ⟨some 4, .move (.cst (.int .i64 10)), none⟩])
 (.ret))
 (.skip)))
 (.seq
 (.reg [⟨some 5, .move (.cst (.int .i64 0)), none⟩])
 (.seq
 (.seq
 (.reg [⟨some 11, .move (.tmp 0), none⟩,
  ⟨some 12, .indexAddr .slice none (.tmp 11) (.cst (.int .i64 0)), none⟩,
  ⟨some 13, .load none (.tmp 12), none⟩])
 (.block 0
 (.seq
 (.reg [⟨some 19, .bin .eql (.tmp 13) (.cst (.int .u8 253)), none⟩,
  ⟨some 18, .move (.tmp 19), none⟩])
 (.cond (.tmp 18)
 (.reg [⟨some 5, .move (.cst (.int .i64 2)), none⟩])
 (.seq
 (.reg [⟨some 21, .bin .eql (.tmp 13) (.cst (.int .u8 254)), none⟩,
  ⟨some 20, .move (.tmp 21), none⟩])
 (.cond (.tmp 20)
 (.reg [⟨some 5, .move (.cst (.int .i64 4)), none⟩])
 (.seq
 (.reg [⟨some 23, .bin .eql (.tmp 13) (.cst (.int .u8 255)), none⟩,
  ⟨some 22, .move (.tmp 23), none⟩])
 (.cond (.tmp 22)
 (.reg [⟨some 5, .move (.cst (.int .i64 8)), none⟩])
 (.seq
 (.reg [⟨some 14, .move (.tmp 0), none⟩,
  ⟨some 15, .indexAddr .slice none (.tmp 14) (.cst (.int .i64 0)), none⟩,
  ⟨some 16, .load none (.tmp 15), none⟩,
  ⟨some 17, .convInt .u64 (.tmp 16), none⟩,
  ⟨some 2, .move (.tmp 17), none⟩,
  ⟨some 3, .move (.cst (.int .i64 1)), none⟩,
  ⟨some 4, .move (.cst (.int .i64 0)), none⟩])
 (.ret))))))))))
 (.seq
 (.seq
 (.reg [⟨some 24, .move (.tmp 0), none⟩,
  ⟨some 25, .len (.tmp 24), none⟩,
  ⟨some 26, .move (.tmp 5), none⟩,
  ⟨some 27, .bin .add (.tmp 26) (.cst (.int .i64 1)), none⟩,
  ⟨some 28, .bin .lss (.tmp 25) (.tmp 27), none⟩])
 (.cond (.tmp 28)
 (.seq
 (.reg [⟨some 2, .move (.cst (.int .u64 0)), none⟩,
  ⟨some 3, .move (.cst (.int .i64 0)), none⟩,
  ⟨some 4, .move (.cst (.int .i64 10)), none⟩])
 (.ret))
 (.skip)))
 (.seq
 (.reg [⟨some 6, .move (.cst (.int .u64 0)), none⟩])
 (.seq
 (.seq
 (.reg [⟨some 7, .move (.cst (.int .i64 1)), none⟩])
 (.block 1
 (.loop [0, 5, 6, 7] true L43_0)))
 (.seq
 (.seq
 (.reg [⟨some 42, .move (.tmp 6), none⟩,
  ⟨some 43, .call (.cst (.func (.func 48) [] [])) [(.tmp 42)], none⟩,
  ⟨some 44, .len (.tmp 43), none⟩,
  ⟨some 45, .move (.tmp 5), none⟩,
  ⟨some 46, .bin .add (.tmp 45) (.cst (.int .i64 1)), none⟩,
  ⟨some 47, .bin .neq (.tmp 44) (.tmp 46), none⟩])
 (.cond (.tmp 47)
 (.seq
 (.reg [⟨some 2, .move (.cst (.int .u64 0)), none⟩,
  ⟨some 3, .move (.cst (.int .i64 0)), none⟩,
  ⟨some 4, .move (.cst (.int .i64 10)), none⟩])
 (.ret))
 (.skip)))
 (.seq
 (.reg [⟨some 48, .move (.tmp 6), none⟩,
  ⟨some 49, .move (.tmp 5), none⟩,
  ⟨some 50, .bin .add (.tmp 49) (.cst (.int .i64 1)), none⟩,
  ⟨some 2, .move (.tmp 48), none⟩,
  ⟨some 3, .move (.tmp 50), none⟩,
  ⟨some 4, .move (.cst (.int .i64 0)), none⟩])
 (.ret)))))))))⟩
theorem c43 : compF Try.prog gl true [] [([0, 5, 6, 7], true)] Try.f43 = some F43 := by kernel_rfl
def L44_0 : AC := .seq
 (.seq
 (.reg [⟨some 6, .move (.tmp 5), none⟩,
  ⟨some 7, .move (.tmp 0), none⟩,
  ⟨some 8, .len (.tmp 7), none⟩,
  ⟨some 9, .bin .lss (.tmp 6) (.tmp 8), none⟩])
 (.cond (.tmp 9)
 (.skip)
 (.exit 0)))
 (.seq
 (.block 1
 (.seq
 (.reg [⟨some 12, .move (.tmp 0), none⟩,
  ⟨some 13, .move (.tmp 5), none⟩,
  ⟨some 14, .indexAddr .slice none (.tmp 12) (.tmp 13), none⟩,
  ⟨some 15, .load none (.tmp 14), none⟩,
  ⟨some 16, .move (.tmp 1), none⟩,
  ⟨some 17, .bin .eql (.tmp 15) (.tmp 16), none⟩])
 (.cond (.tmp 17)
 (.seq
 (.reg [⟨some 4, .move (.cst (.bool true)), none⟩])
 (.ret))
 (.skip))))
 (.reg [⟨some 10, .move (.tmp 5), none⟩,
  ⟨some 11, .bin .add (.tmp 10) (.cst (.int .i64 1)), none⟩,
  ⟨some 5, .move (.tmp 11), none⟩]))
/- tollhouse/tollhouseref01.has -/
def F44 : AFn := ⟨18, true, 2, [.tmp 4], .seq
 (.reg [⟨some 4, .move (.cst (.bool false)), none⟩])
 (.seq
 (.seq
 (.reg [⟨some 5, .move (.cst (.int .i64 0)), none⟩])
 (.block 0
 (.loop [0, 1, 5] true L44_0)))
 (.seq
 (.reg [⟨some 4, .move (.cst (.bool false)), none⟩])
 (.ret)))⟩
theorem c44 : compF Try.prog gl true [] [([0, 1, 5], true)] Try.f44 = some F44 := by kernel_rfl
def L45_0 : AC := .seq
 (.seq
 (.reg [⟨some 10, .move (.tmp 5), none⟩,
  ⟨some 11, .bin .lss (.tmp 10) (.cst (.int .i64 32)), none⟩])
 (.cond (.tmp 11)
 (.skip)
 (.exit 0)))
 (.seq
 (.block 1
 (.reg [⟨some 14, .move (.tmp 5), none⟩,
  ⟨some 15, .move (.tmp 0), none⟩,
  ⟨some 16, .move (.tmp 5), none⟩,
  ⟨some 17, .indexAddr .slice none (.tmp 15) (.tmp 16), none⟩,
  ⟨some 18, .load none (.tmp 17), none⟩,
  ⟨some 19, .indexAddr (.arr 32) none (.tmp 4) (.tmp 14), none⟩,
  ⟨none, .store 1 (.tmp 19) (.tmp 18), none⟩]))
 (.reg [⟨some 12, .move (.tmp 5), none⟩,
  ⟨some 13, .bin .add (.tmp 12) (.cst (.int .i64 1)), none⟩,
  ⟨some 5, .move (.tmp 13), none⟩]))
/- tollhouse/tollhouseref06.hash -/
def F45 : AFn := ⟨21, true, 1, [.cell 2 (some 32), .tmp 3], .seq
 (.reg [⟨some 2, .alloc [(.int .u8 0), (.int .u8 0), (.int .u8 0), (.int .u8 0), (.int .u8 0), (.int .u8 0), (.int .u8 0), (.int .u8 0), (.int .u8 0), (.int .u8 0), (.int .u8 0), (.int .u8 0), (.int .u8 0), (.int .u8 0), (.int .u8 0), (.int .u8 0), (.int .u8 0), (.int .u8 0), (.int .u8 0), (.int .u8 0), (.int .u8 0), (.int .u8 0), (.int .u8 0), (.int .u8 0), (.int .u8 0), (.int .u8 0), (.int .u8 0), (.int .u8 0), (.int .u8 0), (.int .u8 0), (.int .u8 0), (.int .u8 0)], none⟩,
  ⟨some 3, .move (.cst (.bool false)), none⟩])
 (.seq
 (.reg [⟨some 4, .alloc [(.int .u8 0), (.int .u8 0), (.int .u8 0), (.int .u8 0), (.int .u8 0), (.int .u8 0), (.int .u8 0), (.int .u8 0), (.int .u8 0), (.int .u8 0), (.int .u8 0), (.int .u8 0), (.int .u8 0), (.int .u8 0), (.int .u8 0), (.int .u8 0), (.int .u8 0), (.int .u8 0), (.int .u8 0), (.int .u8 0), (.int .u8 0), (.int .u8 0), (.int .u8 0), (.int .u8 0), (.int .u8 0), (.int .u8 0), (.int .u8 0), (.int .u8 0), (.int .u8 0), (.int .u8 0), (.int .u8 0), (.int .u8 0)], none⟩])
 (.seq
 (.seq
 (.reg [⟨some 6, .move (.tmp 0), none⟩,
  ⟨some 7, .len (.tmp 6), none⟩,
  ⟨some 8, .bin .neq (.tmp 7) (.cst (.int .i64 32)), none⟩])
 (.cond (.tmp 8)
 (.seq
 (.reg [⟨some 9, .load (some 32) (.tmp 4), none⟩,
  ⟨none, .store 32 (.tmp 2) (.tmp 9), none⟩,
  ⟨some 3, .move (.cst (.bool false)), none⟩])
 (.ret))
 (.skip)))
 (.seq
 (.seq
 (.reg [⟨some 5, .move (.cst (.int .i64 0)), none⟩])
 (.block 0
 (.loop [0, 2, 4, 5] true L45_0)))
 (.seq
 (.reg [⟨some 20, .load (some 32) (.tmp 4), none⟩,
  ⟨none, .store 32 (.tmp 2) (.tmp 20), none⟩,
  ⟨some 3, .move (.cst (.bool true)), none⟩])
 (.ret)))))⟩
theorem c45 : compF Try.prog gl true [] [([0, 2, 4, 5], true)] Try.f45 = some F45 := by kernel_rfl
def L46_0 : AC := .seq
 (.seq
 (.reg [⟨some 30, .move (.tmp 4), none⟩,
  ⟨some 31, .move (.tmp 0), none⟩,
  ⟨some 32, .len (.tmp 31), none⟩,
  ⟨some 33, .bin .lss (.tmp 30) (.tmp 32), none⟩])
 (.cond (.tmp 33)
 (.skip)
 (.exit 0)))
 (.seq
 (.block 1
 (.reg [⟨some 36, .move (.tmp 3), none⟩,
  ⟨some 37, .bin .mul (.tmp 36) (.cst (.int .i64 256)), none⟩,
  ⟨some 38, .move (.tmp 0), none⟩,
  ⟨some 39, .move (.tmp 4), none⟩,
  ⟨some 40, .indexAddr .slice none (.tmp 38) (.tmp 39), none⟩,
  ⟨some 41, .load none (.tmp 40), none⟩,
  ⟨some 42, .convInt .i64 (.tmp 41), none⟩,
  ⟨some 43, .bin .add (.tmp 37) (.tmp 42), none⟩,
  ⟨some 3, .move (.tmp 43), none⟩]))
 (.reg [⟨some 34, .move (.tmp 4), none⟩,
  ⟨some 35, .bin .add (.tmp 34) (.cst (.int .i64 1)), none⟩,
  ⟨some 4, .move (.tmp 35), none⟩]))
/- tollhouse/tollhouseref06.read -/
def F46 : AFn := ⟨45, true, 1, [.tmp 2], .seq
 (.reg [⟨some 2, .move (.cst (.int .i64 0)), none⟩])
 (.seq
 (.seq
 (.reg [⟨some 5, .move (.tmp 0), none⟩,
  ⟨some 6, .len (.tmp 5), none⟩,
  ⟨some 7, .bin .gtr (.tmp 6) (.cst (.int .i64 8)), none⟩,
  ⟨some 8, .move (.tmp 7), none⟩,
  ⟨some 9, .move (.tmp 0), some (8, false)⟩,
  ⟨some 10, .len (.tmp 9), some (8, false)⟩,
  ⟨some 11, .bin .gtr (.tmp 10) (.cst (.int .i64 0)), some (8, false)⟩,
  ⟨some 12, .move (.tmp 11), some (8, false)⟩,
  ⟨some 13, .move (.tmp 0), some (12, true)⟩,
  ⟨some 14, .indexAddr .slice none (.tmp 13) (.cst (.int .i64 0)), some (12, true)⟩,
  ⟨some 15, .load none (.tmp 14), some (12, true)⟩,
  ⟨some 16, .bin .eql (.tmp 15) (.cst (.int .u8 0)), some (12, true)⟩,
  ⟨some 17, .pick (.tmp 12) (.tmp 16) (.cst (.bool false)), some (8, false)⟩,
  ⟨some 18, .pick (.tmp 8) (.cst (.bool true)) (.tmp 17), none⟩,
  ⟨some 19, .move (.tmp 18), none⟩,
  ⟨some 20, .move (.tmp 0), some (19, false)⟩,
  ⟨some 21, .len (.tmp 20), some (19, false)⟩,
  ⟨some 22, .bin .eql (.tmp 21) (.cst (.int .i64 8)), some (19, false)⟩,
  ⟨some 23, .move (.tmp 22), some (19, false)⟩,
  ⟨some 24, .move (.tmp 0), some (23, true)⟩,
  ⟨some 25, .indexAddr .slice none (.tmp 24) (.cst (.int .i64 0)), some (23, true)⟩,
  ⟨some 26, .load none (.tmp 25), some (23, true)⟩,
  ⟨some 27, .bin .gtr (.tmp 26) (.cst (.int .u8 127)), some (23, true)⟩,
  ⟨some 28, .pick (.tmp 23) (.tmp 27) (.cst (.bool false)), some (19, false)⟩,
  ⟨some 29, .pick (.tmp 19) (.cst (.bool true)) (.tmp 28), none⟩])
 (.cond (.tmp 29)
 (.seq
 (.reg [⟨some 2, .move (.cst (.int .i64 (-1))), none⟩])
 (.ret))
 (.skip)))
 (.seq
 (.reg [⟨some 3, .move (.cst (.int .i64 0)), none⟩])
 (.seq
 (.seq
 (.reg [⟨some 4, .move (.cst (.int .i64 0)), none⟩])
 (.block 0
 (.loop [0, 3, 4] true L46_0)))
 (.seq
 (.reg [⟨some 44, .move (.tmp 3), none⟩,
  ⟨some 2, .move (.tmp 44), none⟩])
 (.ret)))))⟩
theorem c46 : compF Try.prog gl true [] [([0, 3, 4], true)] Try.f46 = some F46 := by kernel_rfl
def L47_0 : AC := .seq
 (.seq
 (.reg [⟨some 4, .move (.tmp 0), none⟩,
  ⟨some 5, .bin .gtr (.tmp 4) (.cst (.int .i64 0)), none⟩])
 (.cond (.tmp 5)
 (.skip)
 (.exit 0)))
 (.block 1
 (.seq
 (.reg [⟨some 6, .move (.tmp 0), none⟩,
  ⟨some 7, .convInt .u8 (.tmp 6), none⟩,
  ⟨some 8, .buildSlice none (.int .u8 0) 1 [(0, (.tmp 7))], none⟩,
  ⟨some 9, .move (.tmp 3), none⟩,
  ⟨some 10, .append none 1 (.tmp 8) (.tmp 9), none⟩,
  ⟨some 3, .move (.tmp 10), none⟩])
 (.reg [⟨some 11, .move (.tmp 0), none⟩,
  ⟨some 12, .bin .quo (.tmp 11) (.cst (.int .i64 256)), none⟩,
  ⟨some 0, .move (.tmp 12), none⟩])))
/- tollhouse/tollhouseref06.number -/
def F47 : AFn := ⟨14, true, 1, [.tmp 2], .seq
 (.reg [⟨some 2, .move (.cst .nil), none⟩])
 (.seq
 (.reg [⟨some 3, .move (.cst .nil), none⟩])
 (.seq
 (.block 0
 (.loop [0, 3] false L47_0))
 (.seq
 (.reg [⟨some 13, .move (.tmp 3), none⟩,
  ⟨some 2, .move (.tmp 13), none⟩])
 (.ret))))⟩
theorem c47 : compF Try.prog gl true [] [([0, 3], false)] Try.f47 = some F47 := by kernel_rfl
def L48_0 : AC := .seq
 (.seq
 (.reg [⟨some 23, .move (.tmp 5), none⟩,
  ⟨some 24, .bin .geq (.tmp 23) (.cst (.int .i64 0)), none⟩])
 (.cond (.tmp 24)
 (.skip)
 (.exit 1)))
 (.seq
 (.block 2
 (.reg [⟨some 27, .move (.tmp 4), none⟩,
  ⟨some 28, .move (.tmp 0), none⟩,
  ⟨some 29, .move (.tmp 5), none⟩,
  ⟨some 30, .bin .mul (.cst (.int .i64 8)) (.tmp 29), none⟩,
  ⟨some 31, .bin .shr (.tmp 28) (.tmp 30), none⟩,
  ⟨some 32, .convInt .u8 (.tmp 31), none⟩,
  ⟨some 33, .buildSlice none (.int .u8 0) 1 [(0, (.tmp 32))], none⟩,
  ⟨some 34, .append none 1 (.tmp 27) (.tmp 33), none⟩,
  ⟨some 4, .move (.tmp 34), none⟩]))
 (.reg [⟨some 25, .move (.tmp 5), none⟩,
  ⟨some 26, .bin .sub (.tmp 25) (.cst (.int .i64 1)), none⟩,
  ⟨some 5, .move (.tmp 26), none⟩]))
/- tollhouse/tollhouseref01.Number -/
def F48 : AFn := ⟨36, true, 1, [.tmp 2], .seq
 (.reg [⟨some 2, .move (.cst .nil), none⟩])
 (.seq
 (.reg [⟨some 3, .move (.cst (.int .i64 0)), none⟩])
 (.seq
 (.reg [⟨some 4, .acc none (.cst .nil), none⟩])
 (.seq
 (.block 0
 (.seq
 (.reg [⟨some 8, .move (.tmp 0), none⟩,
  ⟨some 9, .bin .lss (.tmp 8) (.cst (.int .u64 253)), none⟩,
  ⟨some 7, .move (.tmp 9), none⟩])
 (.cond (.tmp 7)
 (.seq
 (.reg [⟨some 10, .move (.tmp 0), none⟩,
  ⟨some 11, .convInt .u8 (.tmp 10), none⟩,
  ⟨some 12, .buildSlice none (.int .u8 0) 1 [(0, (.tmp 11))], none⟩,
  ⟨some 2, .move (.tmp 12), none⟩])
 (.ret))
 (.seq
 (.reg [⟨some 14, .move (.tmp 0), none⟩,
  ⟨some 15, .bin .leq (.tmp 14) (.cst (.int .u64 65535)), none⟩,
  ⟨some 13, .move (.tmp 15), none⟩])
 (.cond (.tmp 13)
 (.reg [⟨some 16, .buildSlice none (.int .u8 0) 1 [(0, (.cst (.int .u8 253)))], none⟩,
  ⟨some 4, .move (.tmp 16), none⟩,
  ⟨some 3, .move (.cst (.int .i64 2)), none⟩])
 (.seq
 (.reg [⟨some 18, .move (.tmp 0), none⟩,
  ⟨some 19, .bin .leq (.tmp 18) (.cst (.int .u64 4294967295)), none⟩,
  ⟨some 17, .move (.tmp 19), none⟩])
 (.cond (.tmp 17)
 (.reg [⟨some 20, .buildSlice none (.int .u8 0) 1 [(0, (.cst (.int .u8 254)))], none⟩,
  ⟨some 4, .move (.tmp 20), none⟩,
  ⟨some 3, .move (.cst (.int .i64 4)), none⟩])
 (.reg [⟨some 6, .buildSlice none (.int .u8 0) 1 [(0, (.cst (.int .u8 255)))], none⟩,
  ⟨some 4, .move (.tmp 6), none⟩,
  ⟨some 3, .move (.cst (.int .i64 8)), none⟩]))))))))
 (.seq
 (.seq
 (.reg [⟨some 21, .move (.tmp 3), none⟩,
  ⟨some 22, .bin .sub (.tmp 21) (.cst (.int .i64 1)), none⟩,
  ⟨some 5, .move (.tmp 22), none⟩])
 (.block 1
 (.loop [0, 4, 5] false L48_0)))
 (.seq
 (.reg [⟨some 35, .move (.tmp 4), none⟩,
  ⟨some 2, .move (.tmp 35), none⟩])
 (.ret))))))⟩
theorem c48 : compF Try.prog gl true [(4, none)] [([0, 4, 5], false)] Try.f48 = some F48 := by kernel_rfl
/- tollhouse/bigsize.width -/
def F49 : AFn := ⟨13, true, 1, [.tmp 2, .tmp 3], .seq
 (.reg [⟨some 2, .move (.cst (.int .u8 0)), none⟩,
  ⟨some 3, .move (.cst (.int .i64 0)), none⟩])
 (.seq
 (.block 0
 (.seq
 (.reg [⟨some 5, .move (.tmp 0), none⟩,
  ⟨some 6, .bin .lss (.tmp 5) (.cst (.int .u64 253)), none⟩,
  ⟨some 4, .move (.tmp 6), none⟩])
 (.cond (.tmp 4)
 (.seq
 (.reg [⟨some 2, .move (.cst (.int .u8 0)), none⟩,
  ⟨some 3, .move (.cst (.int .i64 0)), none⟩])
 (.ret))
 (.seq
 (.reg [⟨some 8, .move (.tmp 0), none⟩,
  ⟨some 9, .bin .leq (.tmp 8) (.cst (.int .u64 65535)), none⟩,
  ⟨some 7, .move (.tmp 9), none⟩])
 (.cond (.tmp 7)
 (.seq
 (.reg [⟨some 2, .move (.cst (.int .u8 253)), none⟩,
  ⟨some 3, .move (.cst (.int .i64 2)), none⟩])
 (.ret))
 (.seq
 (.reg [⟨some 11, .move (.tmp 0), none⟩,
  ⟨some 12, .bin .leq (.tmp 11) (.cst (.int .u64 4294967295)), none⟩,
  ⟨some 10, .move (.tmp 12), none⟩])
 (.cond (.tmp 10)
 (.seq
 (.reg [⟨some 2, .move (.cst (.int .u8 254)), none⟩,
  ⟨some 3, .move (.cst (.int .i64 4)), none⟩])
 (.ret))
 (.skip))))))))
 (.seq
 (.reg [⟨some 2, .move (.cst (.int .u8 255)), none⟩,
  ⟨some 3, .move (.cst (.int .i64 8)), none⟩])
 (.ret)))⟩
theorem c49 : compF Try.prog gl true [] [] Try.f49 = some F49 := by kernel_rfl
def L51_0 : AC := .seq
 (.seq
 (.reg [⟨some 7, .move (.tmp 2), none⟩,
  ⟨some 8, .move (.tmp 3), none⟩,
  ⟨some 9, .bin .lss (.tmp 7) (.tmp 8), none⟩])
 (.cond (.tmp 9)
 (.skip)
 (.exit 0)))
 (.seq
 (.block 1
 (.regD [⟨some 14, .move (.tmp 0), none⟩,
  ⟨some 15, .move (.tmp 2), none⟩,
  ⟨some 16, .move (.tmp 0), none⟩,
  ⟨some 17, .move (.tmp 3), none⟩,
  ⟨some 18, .move (.tmp 0), none⟩,
  ⟨some 19, .move (.tmp 3), none⟩,
  ⟨some 20, .indexAddr .slice none (.tmp 18) (.tmp 19), none⟩,
  ⟨some 21, .load none (.tmp 20), none⟩,
  ⟨some 22, .move (.tmp 0), none⟩,
  ⟨some 23, .move (.tmp 2), none⟩,
  ⟨some 24, .indexAddr .slice none (.tmp 22) (.tmp 23), none⟩,
  ⟨some 25, .load none (.tmp 24), none⟩,
  ⟨some 26, .indexAddr .slice none (.tmp 14) (.tmp 15), none⟩,
  ⟨none, .store 1 (.tmp 26) (.tmp 21), none⟩,
  ⟨some 27, .indexAddr .slice none (.tmp 16) (.tmp 17), none⟩,
  ⟨none, .store 1 (.tmp 27) (.tmp 25), none⟩] [(0, 0), (0, 0), (0, 1), (0, 1), (0, 0), (0, 0), (0, 0), (0, 0), (0, 0), (0, 0), (0, 0), (0, 0), (0, 0), (0, 0), (1, 1), (1, 1)]))
 (.reg [⟨some 10, .move (.tmp 2), none⟩,
  ⟨some 11, .bin .add (.tmp 10) (.cst (.int .i64 1)), none⟩,
  ⟨some 12, .move (.tmp 3), none⟩,
  ⟨some 13, .bin .sub (.tmp 12) (.cst (.int .i64 1)), none⟩,
  ⟨some 2, .move (.tmp 11), none⟩,
  ⟨some 3, .move (.tmp 13), none⟩]))
/- slices.Reverse[[]byte,byte] -/
def F51 : AFn := ⟨28, false, 1, [], .seq
 (.reg [⟨some 4, .move (.tmp 0), none⟩,
  ⟨some 5, .len (.tmp 4), none⟩,
  ⟨some 6, .bin .sub (.tmp 5) (.cst (.int .i64 1)), none⟩,
  ⟨some 2, .move (.cst (.int .i64 0)), none⟩,
  ⟨some 3, .move (.tmp 6), none⟩])
 (.block 0
 (.loop [0, 2, 3] true L51_0))⟩
theorem c51 : compF Try.prog gl false [] [([0, 2, 3], true)] Try.f51 = some F51 := by kernel_rfl
def L52_0 : AC := .seq
 (.reg [⟨some 9, .bin .lss (.tmp 8) (.tmp 7), none⟩])
 (.seq
 (.cond (.tmp 9)
 (.skip)
 (.exit 0))
 (.seq
 (.block 1
 (.seq
 (.reg [⟨some 10, .move (.tmp 8), none⟩,
  ⟨some 5, .move (.tmp 10), none⟩])
 (.seq
 (.reg [⟨some 11, .move (.tmp 1), none⟩,
  ⟨some 12, .move (.tmp 0), none⟩,
  ⟨some 13, .move (.tmp 5), none⟩,
  ⟨some 14, .indexAddr .slice none (.tmp 12) (.tmp 13), none⟩,
  ⟨some 15, .load none (.tmp 14), none⟩,
  ⟨some 16, .bin .eql (.tmp 11) (.tmp 15), none⟩])
 (.cond (.tmp 16)
 (.seq
 (.reg [⟨some 17, .move (.tmp 5), none⟩,
  ⟨some 4, .move (.tmp 17), none⟩])
 (.ret))
 (.skip)))))
 (.reg [⟨some 18, .bin .add (.tmp 8) (.cst (.int .i64 1)), none⟩,
  ⟨some 8, .move (.tmp 18), none⟩])))
/- slices.Index[[]uint64,uint64] -/
def F52 : AFn := ⟨19, true, 2, [.tmp 4], .seq
 (.reg [⟨some 4, .move (.cst (.int .i64 0)), none⟩])
 (.seq
 (.seq
 (.reg [⟨some 6, .move (.tmp 0), none⟩,
  ⟨some 7, .len (.tmp 6), none⟩,
  ⟨some 8, .move (.cst (.int .i64 0)), none⟩])
 (.block 0
 (.loop [0, 1, 7, 8] true L52_0)))
 (.seq
 (.reg [⟨some 4, .move (.cst (.int .i64 (-1))), none⟩])
 (.ret)))⟩
theorem c52 : compF Try.prog gl true [] [([0, 1, 7, 8], true)] Try.f52 = some F52 := by kernel_rfl
def fns : List (Nat × AFn) := [(3, F3), (4, F4), (5, F5), (6, F6), (7, F7), (8, F8), (9, F9), (10, F10), (11, F11), (12, F12), (13, F13), (14, F14), (15, F15), (16, F16), (17, F17), (18, F18), (19, F19), (20, F20), (21, F21), (22, F22), (23, F23), (24, F24), (25, F25), (26, F26), (27, F27), (28, F28), (29, F29), (30, F30), (31, F31), (32, F32), (33, F33), (34, F34), (35, F35), (36, F36), (37, F37), (38, F38), (39, F39), (40, F40), (41, F41), (42, F42), (43, F43), (44, F44), (45, F45), (46, F46), (47, F47), (48, F48), (49, F49), (51, F51), (52, F52)]
def nats : List (Nat × (List AV → Heap → Option (AV × Heap))) := [(50, growG)]
def exts : List (Nat × (List AV → Option AV)) := [(36, cloneE none 1)]
def T : Tab := ⟨fun n => exts.lookup n, fun n => fns.lookup n, fun n => nats.lookup n⟩
theorem lookup_mem {α : Type} {f : Nat} {F : α} : ∀ {l : List (Nat × α)}, l.lookup f = some F → (f, F) ∈ l
  | [], h => by cases h
  | (g, G) :: r, h => by
    rw [List.lookup_cons] at h
    split at h
    · rename_i hb; cases h; rw [eq_of_beq hb]; exact List.mem_cons_self
    · exact List.mem_cons_of_mem _ (lookup_mem h)
theorem fnsOK : ∀ p ∈ fns, FnOK Try.prog gl p.1 p.2 := by
  intro p hp
  simp only [fns, List.mem_cons, List.not_mem_nil, or_false] at hp
  rcases hp with rfl | rfl | rfl | rfl | rfl | rfl | rfl | rfl | rfl | rfl | rfl | rfl | rfl | rfl | rfl | rfl | rfl | rfl | rfl | rfl | rfl | rfl | rfl | rfl | rfl | rfl | rfl | rfl | rfl | rfl | rfl | rfl | rfl | rfl | rfl | rfl | rfl | rfl | rfl | rfl | rfl | rfl | rfl | rfl | rfl | rfl | rfl | rfl | rfl
  · exact ⟨_, _, _, _, Try.func3, c3⟩
  · exact ⟨_, _, _, _, Try.func4, c4⟩
  · exact ⟨_, _, _, _, Try.func5, c5⟩
  · exact ⟨_, _, _, _, Try.func6, c6⟩
  · exact ⟨_, _, _, _, Try.func7, c7⟩
  · exact ⟨_, _, _, _, Try.func8, c8⟩
  · exact ⟨_, _, _, _, Try.func9, c9⟩
  · exact ⟨_, _, _, _, Try.func10, c10⟩
  · exact ⟨_, _, _, _, Try.func11, c11⟩
  · exact ⟨_, _, _, _, Try.func12, c12⟩
  · exact ⟨_, _, _, _, Try.func13, c13⟩
  · exact ⟨_, _, _, _, Try.func14, c14⟩
  · exact ⟨_, _, _, _, Try.func15, c15⟩
  · exact ⟨_, _, _, _, Try.func16, c16⟩
  · exact ⟨_, _, _, _, Try.func17, c17⟩
  · exact ⟨_, _, _, _, Try.func18, c18⟩
  · exact ⟨_, _, _, _, Try.func19, c19⟩
  · exact ⟨_, _, _, _, Try.func20, c20⟩
  · exact ⟨_, _, _, _, Try.func21, c21⟩
  · exact ⟨_, _, _, _, Try.func22, c22⟩
  · exact ⟨_, _, _, _, Try.func23, c23⟩
  · exact ⟨_, _, _, _, Try.func24, c24⟩
  · exact ⟨_, _, _, _, Try.func25, c25⟩
  · exact ⟨_, _, _, _, Try.func26, c26⟩
  · exact ⟨_, _, _, _, Try.func27, c27⟩
  · exact ⟨_, _, _, _, Try.func28, c28⟩
  · exact ⟨_, _, _, _, Try.func29, c29⟩
  · exact ⟨_, _, _, _, Try.func30, c30⟩
  · exact ⟨_, _, _, _, Try.func31, c31⟩
  · exact ⟨_, _, _, _, Try.func32, c32⟩
  · exact ⟨_, _, _, _, Try.func33, c33⟩
  · exact ⟨_, _, _, _, Try.func34, c34⟩
  · exact ⟨_, _, _, _, Try.func35, c35⟩
  · exact ⟨_, _, _, _, Try.func36, c36⟩
  · exact ⟨_, _, _, _, Try.func37, c37⟩
  · exact ⟨_, _, _, _, Try.func38, c38⟩
  · exact ⟨_, _, _, _, Try.func39, c39⟩
  · exact ⟨_, _, _, _, Try.func40, c40⟩
  · exact ⟨_, _, _, _, Try.func41, c41⟩
  · exact ⟨_, _, _, _, Try.func42, c42⟩
  · exact ⟨_, _, _, _, Try.func43, c43⟩
  · exact ⟨_, _, _, _, Try.func44, c44⟩
  · exact ⟨_, _, _, _, Try.func45, c45⟩
  · exact ⟨_, _, _, _, Try.func46, c46⟩
  · exact ⟨_, _, _, _, Try.func47, c47⟩
  · exact ⟨_, _, _, _, Try.func48, c48⟩
  · exact ⟨_, _, _, _, Try.func49, c49⟩
  · exact ⟨_, _, _, _, Try.func51, c51⟩
  · exact ⟨_, _, _, _, Try.func52, c52⟩
theorem natsOK : ∀ p ∈ nats, Callable Try.prog p.1 ∧ ∀ (args : List AV) (h : Heap) (v : AV) (h2 : Heap), p.2 args h = some (v, h2) → ∀ (S : St) (B : Nat) (W : World) (cargs : Array Value), Rel S h B W → VL S args cargs.toList → GlobOK gl S.imm → Calls Try.prog p.1 cargs W (GPost S h2 v B W) := by
  intro p hp
  simp only [nats, List.mem_cons, List.not_mem_nil, or_false] at hp
  rcases hp with rfl
  · exact ⟨grow_nat.1, fun args h v h2 hx S B W cargs r hv hg => grow_nat.2 args h v h2 hx gl S B W cargs r hv hg⟩
theorem mixed : Try.prog.follows .mixedOrders = true := by kernel_rfl
theorem x36 : PSound Try.prog gl 36 (cloneE none 1) := by
  refine clone_PSound mixed ⟨_, _, _, _, Try.func36, c36⟩ rfl (fun o els ho he hc hf => ?_) (fun a cap => ?_) (fun cap => ?_)
  · obtain ⟨y, ys, rfl⟩ := List.exists_cons_of_ne_nil he
    have hf' : fitsB (0 + (y :: ys).length) 1 = true := by rw [Nat.zero_add]; exact hf
    rcases ho with rfl | rfl
    all_goals
      refine WP_eq (prun_wp ?_)
      simp -implicitDefEqProofs (disch := omega) only [F36, isNil, elemsOf, setEls, aappend, List.replicate_zero, hf', initE, ax_seq, ax_skip, ax_ret, ax_exit, ax_scope, ax_regK, ax_regQK, ax_condK, ax_blockK, condK_t, condK_f, blkR_normal, blkR_ret, blkR_if, norR_eq, norQ_eq, nextR_normal, nextR_ret, nextR_exit, aops_nil, aops_none, aops_some, opsK_some, opsG_tt, opsG_ft, opsG_tf, opsG_ff, aopsQ_nil, aopsQ_none, aopsQ_some, quiK_some, quiG_tt, quiG_ft, quiG_tf, quiG_ff, aop, evO_tmp, evO_cst, getE_cons, setE_some, setE_none, bin_leq, bin_geq, bin_lss, bin_gtr, bin_eql, bin_neq, bin_add, bin_sub, bin_mul, Option.bind_some, Option.map_some, Option.bind_none, Option.map_none, Nat.reduceEqDiff, ↓reduceIte, Nat.reduceAdd, finish, resOf, tupOf, frz_eq, AM.freeze, freezeL, closed, nam, namL, if_true, if_false, Bool.false_eq_true, Bool.true_and, Bool.false_and, Bool.and_true, Bool.and_false, cellsOf, deref, boxAt, exAt, ldCells, oneL, oneCell, one, List.length_nil, List.nil_append, List.cons_append, List.getElem?_cons_zero, List.getElem?_cons_succ, List.drop_zero, List.drop_succ_cons, List.take_succ_cons, List.take_zero, Nat.reduceLeDiff, Nat.le_refl, evL, List.map_cons, List.map_nil, List.append_nil, adopt, bin_quo, bin_rem, rigK_sc, rigK_agg, rigK_tup, fstV_eq, quiet_load, quiet_convStr, quiet_call, rigid, rigidL, trim, Nat.lt_irrefl, and_false, false_and, Int.reduceEq, decide_true, decide_false, Int.reduceMod, Int.reduceDiv, Int.mul_zero, Int.add_zero, ax_loop, quiet_move, quiet_pick, quiet_build, quiet_nilCheck, quiet_bin, quiet_eqBool, quiet_eqArr, quiet_eqNil, quiet_un, quiet_convInt, quiet_makeFunc, quiet_slice, quiet_toArr, quiet_fieldAddr, quiet_field, quiet_indexAddr, quiet_index, quiet_indexStr, quiet_extract, quiet_len, quiet_lenT, quiet_convSS, quiet_minmax, opsG_undef, quiG_undef, fin_ret, fin_normal, WP_some, WP_bind, WP_map, WP_ite, WP_opsK_ite, WP_quiK_ite, BQ_eq, MQ_eq, LQ_normal, LQ_exit, LQ_ret, if_pos, if_neg, Bool.not_true, Bool.not_false, asI, elCells, kz_some, kz_none, Nat.mul_one, Nat.zero_add, Int.toNat_natCast, lenOf, List.length_map, true_and, and_true, trim_off, forall_const, implies_true, and_self, aun_not, decide_eq_true, decide_eq_false, IntWalk.i64_in, IntWalk.u64_in, cast_succ', List.set_cons_zero, List.set_cons_succ, List.length_set, List.length_append, List.length_replicate, Int.natCast_nonneg, flat_one', List.getElem?_drop, Nat.add_zero, ax_regD, runD_nil, runD_none, runD_some, dK_some, dG_tt, dG_ft, dG_tf, dG_ff, dG_undef, WP_dK_ite, chkR_eq, chkD, chkO, chkW, chkV_some, chkV_off, grow_eq, effB, reB, beqV, beqVL, vEq, wantE_none, wantE_some, beq_self_eq_true, Nat.reduceSub, Nat.reduceLT, strip, stripO, storeB_K, stB_eq, splice_nil, splice_one, splice_more, setParts_nil, setParts_K, spK_eq, nxE_some, nxE_none, bne_ff, bne_tf, bne_ft, bne_tt, beq_ff, beq_tf, beq_ft, beq_tt, bne_f, bne_t, fits_of, Int.reduceSub, Int.reduceAdd, Int.reduceMul, Int.reduceLT, Int.reduceLE, Int.reduceToNat, optI, aslice, cutSl, cutMs, cutStr, cutOwn, Option.getD_some, Option.getD_none, get_app, get_app0, set_app, set_app0, tn_pred, convS]
      simp [freeze1, hc, WP]
  · refine WP_eq (prun_wp ?_)
    simp -implicitDefEqProofs (disch := omega) only [F36, isNil, elemsOf, setEls, aappend, List.replicate_zero, show fitsB 0 1 = true from rfl, initE, ax_seq, ax_skip, ax_ret, ax_exit, ax_scope, ax_regK, ax_regQK, ax_condK, ax_blockK, condK_t, condK_f, blkR_normal, blkR_ret, blkR_if, norR_eq, norQ_eq, nextR_normal, nextR_ret, nextR_exit, aops_nil, aops_none, aops_some, opsK_some, opsG_tt, opsG_ft, opsG_tf, opsG_ff, aopsQ_nil, aopsQ_none, aopsQ_some, quiK_some, quiG_tt, quiG_ft, quiG_tf, quiG_ff, aop, evO_tmp, evO_cst, getE_cons, setE_some, setE_none, bin_leq, bin_geq, bin_lss, bin_gtr, bin_eql, bin_neq, bin_add, bin_sub, bin_mul, Option.bind_some, Option.map_some, Option.bind_none, Option.map_none, Nat.reduceEqDiff, ↓reduceIte, Nat.reduceAdd, finish, resOf, tupOf, frz_eq, AM.freeze, freezeL, closed, nam, namL, if_true, if_false, Bool.false_eq_true, Bool.true_and, Bool.false_and, Bool.and_true, Bool.and_false, cellsOf, deref, boxAt, exAt, ldCells, oneL, oneCell, one, List.length_cons, List.length_nil, List.nil_append, List.cons_append, List.getElem?_cons_zero, List.getElem?_cons_succ, List.drop_zero, List.drop_succ_cons, List.take_succ_cons, List.take_zero, Nat.reduceLeDiff, Nat.le_refl, evL, List.map_cons, List.map_nil, List.append_nil, adopt, bin_quo, bin_rem, rigK_sc, rigK_agg, rigK_tup, fstV_eq, quiet_load, quiet_convStr, quiet_call, rigid, rigidL, trim, Nat.lt_irrefl, and_false, false_and, Int.reduceEq, decide_true, decide_false, Int.reduceMod, Int.reduceDiv, Int.mul_zero, Int.add_zero, ax_loop, quiet_move, quiet_pick, quiet_build, quiet_nilCheck, quiet_bin, quiet_eqBool, quiet_eqArr, quiet_eqNil, quiet_un, quiet_convInt, quiet_makeFunc, quiet_slice, quiet_toArr, quiet_fieldAddr, quiet_field, quiet_indexAddr, quiet_index, quiet_indexStr, quiet_extract, quiet_len, quiet_lenT, quiet_convSS, quiet_minmax, opsG_undef, quiG_undef, fin_ret, fin_normal, WP_some, WP_bind, WP_map, WP_ite, WP_opsK_ite, WP_quiK_ite, BQ_eq, MQ_eq, LQ_normal, LQ_exit, LQ_ret, if_pos, if_neg, Bool.not_true, Bool.not_false, asI, elCells, kz_some, kz_none, Nat.mul_one, Nat.zero_add, Int.toNat_natCast, lenOf, List.length_map, true_and, and_true, trim_off, forall_const, implies_true, and_self, aun_not, decide_eq_true, decide_eq_false, IntWalk.i64_in, IntWalk.u64_in, cast_succ', List.set_cons_zero, List.set_cons_succ, List.length_set, List.length_append, List.length_replicate, Int.natCast_nonneg, flat_one', List.getElem?_drop, Nat.add_zero, ax_regD, runD_nil, runD_none, runD_some, dK_some, dG_tt, dG_ft, dG_tf, dG_ff, dG_undef, WP_dK_ite, chkR_eq, chkD, chkO, chkW, chkV_some, chkV_off, grow_eq, effB, reB, beqV, beqVL, vEq, wantE_none, wantE_some, beq_self_eq_true, Nat.reduceSub, Nat.reduceLT, strip, stripO, storeB_K, stB_eq, splice_nil, splice_one, splice_more, setParts_nil, setParts_K, spK_eq, nxE_some, nxE_none, bne_ff, bne_tf, bne_ft, bne_tt, beq_ff, beq_tf, beq_ft, beq_tt, bne_f, bne_t, fits_of, Int.reduceSub, Int.reduceAdd, Int.reduceMul, Int.reduceLT, Int.reduceLE, Int.reduceToNat, optI, aslice, cutSl, cutMs, cutStr, cutOwn, Option.getD_some, Option.getD_none, get_app, get_app0, set_app, set_app0, tn_pred, convS]
    simp [freeze1, closed, closedL, namL, WP]
  · refine WP_eq (prun_wp ?_)
    simp -implicitDefEqProofs (disch := omega) only [F36, isNil, initE, ax_seq, ax_skip, ax_ret, ax_exit, ax_scope, ax_regK, ax_regQK, ax_condK, ax_blockK, condK_t, condK_f, blkR_normal, blkR_ret, blkR_if, norR_eq, norQ_eq, nextR_normal, nextR_ret, nextR_exit, aops_nil, aops_none, aops_some, opsK_some, opsG_tt, opsG_ft, opsG_tf, opsG_ff, aopsQ_nil, aopsQ_none, aopsQ_some, quiK_some, quiG_tt, quiG_ft, quiG_tf, quiG_ff, aop, evO_tmp, evO_cst, getE_cons, setE_some, setE_none, bin_leq, bin_geq, bin_lss, bin_gtr, bin_eql, bin_neq, bin_add, bin_sub, bin_mul, Option.bind_some, Option.map_some, Option.bind_none, Option.map_none, Nat.reduceEqDiff, ↓reduceIte, Nat.reduceAdd, finish, resOf, tupOf, frz_eq, AM.freeze, freeze1, freezeL, closed, nam, namL, if_true, if_false, Bool.false_eq_true, Bool.true_and, Bool.false_and, Bool.and_true, Bool.and_false, cellsOf, deref, boxAt, exAt, ldCells, oneL, oneCell, one, List.length_cons, List.length_nil, List.nil_append, List.cons_append, List.getElem?_cons_zero, List.getElem?_cons_succ, List.drop_zero, List.drop_succ_cons, List.take_succ_cons, List.take_zero, Nat.reduceLeDiff, Nat.le_refl, evL, List.map_cons, List.map_nil, List.append_nil, adopt, bin_quo, bin_rem, rigK_sc, rigK_agg, rigK_tup, fstV_eq, quiet_load, quiet_convStr, quiet_call, rigid, rigidL, trim, Nat.lt_irrefl, and_false, false_and, Int.reduceEq, decide_true, decide_false, Int.reduceMod, Int.reduceDiv, Int.mul_zero, Int.add_zero, ax_loop, quiet_move, quiet_pick, quiet_build, quiet_nilCheck, quiet_bin, quiet_eqBool, quiet_eqArr, quiet_eqNil, quiet_un, quiet_convInt, quiet_makeFunc, quiet_slice, quiet_toArr, quiet_fieldAddr, quiet_field, quiet_indexAddr, quiet_index, quiet_indexStr, quiet_extract, quiet_len, quiet_lenT, quiet_convSS, quiet_minmax, opsG_undef, quiG_undef, fin_ret, fin_normal, WP_some, WP_bind, WP_map, WP_ite, WP_opsK_ite, WP_quiK_ite, BQ_eq, MQ_eq, LQ_normal, LQ_exit, LQ_ret, if_pos, if_neg, Bool.not_true, Bool.not_false, asI, elCells, kz_some, kz_none, Nat.mul_one, Nat.zero_add, Int.toNat_natCast, lenOf, List.length_map, true_and, and_true, trim_off, forall_const, implies_true, and_self, aun_not, decide_eq_true, decide_eq_false, IntWalk.i64_in, IntWalk.u64_in, cast_succ', List.set_cons_zero, List.set_cons_succ, List.length_set, List.length_append, List.length_replicate, Int.natCast_nonneg, flat_one', List.getElem?_drop, Nat.add_zero, ax_regD, runD_nil, runD_none, runD_some, dK_some, dG_tt, dG_ft, dG_tf, dG_ff, dG_undef, WP_dK_ite, chkR_eq, chkD, chkO, chkW, chkV_some, chkV_off, grow_eq, effB, reB, beqV, beqVL, vEq, wantE_none, wantE_some, beq_self_eq_true, Nat.reduceSub, Nat.reduceLT, strip, stripO, storeB_K, stB_eq, splice_nil, splice_one, splice_more, setParts_nil, setParts_K, spK_eq, nxE_some, nxE_none, bne_ff, bne_tf, bne_ft, bne_tt, beq_ff, beq_tf, beq_ft, beq_tt, bne_f, bne_t, fits_of, Int.reduceSub, Int.reduceAdd, Int.reduceMul, Int.reduceLT, Int.reduceLE, Int.reduceToNat, optI, aslice, cutSl, cutMs, cutStr, cutOwn, Option.getD_some, Option.getD_none, get_app, get_app0, set_app, set_app0, tn_pred, convS]
theorem extsOK : ∀ p ∈ exts, Callable Try.prog p.1 ∧ PSound Try.prog gl p.1 p.2 := by
  intro p hp
  simp only [exts, List.mem_cons, List.not_mem_nil, or_false] at hp
  rcases hp with rfl
  · exact ⟨(fnsOK (36, F36) (lookup_mem (l := fns) (f := 36) rfl)).callable, x36⟩
theorem e36 : T.ext 36 = some (cloneE none 1) := rfl
theorem tabOK : TabOK Try.prog gl T := ⟨fun f g h => extsOK (f, g) (lookup_mem h), fun f F h => fnsOK (f, F) (lookup_mem h), fun f g h => natsOK (f, g) (lookup_mem h)⟩
theorem n50 : T.nat 50 = some growG := rfl
theorem nf50 : T.fn 50 = none := rfl
theorem t3 : T.fn 3 = some F3 := rfl
theorem t4 : T.fn 4 = some F4 := rfl
theorem t5 : T.fn 5 = some F5 := rfl
theorem t6 : T.fn 6 = some F6 := rfl
theorem t7 : T.fn 7 = some F7 := rfl
theorem t8 : T.fn 8 = some F8 := rfl
theorem t9 : T.fn 9 = some F9 := rfl
theorem t10 : T.fn 10 = some F10 := rfl
theorem t11 : T.fn 11 = some F11 := rfl
theorem t12 : T.fn 12 = some F12 := rfl
theorem t13 : T.fn 13 = some F13 := rfl
theorem t14 : T.fn 14 = some F14 := rfl
theorem t15 : T.fn 15 = some F15 := rfl
theorem t16 : T.fn 16 = some F16 := rfl
theorem t17 : T.fn 17 = some F17 := rfl
theorem t18 : T.fn 18 = some F18 := rfl
theorem t19 : T.fn 19 = some F19 := rfl
theorem t20 : T.fn 20 = some F20 := rfl
theorem t21 : T.fn 21 = some F21 := rfl
theorem t22 : T.fn 22 = some F22 := rfl
theorem t23 : T.fn 23 = some F23 := rfl
theorem t24 : T.fn 24 = some F24 := rfl
theorem t25 : T.fn 25 = some F25 := rfl
theorem t26 : T.fn 26 = some F26 := rfl
theorem t27 : T.fn 27 = some F27 := rfl
theorem t28 : T.fn 28 = some F28 := rfl
theorem t29 : T.fn 29 = some F29 := rfl
theorem t30 : T.fn 30 = some F30 := rfl
theorem t31 : T.fn 31 = some F31 := rfl
theorem t32 : T.fn 32 = some F32 := rfl
theorem t33 : T.fn 33 = some F33 := rfl
theorem t34 : T.fn 34 = some F34 := rfl
theorem t35 : T.fn 35 = some F35 := rfl
theorem t36 : T.fn 36 = some F36 := rfl
theorem t37 : T.fn 37 = some F37 := rfl
theorem t38 : T.fn 38 = some F38 := rfl
theorem t39 : T.fn 39 = some F39 := rfl
theorem t40 : T.fn 40 = some F40 := rfl
theorem t41 : T.fn 41 = some F41 := rfl
theorem t42 : T.fn 42 = some F42 := rfl
theorem t43 : T.fn 43 = some F43 := rfl
theorem t44 : T.fn 44 = some F44 := rfl
theorem t45 : T.fn 45 = some F45 := rfl
theorem t46 : T.fn 46 = some F46 := rfl
theorem t47 : T.fn 47 = some F47 := rfl
theorem t48 : T.fn 48 = some F48 := rfl
theorem t49 : T.fn 49 = some F49 := rfl
theorem t51 : T.fn 51 = some F51 := rfl
theorem t52 : T.fn 52 = some F52 := rfl
theorem p3 : T.pure 3 = true := rfl
theorem p4 : T.pure 4 = true := rfl
theorem p5 : T.pure 5 = true := rfl
theorem p6 : T.pure 6 = true := rfl
theorem p7 : T.pure 7 = true := rfl
theorem p8 : T.pure 8 = true := rfl
theorem p9 : T.pure 9 = true := rfl
theorem p10 : T.pure 10 = true := rfl
theorem p11 : T.pure 11 = true := rfl
theorem p12 : T.pure 12 = true := rfl
theorem p13 : T.pure 13 = true := rfl
theorem p14 : T.pure 14 = true := rfl
theorem p15 : T.pure 15 = true := rfl
theorem p16 : T.pure 16 = true := rfl
theorem p17 : T.pure 17 = true := rfl
theorem p18 : T.pure 18 = true := rfl
theorem p19 : T.pure 19 = true := rfl
theorem p20 : T.pure 20 = true := rfl
theorem p21 : T.pure 21 = true := rfl
theorem p22 : T.pure 22 = true := rfl
theorem p24 : T.pure 24 = true := rfl
theorem p25 : T.pure 25 = true := rfl
theorem p26 : T.pure 26 = true := rfl
theorem p27 : T.pure 27 = true := rfl
theorem p28 : T.pure 28 = true := rfl
theorem p29 : T.pure 29 = true := rfl
theorem p30 : T.pure 30 = true := rfl
theorem p31 : T.pure 31 = true := rfl
theorem p32 : T.pure 32 = true := rfl
theorem p33 : T.pure 33 = true := rfl
theorem p36 : T.pure 36 = true := rfl
theorem p38 : T.pure 38 = true := rfl
theorem p39 : T.pure 39 = true := rfl
theorem p40 : T.pure 40 = true := rfl
theorem p43 : T.pure 43 = true := rfl
theorem p44 : T.pure 44 = true := rfl
theorem p45 : T.pure 45 = true := rfl
theorem p46 : T.pure 46 = true := rfl
theorem p47 : T.pure 47 = true := rfl
theorem p48 : T.pure 48 = true := rfl
theorem p49 : T.pure 49 = true := rfl
theorem p52 : T.pure 52 = true := rfl
end Go.Proofs.Ytnlemcfhndjheaa.AM

/- Bytes and numbers, in plain Lean. -/
namespace Go.Proofs.Ytnlemcfhndjheaa.AM
open Go
set_option linter.unusedVariables false
set_option linter.unusedSimpArgs false
section
variable {k : IntKind} {n : Int} {b : Bool} {s : ByteArray} {o o2 : AOwn} {q q2 : Option Nat} {l l2 : List AV} {i j i2 j2 n2 n3 : Nat} {f : Fn} {v v2 : Value} {h : Heap} {x x2 : AV}
theorem cellsOf_int : cellsOf (.sc (.int k n)) = some [.sc (.int k n)] := rfl
theorem one_int : one (.sc (.int k n)) = true := rfl
theorem cellsOf_bool : cellsOf (.sc (.bool b)) = some [.sc (.bool b)] := rfl
theorem one_bool : one (.sc (.bool b)) = true := rfl
theorem cellsOf_str : cellsOf (.sc (.string s)) = some [.sc (.string s)] := rfl
theorem one_str : one (.sc (.string s)) = true := rfl
theorem cellsOf_nil : cellsOf (.sc (.slice none 0 0)) = some [.sc (.slice none 0 0)] := rfl
theorem one_nil : one (.sc (.slice none 0 0)) = true := rfl
theorem cellsOf_nilp : cellsOf (.sc (.pointer none)) = some [.sc (.pointer none)] := rfl
theorem one_nilp : one (.sc (.pointer none)) = true := rfl
theorem cellsOf_nilm : cellsOf (.sc (.map none)) = some [.sc (.map none)] := rfl
theorem one_nilm : one (.sc (.map none)) = true := rfl
theorem cellsOf_nilf : cellsOf (.sc .nilFunc) = some [.sc .nilFunc] := rfl
theorem one_nilf : one (.sc .nilFunc) = true := rfl
theorem cellsOf_slice : cellsOf (.slice o q l) = some [.slice o q l] := rfl
theorem one_slice : one (.slice o q l) = true := rfl
theorem cellsOf_ptr : cellsOf (.ptr i j) = some [.ptr i j] := rfl
theorem one_ptr : one (.ptr i j) = true := rfl
theorem cellsOf_ref : cellsOf (.ref l) = some [.ref l] := rfl
theorem one_ref : one (.ref l) = true := rfl
theorem cellsOf_ms : cellsOf (.ms i j q n2) = some [.ms i j q n2] := rfl
theorem one_ms : one (.ms i j q n2) = true := rfl
theorem cellsOf_func : cellsOf (.func f l l2) = some [.func f l l2] := rfl
theorem one_func : one (.func f l l2) = true := rfl
theorem cellsOf_agg : cellsOf (.agg l) = some l := rfl
theorem one_agg : one (.agg l) = false := rfl
theorem strip_sc : strip (.sc v) = .sc v := rfl
theorem strip_slice : strip (.slice o q l) = .slice (stripO o) q l := rfl
theorem strip_ptr : strip (.ptr i j) = .ptr i j := rfl
theorem strip_ref : strip (.ref l) = .ref l := rfl
theorem strip_ms : strip (.ms i j q n2) = .ms i j q n2 := rfl
theorem strip_func : strip (.func f l l2) = .func f l l2 := rfl
theorem strip_agg : strip (.agg l) = .agg l := rfl
theorem strip_tup : strip (.tup l) = .tup l := rfl
theorem lenOf_slice : lenOf (.slice o q l) = some l.length := rfl
theorem lenOf_ms : lenOf (.ms i j q n2) = some n2 := rfl
theorem lenOf_nil : lenOf (.sc (.slice none 0 0)) = some 0 := rfl
theorem elems_slice : elemsOf h q (.slice o q l) = some l := if_pos rfl
theorem elems_ms : elemsOf h q (.ms i j q n2) = msEls h i j q n2 := if_pos rfl
theorem elems_nil : elemsOf h q (.sc (.slice none 0 0)) = some [] := rfl
theorem elems_str : elemsOf h none (.sc (.string s)) = some (strEls s) := rfl
theorem convS_slice : convS h (.slice o none l) = (byteEls l).map fun r => .str (strOfNums r) := by simp [convS, elemsOf]
theorem convS_nil : convS h (.sc (.slice none 0 0)) = some (.str (strOfNums [])) := rfl
theorem convS_ms : convS h (.ms i j none n2) = ((msEls h i j none n2).bind byteEls).map fun r => .str (strOfNums r) := by simp [convS, elemsOf]
theorem stripO_none : stripO .none = .none := rfl
theorem stripO_full : stripO .full = .full := rfl
theorem stripO_tok : stripO (.tok i) = .none := rfl
theorem stripO_fresh : stripO .fresh = .none := rfl
theorem isNil_pn : isNil .ptr (.sc (.pointer none)) = some true := rfl
theorem isNil_pp : isNil .ptr (.ptr i j) = some false := rfl
theorem isNil_pr : isNil .ptr (.ref l) = some false := rfl
theorem isNil_sn : isNil .slice (.sc (.slice none 0 0)) = some true := rfl
theorem isNil_sc : isNil .slice (.slice o q (x :: l)) = some false := rfl
theorem isNil_ms : isNil .slice (.ms i j q n2) = some false := rfl
theorem elC_agg : elCells (.agg l) = l := rfl
theorem elC_int : elCells (.sc v) = [.sc v] := rfl
theorem elC_slice : elCells (.slice o q l) = [.slice o q l] := rfl
theorem elC_ref : elCells (.ref l) = [.ref l] := rfl
theorem elC_ptr : elCells (.ptr i j) = [.ptr i j] := rfl
theorem elC_ms : elCells (.ms i j q n2) = [.ms i j q n2] := rfl
theorem stripEl_agg : stripEl (.agg l) = .agg (l.map strip) := rfl
theorem stripEl_sc : stripEl (.sc v) = .sc v := rfl
theorem stripEl_slice : stripEl (.slice o q l) = .slice (stripO o) q l := rfl
theorem elFits_agg : elFits q (.agg l) = (q == some l.length && oneL l) := rfl
theorem elFits_sc : elFits q (.sc v) = (one (.sc v) && q == none) := rfl
theorem elFits_slice : elFits q (.slice o q2 l) = (one (.slice o q2 l) && q == none) := rfl
theorem beqV_ref : beqV (.ref l) (.ref l2) = beqVL l l2 := rfl
theorem beqV_agg : beqV (.agg l) (.agg l2) = beqVL l l2 := rfl
theorem beqV_slice : beqV (.slice o q l) (.slice o2 q2 l2) = (o == o2 && q == q2 && beqVL l l2) := rfl
theorem beqV_ptr : beqV (.ptr i j) (.ptr i2 j2) = (i == i2 && j == j2) := rfl
theorem beqV_ms : beqV (.ms i j q n2) (.ms i2 j2 q2 n3) = (i == i2 && j == j2 && q == q2 && n2 == n3) := rfl
theorem beqV_tup : beqV (.tup l) (.tup l2) = beqVL l l2 := rfl
theorem beqV_sc : beqV (.sc v) (.sc v2) = vEq v v2 := rfl
theorem beqVL_nil : beqVL [] [] = true := rfl
theorem beqVL_cons : beqVL (x :: l) (x2 :: l2) = (beqV x x2 && beqVL l l2) := rfl
end
abbrev i64 (x : Int) : AV := .int .i64 x
abbrev u8 (x : Int) : AV := .int .u8 x
abbrev u64 (x : Int) : AV := .int .u64 x
def I64 (x : Int) : Prop := -9223372036854775808 ≤ x ∧ x ≤ 9223372036854775807
def U64 (x : Int) : Prop := 0 ≤ x ∧ x ≤ 18446744073709551615
def be (l : List Int) : Int := l.foldl (fun x c => x * 256 + c) 0
def Bytes (l : List Int) : Prop := ∀ c ∈ l, 0 ≤ c ∧ c ≤ 255
def wideS (b : Int) : Nat := if b = 253 then 2 else if b = 254 then 4 else 8
def sizeS (x : Int) : Int := if x < 253 then 1 else if x ≤ 65535 then 3 else if x ≤ 4294967295 then 5 else 9
/-- the number with which bytes begin -/
def readS : List Int → Int × Int × Int
  | [] => (0, 0, 10)
  | b :: r => if b < 253 then (b, 1, 0) else if r.length < wideS b then (0, 0, 10) else if sizeS (be (r.take (wideS b))) = wideS b + 1 then (be (r.take (wideS b)), wideS b + 1, 0) else (0, 0, 10)
def tailS : Nat → Int → List Int
  | 0, _ => []
  | j + 1, x => (x / 256 ^ j % 256) :: tailS j x
/-- a number's bytes -/
def numS (x : Int) : List Int := if x < 253 then [x] else if x ≤ 65535 then 253 :: tailS 2 x else if x ≤ 4294967295 then 254 :: tailS 4 x else 255 :: tailS 8 x
def firstS (x : Int) : Int := if x < 253 then 0 else if x ≤ 65535 then 253 else if x ≤ 4294967295 then 254 else 255
def widthS (x : Int) : Nat := if x < 253 then 0 else if x ≤ 65535 then 2 else if x ≤ 4294967295 then 4 else 8
theorem be_snoc (l : List Int) (c : Int) : be (l ++ [c]) = be l * 256 + c := by unfold be; rw [List.foldl_append]; rfl
theorem be_from (l : List Int) (h : Bytes l) : ∀ x : Int, 0 ≤ x → 0 ≤ l.foldl (fun x c => x * 256 + c) x ∧ l.foldl (fun x c => x * 256 + c) x < (x + 1) * 256 ^ l.length := by
  induction l with
  | nil => intro x hx; simp; omega
  | cons c l ih =>
    intro x hx
    have hc := h c List.mem_cons_self
    have hz := ih (fun y hy => h y (List.mem_cons_of_mem _ hy)) (x * 256 + c) (by omega)
    refine ⟨hz.1, Int.lt_of_lt_of_le hz.2 ?_⟩
    rw [List.length_cons, Int.pow_succ, Int.mul_comm (256 ^ l.length) 256, ← Int.mul_assoc]
    exact Int.mul_le_mul_of_nonneg_right (by omega) (Int.le_of_lt (Int.pow_pos (by omega)))
theorem be_bound (l : List Int) (h : Bytes l) : 0 ≤ be l ∧ be l < 256 ^ l.length := by
  have := be_from l h 0 (by omega)
  rw [Int.zero_add, Int.one_mul] at this
  exact this
theorem take_bytes {l : List Int} (h : Bytes l) (n : Nat) : Bytes (l.take n) := fun c hc => h c (List.mem_of_mem_take hc)
theorem drop_bytes {l : List Int} (h : Bytes l) (n : Nat) : Bytes (l.drop n) := fun c hc => h c (List.mem_of_mem_drop hc)
theorem sizeS_le (x : Int) : 0 ≤ sizeS x ∧ sizeS x ≤ 9 := by
  unfold sizeS
  split
  · omega
  · split
    · omega
    · split <;> omega
theorem tailS_len (n : Nat) (x : Int) : (tailS n x).length = n := by
  induction n with
  | zero => rfl
  | succ n ih => unfold tailS; rw [List.length_cons, ih]
theorem numS_eq (x : Int) (h : ¬ x < 253) : numS x = firstS x :: tailS (widthS x) x := by
  unfold numS firstS widthS
  rw [if_neg h, if_neg h, if_neg h]
  split
  · rfl
  · split <;> rfl
theorem readS_cons (b : Int) (r : List Int) : readS (b :: r) = if b < 253 then (b, 1, 0) else if r.length < wideS b then (0, 0, 10) else if sizeS (be (r.take (wideS b))) = wideS b + 1 then (be (r.take (wideS b)), (wideS b : Int) + 1, 0) else (0, 0, 10) := rfl
theorem emod_split (x : Int) (h : 0 ≤ x) (j : Nat) : x % 256 ^ (j + 1) = x / 256 ^ j % 256 * 256 ^ j + x % 256 ^ j := by
  obtain ⟨n, rfl⟩ := Int.eq_ofNat_of_zero_le h
  have := @Nat.mod_mul (256 ^ j) 256 n
  rw [← Nat.pow_succ] at this
  have z : ((n % 256 ^ (j + 1) : Nat) : Int) = ((n % 256 ^ j + 256 ^ j * (n / 256 ^ j % 256) : Nat) : Int) := by rw [this]
  rw [Int.natCast_add, Int.natCast_mul, Int.natCast_emod, Int.natCast_emod, Int.natCast_emod, Int.natCast_ediv, Int.natCast_pow, Int.natCast_pow] at z
  show (n : Int) % ((256 : Nat) : Int) ^ (j + 1) = _
  rw [z, Int.mul_comm, Int.add_comm]; rfl
theorem be_tail (x : Int) (h : 0 ≤ x) : ∀ (n : Nat) (a : Int), (tailS n x).foldl (fun x c => x * 256 + c) a = a * 256 ^ n + x % 256 ^ n
  | 0, a => by simp [tailS]
  | n + 1, a => by
    unfold tailS
    rw [List.foldl_cons, be_tail x h n, emod_split x h n, Int.pow_succ, Int.add_mul, Int.mul_assoc, Int.mul_comm 256, Int.add_assoc]
theorem be_tailS (x : Int) (h : 0 ≤ x) (n : Nat) (hx : x < 256 ^ n) : be (tailS n x) = x := by
  unfold be
  rw [be_tail x h, Int.zero_mul, Int.zero_add, Int.emod_eq_of_lt h hx]
theorem tailS_bytes (x : Int) (h : 0 ≤ x) (n : Nat) : Bytes (tailS n x) := by
  induction n with
  | zero => intro c hc; simp [tailS] at hc
  | succ n ih =>
    intro c hc
    unfold tailS at hc
    rcases List.mem_cons.1 hc with rfl | hc
    · omega
    · exact ih c hc
theorem numS_bytes (x : Int) (h : 0 ≤ x) : Bytes (numS x) := by
  unfold numS
  split
  · intro c hc; simp at hc; omega
  · split
    · intro c hc; rcases List.mem_cons.1 hc with rfl | hc; (· omega); exact tailS_bytes x h _ c hc
    · split
      · intro c hc; rcases List.mem_cons.1 hc with rfl | hc; (· omega); exact tailS_bytes x h _ c hc
      · intro c hc; rcases List.mem_cons.1 hc with rfl | hc; (· omega); exact tailS_bytes x h _ c hc
theorem numS_len (x : Int) : ((numS x).length : Int) = sizeS x := by
  unfold numS sizeS
  split
  · rfl
  · split
    · rw [List.length_cons, tailS_len]; rfl
    · split <;> (rw [List.length_cons, tailS_len]; rfl)
theorem readS_num (x : Int) (h : 0 ≤ x) (h1 : x ≤ 18446744073709551615) (t : List Int) : readS (numS x ++ t) = (x, ((numS x).length : Int), 0) := by
  rw [numS_len]
  have key : ∀ (b : Int) (n : Nat), ¬ b < 253 → wideS b = n → x < 256 ^ n → sizeS x = n + 1 → readS (b :: tailS n x ++ t) = (x, sizeS x, 0) := by
    intro b n hb hw hx hs
    rw [List.cons_append, readS_cons]
    have ht : (tailS n x ++ t).take n = tailS n x := by
      have := @List.take_left _ (tailS n x) t
      rwa [tailS_len] at this
    have hl : ¬ (tailS n x ++ t).length < n := by rw [List.length_append, tailS_len]; omega
    rw [if_neg hb, hw, if_neg hl, ht, be_tailS x h n hx, if_pos hs, hs]
  unfold numS
  split
  · rename_i h2
    simp [readS, sizeS, h2]
  · rename_i h2
    split
    · rename_i h3
      exact key 253 2 (by omega) rfl (by omega) (by unfold sizeS; rw [if_neg h2, if_pos h3]; rfl)
    · rename_i h3
      split
      · rename_i h4
        exact key 254 4 (by omega) rfl (by omega) (by unfold sizeS; rw [if_neg h2, if_neg h3, if_pos h4]; rfl)
      · rename_i h4
        exact key 255 8 (by omega) rfl (by omega) (by unfold sizeS; rw [if_neg h2, if_neg h3, if_neg h4]; rfl)
theorem wideS_le (b : Int) : wideS b ≤ 8 := by unfold wideS; split; (· omega); split <;> omega
theorem str_append (a b : List Int) : strOfNums a ++ strOfNums b = strOfNums (a ++ b) := by
  apply ByteArray.ext
  simp [strOfNums]
theorem str_inj {a b : List Int} (ha : Bytes a) (hb : Bytes b) (h : (strOfNums a).toList = (strOfNums b).toList) : a = b := by
  rw [ByteArray.toList_eq, ByteArray.toList_eq, strOfNums_data, strOfNums_data] at h
  induction a generalizing b with
  | nil => cases b with | nil => rfl | cons _ _ => simp at h
  | cons x a ih =>
    cases b with
    | nil => simp at h
    | cons y b =>
      simp only [List.map_cons, List.cons.injEq] at h
      have hx := ha x List.mem_cons_self
      have hy := hb y List.mem_cons_self
      have e : x = y := by
        have := congrArg UInt8.toNat h.1
        simp [UInt8.toNat_ofNat'] at this
        omega
      rw [e, ih (fun c hc => ha c (List.mem_cons_of_mem _ hc)) (fun c hc => hb c (List.mem_cons_of_mem _ hc)) h.2]
theorem bytes_append {a b : List Int} (ha : Bytes a) (hb : Bytes b) : Bytes (a ++ b) := fun c hc => by
  rcases List.mem_append.1 hc with h | h
  · exact ha c h
  · exact hb c h
theorem readS_fine (l : List Int) (h : Bytes l) : (0 ≤ (readS l).1 ∧ (readS l).1 ≤ 18446744073709551615) ∧ (0 ≤ (readS l).2.1 ∧ (readS l).2.1 ≤ l.length) ∧ ((readS l).2.2 = 0 ∨ (readS l).2.2 = 10) ∧ ((readS l).2.2 = 0 → 1 ≤ (readS l).2.1) := by
  cases l with
  | nil => simp [readS]
  | cons b r =>
    have hb := h b List.mem_cons_self
    have hr : Bytes r := fun c hc => h c (List.mem_cons_of_mem _ hc)
    rw [readS_cons]
    split
    · simp; omega
    · split
      · simp; omega
      · rename_i h1 h2
        have hw := wideS_le b
        have hbd := be_bound (r.take (wideS b)) (take_bytes hr _)
        have hlen : (r.take (wideS b)).length = wideS b := by rw [List.length_take]; omega
        rw [hlen] at hbd
        have hp : (256 : Int) ^ wideS b ≤ 256 ^ 8 := by
          have z : ((256 ^ wideS b : Nat) : Int) ≤ ((256 ^ 8 : Nat) : Int) := Int.ofNat_le.2 (Nat.pow_le_pow_right (by omega) hw)
          simpa using z
        split
        · rw [List.length_cons]; refine ⟨⟨hbd.1, by show be (r.take (wideS b)) ≤ _; omega⟩, ⟨by show 0 ≤ (wideS b : Int) + 1; omega, by show (wideS b : Int) + 1 ≤ _; omega⟩, Or.inl rfl, fun _ => by show (1 : Int) ≤ (wideS b : Int) + 1; omega⟩
        · simp; omega
theorem size_mono (x y : Int) (h : x ≤ y) : sizeS x ≤ sizeS y := by
  unfold sizeS
  repeat' split
  all_goals omega
theorem num_inj {x y : Int} (hx : 0 ≤ x) (hx1 : x ≤ 18446744073709551615) (hy : 0 ≤ y) (hy1 : y ≤ 18446744073709551615) (h : numS x = numS y) : x = y := by
  have a := readS_num x hx hx1 []
  have b := readS_num y hy hy1 []
  rw [h, b] at a
  exact (congrArg Prod.fst a).symm
theorem u8_closed : ∀ (l : List Int), closedL (l.map u8) = true
  | [] => rfl
  | x :: l => by
    have := u8_closed l
    simp only [closedL, List.map_cons, namL, nam, Bool.true_and] at this ⊢
    exact this
theorem byteEls_u8 : ∀ (l : List Int), byteEls (l.map u8) = some l
  | [] => rfl
  | x :: l => by simp only [List.map_cons, byteEls, byteEls_u8 l, Option.map_some]
theorem get_u8 {l : List Int} {i : Nat} (h : i < l.length) : (l.map u8)[i]? = some (u8 l[i]) := by rw [List.getElem?_map, List.getElem?_eq_getElem h]; rfl
theorem bytes_get {l : List Int} (h : Bytes l) {i : Nat} (hi : i < l.length) : 0 ≤ l[i] ∧ l[i] ≤ 255 := h _ (List.getElem_mem hi)
theorem w_u8 (x : Int) : IntKind.u8.wrap x = x % 256 := IntKind.wrap_u8 x
theorem shl_c (k k2 : IntKind) (x : Int) (n : Nat) (hn : n ≤ k.bits) : abin .shl (.int k x) (.int k2 (n : Int)) = some (.int k (k.wrap (x * 2 ^ n))) := by
  simp only [abin, ashift, if_neg (show ¬ (n : Int) < 0 by omega), Int.toNat_natCast, Nat.min_eq_left hn]
theorem shr_c (k k2 : IntKind) (x : Int) (n : Nat) (hn : n ≤ k.bits) : abin .shr (.int k x) (.int k2 (n : Int)) = some (.int k (x.fdiv (2 ^ n))) := by
  simp only [abin, ashift, if_neg (show ¬ (n : Int) < 0 by omega), Int.toNat_natCast, Nat.min_eq_left hn]
theorem or_byte (x c : Int) (h0 : 0 ≤ x) (h1 : x * 256 + 255 ≤ 18446744073709551615) (c0 : 0 ≤ c) (c1 : c ≤ 255) : abin .or (.int .u64 (x * 256)) (.int .u64 c) = some (.int .u64 (x * 256 + c)) := by
  obtain ⟨a, rfl⟩ := Int.eq_ofNat_of_zero_le h0
  obtain ⟨b, rfl⟩ := Int.eq_ofNat_of_zero_le c0
  simp only [abin, aint, abit, if_true, Option.map_some, Option.some.injEq, Value.int.injEq, true_and]
  have e : (BitVec.ofInt IntKind.u64.bits ((a : Int) * 256) ||| BitVec.ofInt IntKind.u64.bits (b : Int)).toNat = a * 256 + b := by
    show (BitVec.ofInt 64 ((a : Int) * 256) ||| BitVec.ofInt 64 (b : Int)).toNat = _
    rw [BitVec.toNat_or, BitVec.toNat_ofInt, BitVec.toNat_ofInt]
    have e1 : (((a : Int) * 256) % (2 ^ 64 : Nat)).toNat = a <<< 8 := by
      rw [Nat.shiftLeft_eq]
      omega
    have e2 : ((b : Int) % (2 ^ 64 : Nat)).toNat = b := by omega
    rw [e1, e2, ← Nat.shiftLeft_add_eq_or_of_lt (show b < 2 ^ 8 by omega), Nat.shiftLeft_eq]
  rw [e, IntKind.wrap_u64]
  omega
end Go.Proofs.Ytnlemcfhndjheaa.AM

/- The sets for runs, each as one fact. -/
namespace Go.Proofs.Ytnlemcfhndjheaa.AM
open Go
set_option maxRecDepth 100000
set_option maxHeartbeats 4000000
set_option linter.defProp false
def wC := (And.intro (And.intro (And.intro (And.intro (And.intro (And.intro (And.intro @ax_seq (And.intro @ax_skip @ax_ret)) (And.intro @ax_exit (And.intro @ax_scope @ax_regK))) (And.intro (And.intro @ax_regQK (And.intro @ax_condK @ax_blockK)) (And.intro @condK_t (And.intro @condK_f @blkR_normal)))) (And.intro (And.intro (And.intro @blkR_ret (And.intro @blkR_if @norR_eq)) (And.intro @norQ_eq (And.intro @nextR_normal @nextR_ret))) (And.intro (And.intro @nextR_exit (And.intro @aops_nil @aops_none)) (And.intro (And.intro @aops_some @opsK_some) (And.intro @opsG_tt @opsG_ft))))) (And.intro (And.intro (And.intro (And.intro @opsG_tf (And.intro @opsG_ff @aopsQ_nil)) (And.intro @aopsQ_none (And.intro @aopsQ_some @quiK_some))) (And.intro (And.intro @quiG_tt (And.intro @quiG_ft @quiG_tf)) (And.intro @quiG_ff (And.intro @evO_tmp @evO_cst)))) (And.intro (And.intro (And.intro @getE_cons (And.intro @setE_some @setE_none)) (And.intro @bin_leq (And.intro @bin_geq @bin_lss))) (And.intro (And.intro @bin_gtr (And.intro @bin_eql @bin_neq)) (And.intro (And.intro @bin_add @bin_sub) (And.intro @bin_mul @Option.bind_some.{0, 0})))))) (And.intro (And.intro (And.intro (And.intro (And.intro @Option.map_some.{0, 0} (And.intro @Option.bind_none.{0, 0} @Option.map_none.{0, 0})) (And.intro @frz_eq (And.intro @Bool.false_eq_true @Bool.true_and))) (And.intro (And.intro @Bool.false_and (And.intro @Bool.and_true @Bool.and_false)) (And.intro @List.length_cons.{0} (And.intro @List.length_nil.{0} @List.nil_append.{0})))) (And.intro (And.intro (And.intro @List.cons_append.{0} (And.intro @List.getElem?_cons_zero.{0} @List.getElem?_cons_succ.{0})) (And.intro @List.drop_zero.{0} (And.intro @List.drop_succ_cons.{0} @List.take_succ_cons.{0}))) (And.intro (And.intro @List.take_zero.{0} (And.intro @Nat.le_refl @List.map_cons.{0, 0})) (And.intro (And.intro @List.map_nil.{0, 0} @List.append_nil.{0}) (And.intro @bin_quo @bin_rem))))) (And.intro (And.intro (And.intro (And.intro @rigK_sc (And.intro @rigK_agg @rigK_tup)) (And.intro @fstV_eq (And.intro @quiet_load @quiet_convStr))) (And.intro (And.intro @quiet_call (And.intro @Nat.lt_irrefl @and_false)) (And.intro @false_and (And.intro @decide_true @decide_false)))) (And.intro (And.intro (And.intro @Int.mul_zero (And.intro @Int.add_zero @ax_loop)) (And.intro @quiet_move (And.intro @quiet_pick @quiet_build))) (And.intro (And.intro @quiet_nilCheck (And.intro @quiet_bin @quiet_eqBool)) (And.intro (And.intro @quiet_eqArr @quiet_eqNil) (And.intro @quiet_un @quiet_convInt))))))) (And.intro (And.intro (And.intro (And.intro (And.intro (And.intro @quiet_makeFunc (And.intro @quiet_slice @quiet_toArr)) (And.intro @quiet_fieldAddr (And.intro @quiet_field @quiet_indexAddr))) (And.intro (And.intro @quiet_index (And.intro @quiet_indexStr @quiet_extract)) (And.intro @quiet_len (And.intro @quiet_lenT @quiet_convSS)))) (And.intro (And.intro (And.intro @quiet_minmax (And.intro @opsG_undef @quiG_undef)) (And.intro @fin_ret (And.intro @fin_normal @WP_some))) (And.intro (And.intro @WP_bind (And.intro @WP_map @WP_ite)) (And.intro (And.intro @WP_opsK_ite @WP_quiK_ite) (And.intro @BQ_eq @MQ_eq))))) (And.intro (And.intro (And.intro (And.intro @LQ_normal (And.intro @LQ_exit @LQ_ret)) (And.intro @Bool.not_true (And.intro @Bool.not_false @kz_some))) (And.intro (And.intro @kz_none (And.intro @Nat.mul_one @Nat.zero_add)) (And.intro @Int.toNat_natCast (And.intro @List.length_map.{0, 0} @true_and)))) (And.intro (And.intro (And.intro @and_true (And.intro @trim_off @and_self)) (And.intro @aun_not (And.intro @decide_eq_true @decide_eq_false))) (And.intro (And.intro @IntWalk.i64_in (And.intro @IntWalk.u64_in @cast_succ')) (And.intro (And.intro @List.set_cons_zero.{0} @List.set_cons_succ.{0}) (And.intro @List.length_set.{0} @List.length_append.{0})))))) (And.intro (And.intro (And.intro (And.intro (And.intro @List.length_replicate.{0} (And.intro @Int.natCast_nonneg @flat_one')) (And.intro @List.getElem?_drop.{0} (And.intro @Nat.add_zero @ax_regD))) (And.intro (And.intro @runD_nil (And.intro @runD_none @runD_some)) (And.intro @dK_some (And.intro @dG_tt @dG_ft)))) (And.intro (And.intro (And.intro @dG_tf (And.intro @dG_ff @dG_undef)) (And.intro @WP_dK_ite (And.intro @chkR_eq @chkV_some))) (And.intro (And.intro @chkV_off (And.intro @grow_eq @wantE_none)) (And.intro (And.intro @wantE_some @storeB_K) (And.intro @stB_eq @splice_nil))))) (And.intro (And.intro (And.intro (And.intro @splice_one (And.intro @splice_more @setParts_nil)) (And.intro @setParts_K (And.intro @spK_eq @nxE_some))) (And.intro (And.intro @nxE_none (And.intro @bne_ff @bne_tf)) (And.intro @bne_ft (And.intro @bne_tt @beq_ff)))) (And.intro (And.intro (And.intro @beq_tf (And.intro @beq_ft @beq_tt)) (And.intro @bne_f (And.intro @bne_t @fits_of))) (And.intro (And.intro @Option.getD_some.{0} (And.intro @Option.getD_none.{0} @get_app)) (And.intro (And.intro @get_app0 @set_app) (And.intro @set_app0 @tn_pred))))))))
def wO := (And.intro (And.intro (And.intro (And.intro (And.intro (And.intro @cellsOf_int @one_int) (And.intro @cellsOf_bool @one_bool)) (And.intro (And.intro @cellsOf_str @one_str) (And.intro @cellsOf_nil (And.intro @one_nil @cellsOf_nilp)))) (And.intro (And.intro (And.intro @one_nilp @cellsOf_nilm) (And.intro @one_nilm @cellsOf_nilf)) (And.intro (And.intro @one_nilf @cellsOf_slice) (And.intro @one_slice (And.intro @cellsOf_ptr @one_ptr))))) (And.intro (And.intro (And.intro (And.intro @cellsOf_ref @one_ref) (And.intro @cellsOf_ms @one_ms)) (And.intro (And.intro @cellsOf_func @one_func) (And.intro @cellsOf_agg (And.intro @one_agg @strip_sc)))) (And.intro (And.intro (And.intro @strip_slice @strip_ptr) (And.intro @strip_ref (And.intro @strip_ms @strip_func))) (And.intro (And.intro @strip_agg @strip_tup) (And.intro @lenOf_slice (And.intro @lenOf_ms @lenOf_nil)))))) (And.intro (And.intro (And.intro (And.intro (And.intro @elems_slice @elems_ms) (And.intro @elems_nil @elems_str)) (And.intro (And.intro @stripO_none @stripO_full) (And.intro @stripO_tok (And.intro @stripO_fresh @isNil_pn)))) (And.intro (And.intro (And.intro @isNil_pp @isNil_pr) (And.intro @isNil_sn (And.intro @isNil_sc @isNil_ms))) (And.intro (And.intro @elC_agg @elC_int) (And.intro @elC_slice (And.intro @elC_ref @elC_ptr))))) (And.intro (And.intro (And.intro (And.intro @elC_ms @stripEl_agg) (And.intro @stripEl_sc @stripEl_slice)) (And.intro (And.intro @elFits_agg @elFits_sc) (And.intro @elFits_slice (And.intro @beqV_ref @beqV_agg)))) (And.intro (And.intro (And.intro @beqV_slice @beqV_ptr) (And.intro @beqV_ms (And.intro @beqV_tup @beqV_sc))) (And.intro (And.intro @beqVL_nil @beqVL_cons) (And.intro @convS_slice (And.intro @convS_nil @convS_ms)))))))
theorem dq1 {p : Prop} [Decidable p] (h : decide p = true) : p := of_decide_eq_true h
theorem dq2 {p : Prop} [Decidable p] (h : decide p = false) : ¬p := of_decide_eq_false h
theorem dq3 {p : Prop} [Decidable p] (h : (!decide p) = true) : ¬p := of_decide_eq_false ((Bool.not_eq_true' _).mp h)
theorem dq4 {p : Prop} [Decidable p] (h : (!decide p) = false) : p := of_decide_eq_true ((Bool.not_eq_false' _).mp h)
end Go.Proofs.Ytnlemcfhndjheaa.AM

/- bigsize's numbers in the plain machine. -/
namespace Go.Proofs.Ytnlemcfhndjheaa.AM
open Go
set_option maxRecDepth 100000
set_option linter.unusedSimpArgs false
set_option linter.unusedVariables false
theorem width_ok (x : Int) : prun T F49 [u64 x] = some (.tup [u8 (firstS x), i64 (widthS x)]) := by
  refine WP_eq (prun_wp ?_)
  have hb := trivial
  repeat' (first | (simp -implicitDefEqProofs (disch := omega) only [hb, F49, wC, initE, aop, Nat.reduceEqDiff, ↓reduceIte, Nat.reduceAdd, finish, resOf, tupOf, AM.freeze, freeze1, freezeL, closed, nam, namL, if_true, if_false, deref, boxAt, exAt, ldCells, oneL, oneCell, Nat.reduceLeDiff, evL, adopt, rigid, rigidL, trim, Int.reduceEq, Int.reduceMod, Int.reduceDiv, if_pos, if_neg, asI, forall_const, implies_true, chkD, chkO, chkW, effB, reB, vEq, beq_self_eq_true, Nat.reduceSub, Nat.reduceLT, Int.reduceSub, Int.reduceAdd, Int.reduceMul, Int.reduceLT, Int.reduceLE, Int.reduceToNat, optI, aslice, cutSl, cutMs, cutStr, cutOwn, cellsOf, one, elCells, lenOf, beqV, beqVL, strip, stripO, convS]) | ((first | rw [WP_condK] | rw [WP_opsG] | rw [WP_quiG] | rw [WP_dG]); refine And.intro (fun hb => ?_) (fun hb => ?_) <;> (first | have hd := dq1 hb | have hd := dq2 hb | have hd := dq3 hb | have hd := dq4 hb | skip)))
  all_goals simp [firstS, widthS, *]
theorem call_width (x : Int) (h : Heap) : ag T 49 [u64 x] h = some (.tup [u8 (firstS x), i64 (widthS x)], h) := call_tup rfl t49 rfl rfl rfl rfl (width_ok x)
theorem size_width (x : Int) : (widthS x : Int) + 1 = sizeS x := by
  unfold widthS sizeS
  repeat' split
  all_goals rfl
theorem size_ok (x : Int) : prun T F29 [u64 x] = some (i64 (sizeS x)) := by
  refine WP_eq (prun_wp ?_)
  have h1 := size_width x
  have h2 := sizeS_le x
  have h3 : ((widthS x + 1 : Nat) : Int) = sizeS x := h1
  simp -implicitDefEqProofs (disch := omega) only [F29, call_width, h3, wC, initE, aop, Nat.reduceEqDiff, ↓reduceIte, Nat.reduceAdd, finish, resOf, tupOf, AM.freeze, freeze1, freezeL, closed, nam, namL, if_true, if_false, deref, boxAt, exAt, ldCells, oneL, oneCell, Nat.reduceLeDiff, evL, adopt, rigid, rigidL, trim, Int.reduceEq, Int.reduceMod, Int.reduceDiv, if_pos, if_neg, asI, forall_const, implies_true, chkD, chkO, chkW, effB, reB, vEq, beq_self_eq_true, Nat.reduceSub, Nat.reduceLT, Int.reduceSub, Int.reduceAdd, Int.reduceMul, Int.reduceLT, Int.reduceLE, Int.reduceToNat, optI, aslice, cutSl, cutMs, cutStr, cutOwn, cellsOf, one, elCells, lenOf, beqV, beqVL, strip, stripO, convS]
theorem call_size (x : Int) (h : Heap) : ag T 29 [u64 x] h = some (i64 (sizeS x), h) := call_sc rfl t29 rfl rfl rfl rfl (size_ok x)
theorem sizeS_pos (x : Int) : 0 < sizeS x := by
  have := size_width x
  omega
theorem fits1 {n : Nat} (h : n ≤ 140737488355328) : fitsB n 1 = true := by simp [fitsB]; omega
theorem tail_snoc (x : Int) (n : Nat) : tailS (n + 1) x = x / 256 ^ n % 256 :: tailS n x := rfl
theorem shr_byte (x : Int) (j : Nat) (hj : j ≤ 8) : abin .shr (.int .u64 x) (.int .i64 (8 * (j : Int))) = some (.int .u64 (x / 256 ^ j)) := by
  have := shr_c .u64 .i64 x (8 * j) (by simp [IntKind.bits]; omega)
  rw [show ((8 * j : Nat) : Int) = 8 * (j : Int) by omega] at this
  rw [this, Int.fdiv_eq_ediv_of_nonneg _ (by exact Int.le_of_lt (Int.pow_pos (by omega)))]
  congr 3
  rw [show (256 : Int) = 2 ^ 8 by decide, ← Int.pow_mul]
/-- Put -/
theorem put_gen (a : AV) (l : List Int) (x : Int) (hx : U64 x) (hn : l.length ≤ 140737488200000) (k1 : ∀ h, ag T 36 [a] h = some (.slice (.tok h.length) none (l.map u8), h ++ [.row none l.length])) : prun T F30 [a, u64 x] = some (.slice .fresh none ((l ++ numS x).map u8)) := by
  obtain ⟨x0, x1⟩ := hx
  have hs0 := sizeS_pos x
  have hs1 := (sizeS_le x).2
  have hc := u8_closed l
  have k2 : ag T 50 [.slice (.tok 0) none (l.map u8), i64 (sizeS x)] [.row none (l.map u8).length] = _ := call_grow rfl nf50 n50 rfl hs0 (by omega) (by simp; omega)
  simp only [List.length_map] at k2
  refine WP_eq (prun_wp ?_)
  have hb := trivial
  repeat' (first | (simp -implicitDefEqProofs (disch := omega) only [hb, F30, k1, k2, call_size, call_width, setEls, elFits, stripEl, List.replicate_succ, List.replicate_zero, elemsOf, aappend, wC, initE, aop, Nat.reduceEqDiff, ↓reduceIte, Nat.reduceAdd, finish, resOf, tupOf, AM.freeze, freeze1, freezeL, closed, nam, namL, if_true, if_false, deref, boxAt, exAt, ldCells, oneL, oneCell, Nat.reduceLeDiff, evL, adopt, rigid, rigidL, trim, Int.reduceEq, Int.reduceMod, Int.reduceDiv, if_pos, if_neg, asI, forall_const, implies_true, chkD, chkO, chkW, effB, reB, vEq, beq_self_eq_true, Nat.reduceSub, Nat.reduceLT, Int.reduceSub, Int.reduceAdd, Int.reduceMul, Int.reduceLT, Int.reduceLE, Int.reduceToNat, optI, aslice, cutSl, cutMs, cutStr, cutOwn, cellsOf, one, elCells, lenOf, beqV, beqVL, strip, stripO, convS]) | ((first | rw [WP_condK] | rw [WP_opsG] | rw [WP_quiG] | rw [WP_dG]); refine And.intro (fun hb => ?_) (fun hb => ?_) <;> (first | have hd := dq1 hb | have hd := dq2 hb | have hd := dq3 hb | have hd := dq4 hb | skip)))
  · have hw : widthS x = 0 := by omega
    have hx : x < 253 := by
      have := size_width x
      rw [hw] at this
      unfold sizeS at this
      split at this
      · assumption
      · split at this
        · omega
        · split at this <;> omega
    have e1 : IntKind.u8.wrap x = x := by rw [w_u8]; omega
    have e2 : numS x = [x] := by unfold numS; rw [if_pos hx]
    rw [e1, e2]
    refine ⟨?_, ?_⟩
    · have := u8_closed (l ++ [x])
      simpa using this
    · simp
  · have hw : ¬ widthS x = 0 := by omega
    have hx : ¬ x < 253 := by
      intro h
      unfold widthS at hw
      rw [if_pos h] at hw
      exact hw rfl
    have e2 := numS_eq x hx
    have hw8 : widthS x ≤ 8 := by have := size_width x; omega
    refine WP_loop (I := fun n e h => ∃ D : List Int, n ≤ 8 ∧ D ++ tailS n x = l ++ numS x ∧ D.length ≤ l.length + 9 ∧ h = [.row none (l.length + 1), .row none D.length] ∧ getE e 1 = u64 x ∧ getE e 5 = .slice (.tok 1) none (D.map u8) ∧ getE e 7 = i64 ((n : Int) - 1)) ?_ (widthS x) _ _ ⟨l ++ [firstS x], hw8, by rw [e2]; simp, by (simp <;> omega), by simp, rfl, by simp [getE], by simp [getE]; rw [IntWalk.i64_in _ ⟨by omega, by omega⟩]⟩
    rintro n e h ⟨D, hn8, hD, hDl, rfl, h1, h5, h7⟩
    rw [trim_same' (by simp)]
    have hDl2 : D.length + n = l.length + (numS x).length := by
      have := congrArg List.length hD
      rw [List.length_append, List.length_append, tailS_len] at this
      exact this
    cases n with
    | zero =>
      have hD' : D = l ++ numS x := by simpa [tailS] using hD
      subst hD'
      have hcl := u8_closed (l ++ numS x)
      have hb := trivial
      repeat' (first | (simp -implicitDefEqProofs (disch := omega) only [hb, L30_0, h1, h5, h7, wC, initE, aop, Nat.reduceEqDiff, ↓reduceIte, Nat.reduceAdd, finish, resOf, tupOf, AM.freeze, freezeL, closed, nam, namL, if_true, if_false, deref, boxAt, exAt, ldCells, oneL, oneCell, Nat.reduceLeDiff, evL, adopt, rigid, rigidL, trim, Int.reduceEq, Int.reduceMod, Int.reduceDiv, if_pos, if_neg, asI, forall_const, implies_true, chkD, chkO, chkW, effB, reB, vEq, beq_self_eq_true, Nat.reduceSub, Nat.reduceLT, Int.reduceSub, Int.reduceAdd, Int.reduceMul, Int.reduceLT, Int.reduceLE, Int.reduceToNat, optI, aslice, cutSl, cutMs, cutStr, cutOwn, cellsOf, one, elCells, lenOf, beqV, beqVL, strip, stripO, convS]) | ((first | rw [WP_condK] | rw [WP_opsG] | rw [WP_quiG] | rw [WP_dG]); refine And.intro (fun hb => ?_) (fun hb => ?_) <;> (first | have hd := dq1 hb | have hd := dq2 hb | have hd := dq3 hb | have hd := dq4 hb | skip)))
      simp only [freeze1, if_pos hcl, WP, if_true]
      simp
    | succ j =>
      have e1 : (((j + 1 : Nat) : Int) - 1) = (j : Int) := by omega
      rw [e1] at h7
      have hsh : abin .shr (.int .u64 x) (.int .i64 (8 * (j : Int))) = some (.int .u64 (x / 256 ^ j)) := shr_byte x j (by omega)
      have hb := trivial
      repeat' (first | (simp -implicitDefEqProofs (disch := omega) only [hb, L30_0, h1, h5, h7, hsh, w_u8, setEls, elFits, stripEl, List.replicate_succ, List.replicate_zero, elemsOf, aappend, wC, initE, aop, Nat.reduceEqDiff, ↓reduceIte, Nat.reduceAdd, finish, resOf, tupOf, AM.freeze, freeze1, freezeL, closed, nam, namL, if_true, if_false, deref, boxAt, exAt, ldCells, oneL, oneCell, Nat.reduceLeDiff, evL, adopt, rigid, rigidL, trim, Int.reduceEq, Int.reduceMod, Int.reduceDiv, if_pos, if_neg, asI, forall_const, implies_true, chkD, chkO, chkW, effB, reB, vEq, beq_self_eq_true, Nat.reduceSub, Nat.reduceLT, Int.reduceSub, Int.reduceAdd, Int.reduceMul, Int.reduceLT, Int.reduceLE, Int.reduceToNat, optI, aslice, cutSl, cutMs, cutStr, cutOwn, cellsOf, one, elCells, lenOf, beqV, beqVL, strip, stripO, convS]) | ((first | rw [WP_condK] | rw [WP_opsG] | rw [WP_quiG] | rw [WP_dG]); refine And.intro (fun hb => ?_) (fun hb => ?_) <;> (first | have hd := dq1 hb | have hd := dq2 hb | have hd := dq3 hb | have hd := dq4 hb | skip)))
      refine ⟨j, by omega, D ++ [x / 256 ^ j % 256], by omega, ?_, ?_, by simp, by simp⟩
      · rw [List.append_assoc, ← hD]
        rfl
      · have := numS_len x
        rw [List.length_append, List.length_cons, List.length_nil]
        omega
theorem u8_len (l : List Int) : (l.map u8).length = l.length := List.length_map ..
theorem call_clone8 (o : AOwn) (l : List Int) (h : Heap) (hn : l.length ≤ 140737488355328) : ag T 36 [.slice o none (l.map u8)] h = some (.slice (.tok h.length) none (l.map u8), h ++ [.row none l.length]) := by
  have := call_clone e36 (o := o) h (u8_closed l) (fits1 (by simp; omega))
  rwa [u8_len] at this
theorem put_ok (o : AOwn) (l : List Int) (x : Int) (hx : U64 x) (hn : l.length ≤ 140737488200000) : prun T F30 [.slice o none (l.map u8), u64 x] = some (.slice .fresh none ((l ++ numS x).map u8)) :=
  put_gen _ l x hx hn fun h => call_clone8 o l h (by omega)
theorem call_put (o : AOwn) (l : List Int) (x : Int) (hx : U64 x) (hn : l.length ≤ 140737488200000) (h : Heap) : ag T 30 [.slice o none (l.map u8), u64 x] h = some (.slice (.tok h.length) none ((l ++ numS x).map u8), h ++ [.row none (l ++ numS x).length]) := by
  have := call_pure (T := T) (f := 30) (args := [.slice o none (l.map u8), u64 x]) (h := h) rfl t30 rfl rfl (by
    have := u8_closed l
    simp only [List.map_cons, List.map_nil, strip, closedL, namL, nam, Bool.and_true] at this ⊢
    rw [this]
    cases o <;> rfl) (put_ok (stripO o) l x hx hn)
  rw [this]
  simp only [Go.Proofs.Ytnlemcfhndjheaa.AM.adopt, u8_len]
theorem call_put_nil (x : Int) (hx : U64 x) (h : Heap) : ag T 30 [.nil, u64 x] h = some (.slice (.tok h.length) none ((numS x).map u8), h ++ [.row none (numS x).length]) := by
  have hp := put_gen .nil [] x hx (by simp) fun h => call_clone_nil e36 h
  have := call_pure (T := T) (f := 30) (args := [.nil, u64 x]) (h := h) rfl t30 rfl rfl rfl hp
  rw [this]
  simp only [Go.Proofs.Ytnlemcfhndjheaa.AM.adopt, u8_len, List.nil_append]
/-- the reference's number -/
theorem num_ok (x : Int) (hx : U64 x) : ∃ o, (o = .full ∨ o = .fresh) ∧ prun T F48 [u64 x] = some (.slice o none ((numS x).map u8)) := by
  obtain ⟨x0, x1⟩ := hx
  by_cases hx : x < 253
  · refine ⟨.full, .inl rfl, ?_⟩
    have e1 : IntKind.u8.wrap x = x := by rw [w_u8]; omega
    have e2 : numS x = [x] := by unfold numS; rw [if_pos hx]
    rw [e2]
    refine WP_eq (prun_wp ?_)
    have hb := trivial
    repeat' (first | (simp -implicitDefEqProofs (disch := omega) only [hb, F48, e1, setEls, elFits, stripEl, List.replicate_succ, List.replicate_zero, wC, initE, aop, Nat.reduceEqDiff, ↓reduceIte, Nat.reduceAdd, finish, resOf, tupOf, AM.freeze, freeze1, freezeL, closed, nam, namL, if_true, if_false, deref, boxAt, exAt, ldCells, oneL, oneCell, Nat.reduceLeDiff, evL, adopt, rigid, rigidL, trim, Int.reduceEq, Int.reduceMod, Int.reduceDiv, if_pos, if_neg, asI, forall_const, implies_true, chkD, chkO, chkW, effB, reB, vEq, beq_self_eq_true, Nat.reduceSub, Nat.reduceLT, Int.reduceSub, Int.reduceAdd, Int.reduceMul, Int.reduceLT, Int.reduceLE, Int.reduceToNat, optI, aslice, cutSl, cutMs, cutStr, cutOwn, cellsOf, one, elCells, lenOf, beqV, beqVL, strip, stripO, convS]) | ((first | rw [WP_condK] | rw [WP_opsG] | rw [WP_quiG] | rw [WP_dG]); refine And.intro (fun hb => ?_) (fun hb => ?_) <;> (first | have hd := dq1 hb | have hd := dq2 hb | have hd := dq3 hb | have hd := dq4 hb | skip)))
  · refine ⟨.fresh, .inr rfl, ?_⟩
    have e2 := numS_eq x hx
    refine WP_eq (prun_wp ?_)
    have hb := trivial
    repeat' (first | (simp -implicitDefEqProofs (disch := omega) only [hb, F48, setEls, elFits, stripEl, List.replicate_succ, List.replicate_zero, wC, initE, aop, Nat.reduceEqDiff, ↓reduceIte, Nat.reduceAdd, finish, resOf, tupOf, AM.freeze, freeze1, freezeL, closed, nam, namL, if_true, if_false, deref, boxAt, exAt, ldCells, oneL, oneCell, Nat.reduceLeDiff, evL, adopt, rigid, rigidL, trim, Int.reduceEq, Int.reduceMod, Int.reduceDiv, if_pos, if_neg, asI, forall_const, implies_true, chkD, chkO, chkW, effB, reB, vEq, beq_self_eq_true, Nat.reduceSub, Nat.reduceLT, Int.reduceSub, Int.reduceAdd, Int.reduceMul, Int.reduceLT, Int.reduceLE, Int.reduceToNat, optI, aslice, cutSl, cutMs, cutStr, cutOwn, cellsOf, one, elCells, lenOf, beqV, beqVL, strip, stripO, convS]) | ((first | rw [WP_condK] | rw [WP_opsG] | rw [WP_quiG] | rw [WP_dG]); refine And.intro (fun hb => ?_) (fun hb => ?_) <;> (first | have hd := dq1 hb | have hd := dq2 hb | have hd := dq3 hb | have hd := dq4 hb | skip)))
    all_goals
      refine WP_loop (I := fun n e h => ∃ (D : List Int) (o : AOwn), n ≤ 8 ∧ D ++ tailS n x = numS x ∧ D.length + n ≤ 9 ∧ ((o = .full ∧ h = [.row none 0] ∧ 0 < n) ∨ (o = .tok 1 ∧ h = [.row none 0, .row none D.length])) ∧ getE e 0 = u64 x ∧ getE e 4 = .slice o none (D.map u8) ∧ getE e 5 = i64 ((n : Int) - 1)) ?_ (widthS x) _ _ ⟨[firstS x], .full, by simp [widthS, *], by rw [e2]; rfl, by simp [widthS, *], .inl ⟨rfl, rfl, by simp [widthS, *]⟩, rfl, by simp [getE, firstS, *], by simp [getE, widthS, *]⟩
      rintro n e h ⟨D, o, hn8, hD, hDl, ho, h0, h4, h5⟩
      rw [trim_off]
      cases n with
      | zero =>
        have hD' : D = numS x := by simpa [tailS] using hD
        subst hD'
        have hcl := u8_closed (numS x)
        rcases ho with ⟨_, _, hh⟩ | ⟨rfl, rfl⟩
        · omega
        have hb := trivial
        repeat' (first | (simp -implicitDefEqProofs (disch := omega) only [hb, L48_0, h0, h4, h5, wC, initE, aop, Nat.reduceEqDiff, ↓reduceIte, Nat.reduceAdd, finish, resOf, tupOf, AM.freeze, freezeL, closed, nam, namL, if_true, if_false, deref, boxAt, exAt, ldCells, oneL, oneCell, Nat.reduceLeDiff, evL, adopt, rigid, rigidL, trim, Int.reduceEq, Int.reduceMod, Int.reduceDiv, if_pos, if_neg, asI, forall_const, implies_true, chkD, chkO, chkW, effB, reB, vEq, beq_self_eq_true, Nat.reduceSub, Nat.reduceLT, Int.reduceSub, Int.reduceAdd, Int.reduceMul, Int.reduceLT, Int.reduceLE, Int.reduceToNat, optI, aslice, cutSl, cutMs, cutStr, cutOwn, cellsOf, one, elCells, lenOf, beqV, beqVL, strip, stripO, convS]) | ((first | rw [WP_condK] | rw [WP_opsG] | rw [WP_quiG] | rw [WP_dG]); refine And.intro (fun hb => ?_) (fun hb => ?_) <;> (first | have hd := dq1 hb | have hd := dq2 hb | have hd := dq3 hb | have hd := dq4 hb | skip)))
        simp only [freeze1, if_pos hcl, WP, if_true]
        simp
      | succ j =>
        have e1 : (((j + 1 : Nat) : Int) - 1) = (j : Int) := by omega
        rw [e1] at h5
        have hsh : abin .shr (.int .u64 x) (.int .i64 (8 * (j : Int))) = some (.int .u64 (x / 256 ^ j)) := shr_byte x j (by omega)
        rcases ho with ⟨rfl, rfl, _⟩ | ⟨rfl, rfl⟩
        all_goals
          have hb := trivial
          repeat' (first | (simp -implicitDefEqProofs (disch := omega) only [hb, L48_0, h0, h4, h5, hsh, w_u8, setEls, elFits, stripEl, List.replicate_succ, List.replicate_zero, elemsOf, aappend, wC, initE, aop, Nat.reduceEqDiff, ↓reduceIte, Nat.reduceAdd, finish, resOf, tupOf, AM.freeze, freeze1, freezeL, closed, nam, namL, if_true, if_false, deref, boxAt, exAt, ldCells, oneL, oneCell, Nat.reduceLeDiff, evL, adopt, rigid, rigidL, trim, Int.reduceEq, Int.reduceMod, Int.reduceDiv, if_pos, if_neg, asI, forall_const, implies_true, chkD, chkO, chkW, effB, reB, vEq, beq_self_eq_true, Nat.reduceSub, Nat.reduceLT, Int.reduceSub, Int.reduceAdd, Int.reduceMul, Int.reduceLT, Int.reduceLE, Int.reduceToNat, optI, aslice, cutSl, cutMs, cutStr, cutOwn, cellsOf, one, elCells, lenOf, beqV, beqVL, strip, stripO, convS]) | ((first | rw [WP_condK] | rw [WP_opsG] | rw [WP_quiG] | rw [WP_dG]); refine And.intro (fun hb => ?_) (fun hb => ?_) <;> (first | have hd := dq1 hb | have hd := dq2 hb | have hd := dq3 hb | have hd := dq4 hb | skip)))
          refine ⟨j, by omega, D ++ [x / 256 ^ j % 256], .tok 1, by omega, by rw [List.append_assoc, ← hD]; rfl, by rw [List.length_append, List.length_cons, List.length_nil]; omega, .inr ⟨rfl, by simp⟩, by simp⟩
end Go.Proofs.Ytnlemcfhndjheaa.AM
