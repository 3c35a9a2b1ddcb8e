import Derived.Test.YtakgaofemfpakaaAm18
/- The functions for the plain machine (printed by gen2.py). -/
namespace Go.Proofs.Ytakgaofemfpakaa.AM
open Go
set_option maxRecDepth 100000
def bs (l : List Nat) : ByteArray := ⟨(l.map UInt8.ofNat).toArray⟩
def gl : Nat → Option (List Value) := fun _ => none
/- tollhouse/tollhouselaw19.PolicyForwards -/
def F3 : AFn := ⟨41, true, 5, [.tmp 10], .seq
 (.reg [⟨some 5, .box (.tmp 0), none⟩,
  ⟨some 6, .box (.tmp 1), none⟩,
  ⟨some 10, .move (.cst (.bool false)), none⟩])
 (.seq
 (.regQ [⟨some 11, .call (.cst (.func (.func 8) [] [])) [], none⟩,
  ⟨some 12, .move (.tmp 11), none⟩,
  ⟨some 13, .load (some 5) (.tmp 5), some (12, true)⟩,
  ⟨some 14, .call (.cst (.func (.func 9) [] [])) [(.tmp 13)], some (12, true)⟩,
  ⟨some 15, .load (some 5) (.tmp 5), some (12, true)⟩,
  ⟨some 16, .call (.cst (.func (.func 10) [] [])) [(.tmp 15)], some (12, true)⟩,
  ⟨some 17, .eqBool false (.tmp 14) (.tmp 16), some (12, true)⟩,
  ⟨some 18, .pick (.tmp 12) (.tmp 17) (.cst (.bool false)), none⟩,
  ⟨some 19, .move (.tmp 18), none⟩,
  ⟨some 20, .load (some 5) (.tmp 5), some (19, true)⟩,
  ⟨some 21, .load (some 101) (.tmp 6), some (19, true)⟩,
  ⟨some 22, .move (.tmp 2), some (19, true)⟩,
  ⟨some 23, .move (.tmp 3), some (19, true)⟩,
  ⟨some 24, .move (.tmp 4), some (19, true)⟩,
  ⟨some 25, .call (.cst (.func (.func 11) [] [])) [(.tmp 20), (.tmp 21), (.tmp 22), (.tmp 23), (.tmp 24)], some (19, true)⟩,
  ⟨some 26, .load (some 5) (.tmp 5), some (19, true)⟩,
  ⟨some 27, .load (some 101) (.tmp 6), some (19, true)⟩,
  ⟨some 28, .move (.tmp 2), some (19, true)⟩,
  ⟨some 29, .move (.tmp 3), some (19, true)⟩,
  ⟨some 30, .move (.tmp 4), some (19, true)⟩,
  ⟨some 31, .call (.cst (.func (.func 12) [] [])) [(.tmp 26), (.tmp 27), (.tmp 28), (.tmp 29), (.tmp 30)], some (19, true)⟩,
  ⟨some 32, .bin .eql (.tmp 25) (.tmp 31), some (19, true)⟩,
  ⟨some 33, .pick (.tmp 19) (.tmp 32) (.cst (.bool false)), none⟩,
  ⟨some 34, .move (.tmp 33), none⟩,
  ⟨some 35, .load (some 5) (.tmp 5), some (34, true)⟩,
  ⟨some 36, .call (.cst (.func (.func 13) [] [])) [(.tmp 35)], some (34, true)⟩,
  ⟨some 37, .load (some 5) (.tmp 5), some (34, true)⟩,
  ⟨some 38, .call (.cst (.func (.func 14) [] [])) [(.tmp 37)], some (34, true)⟩,
  ⟨some 39, .bin .eql (.tmp 36) (.tmp 38), some (34, true)⟩,
  ⟨some 40, .pick (.tmp 34) (.tmp 39) (.cst (.bool false)), none⟩,
  ⟨some 10, .move (.tmp 40), none⟩])
 (.ret))⟩
theorem c3 : compF Try.prog gl true [] [] Try.f3 = some F3 := by kernel_rfl
/- tollhouse/tollhouselaw19.PolicyRises -/
def F4 : AFn := ⟨85, true, 7, [.tmp 14], .seq
 (.reg [⟨some 7, .box (.tmp 0), none⟩,
  ⟨some 8, .box (.tmp 1), none⟩,
  ⟨some 14, .move (.cst (.bool false)), none⟩])
 (.seq
 (.seq
 (.reg [⟨some 17, .call (.cst (.func (.func 8) [] [])) [], none⟩,
  ⟨some 18, .un .not (.tmp 17), none⟩,
  ⟨some 19, .move (.tmp 18), none⟩,
  ⟨some 20, .load (some 5) (.tmp 7), some (19, false)⟩,
  ⟨some 21, .load (some 101) (.tmp 8), some (19, false)⟩,
  ⟨some 22, .move (.tmp 2), some (19, false)⟩,
  ⟨some 23, .move (.tmp 3), some (19, false)⟩,
  ⟨some 24, .move (.tmp 4), some (19, false)⟩,
  ⟨some 25, .call (.cst (.func (.func 11) [] [])) [(.tmp 20), (.tmp 21), (.tmp 22), (.tmp 23), (.tmp 24)], some (19, false)⟩,
  ⟨some 26, .bin .neq (.tmp 25) (.cst (.int .i64 0)), some (19, false)⟩,
  ⟨some 27, .pick (.tmp 19) (.cst (.bool true)) (.tmp 26), none⟩,
  ⟨some 28, .move (.tmp 27), none⟩,
  ⟨some 29, .move (.tmp 5), some (28, false)⟩,
  ⟨some 30, .bin .lss (.tmp 29) (.cst (.int .i64 0)), some (28, false)⟩,
  ⟨some 31, .pick (.tmp 28) (.cst (.bool true)) (.tmp 30), none⟩,
  ⟨some 32, .move (.tmp 31), none⟩,
  ⟨some 33, .move (.tmp 6), some (32, false)⟩,
  ⟨some 34, .bin .lss (.tmp 33) (.cst (.int .i64 0)), some (32, false)⟩,
  ⟨some 35, .pick (.tmp 32) (.cst (.bool true)) (.tmp 34), none⟩,
  ⟨some 36, .move (.tmp 35), none⟩,
  ⟨some 37, .move (.tmp 6), some (36, false)⟩,
  ⟨some 38, .bin .gtr (.tmp 37) (.cst (.int .i64 1073741824)), some (36, false)⟩,
  ⟨some 39, .pick (.tmp 36) (.cst (.bool true)) (.tmp 38), none⟩,
  ⟨some 40, .move (.tmp 39), none⟩,
  ⟨some 41, .move (.tmp 2), some (40, false)⟩,
  ⟨some 42, .bin .gtr (.tmp 41) (.cst (.int .i64 4611686018427387903)), some (40, false)⟩,
  ⟨some 43, .pick (.tmp 40) (.cst (.bool true)) (.tmp 42), none⟩,
  ⟨some 44, .move (.tmp 43), none⟩,
  ⟨some 45, .move (.tmp 5), some (44, false)⟩,
  ⟨some 46, .bin .gtr (.tmp 45) (.cst (.int .i64 4611686018427387904)), some (44, false)⟩,
  ⟨some 47, .pick (.tmp 44) (.cst (.bool true)) (.tmp 46), none⟩])
 (.cond (.tmp 47)
 (.seq
 (.reg [⟨some 48, .call (.cst (.func (.func 8) [] [])) [], none⟩,
  ⟨some 14, .move (.tmp 48), none⟩])
 (.ret))
 (.skip)))
 (.seq
 (.reg [⟨some 49, .load (some 5) (.tmp 7), none⟩,
  ⟨some 50, .load (some 101) (.tmp 8), none⟩,
  ⟨some 51, .move (.tmp 2), none⟩,
  ⟨some 52, .move (.tmp 5), none⟩,
  ⟨some 53, .bin .add (.tmp 51) (.tmp 52), none⟩,
  ⟨some 54, .move (.tmp 3), none⟩,
  ⟨some 55, .move (.tmp 4), none⟩,
  ⟨some 56, .call (.cst (.func (.func 11) [] [])) [(.tmp 49), (.tmp 50), (.tmp 53), (.tmp 54), (.tmp 55)], none⟩,
  ⟨some 15, .move (.tmp 56), none⟩])
 (.seq
 (.reg [⟨some 57, .load (some 5) (.tmp 7), none⟩,
  ⟨some 58, .load (some 101) (.tmp 8), none⟩,
  ⟨some 59, .move (.tmp 2), none⟩,
  ⟨some 60, .move (.tmp 3), none⟩,
  ⟨some 61, .move (.tmp 6), none⟩,
  ⟨some 62, .bin .add (.tmp 60) (.tmp 61), none⟩,
  ⟨some 63, .move (.tmp 4), none⟩,
  ⟨some 64, .call (.cst (.func (.func 11) [] [])) [(.tmp 57), (.tmp 58), (.tmp 59), (.tmp 62), (.tmp 63)], none⟩,
  ⟨some 16, .move (.tmp 64), none⟩])
 (.seq
 (.reg [⟨some 65, .move (.tmp 15), none⟩,
  ⟨some 66, .bin .eql (.tmp 65) (.cst (.int .i64 0)), none⟩,
  ⟨some 67, .move (.tmp 66), none⟩,
  ⟨some 68, .move (.tmp 16), some (67, true)⟩,
  ⟨some 69, .bin .eql (.tmp 68) (.cst (.int .i64 0)), some (67, true)⟩,
  ⟨some 70, .move (.tmp 69), some (67, true)⟩,
  ⟨some 71, .move (.tmp 16), some (70, false)⟩,
  ⟨some 72, .bin .eql (.tmp 71) (.cst (.int .i64 6)), some (70, false)⟩,
  ⟨some 73, .pick (.tmp 70) (.cst (.bool true)) (.tmp 72), some (67, true)⟩,
  ⟨some 74, .move (.tmp 73), some (67, true)⟩,
  ⟨some 75, .move (.tmp 16), some (74, false)⟩,
  ⟨some 76, .bin .eql (.tmp 75) (.cst (.int .i64 1)), some (74, false)⟩,
  ⟨some 77, .move (.tmp 76), some (74, false)⟩,
  ⟨some 78, .move (.tmp 3), some (77, true)⟩,
  ⟨some 79, .move (.tmp 6), some (77, true)⟩,
  ⟨some 80, .bin .add (.tmp 78) (.tmp 79), some (77, true)⟩,
  ⟨some 81, .bin .gtr (.tmp 80) (.cst (.int .i64 2147483647)), some (77, true)⟩,
  ⟨some 82, .pick (.tmp 77) (.tmp 81) (.cst (.bool false)), some (74, false)⟩,
  ⟨some 83, .pick (.tmp 74) (.cst (.bool true)) (.tmp 82), some (67, true)⟩,
  ⟨some 84, .pick (.tmp 67) (.tmp 83) (.cst (.bool false)), none⟩,
  ⟨some 14, .move (.tmp 84), none⟩])
 (.ret)))))⟩
theorem c4 : compF Try.prog gl true [] [] Try.f4 = some F4 := by kernel_rfl
/- tollhouse/tollhouselaw19.PolicyFinals -/
def F5 : AFn := ⟨41, true, 5, [.tmp 10], .seq
 (.reg [⟨some 5, .box (.tmp 0), none⟩,
  ⟨some 6, .box (.tmp 1), none⟩,
  ⟨some 10, .move (.cst (.bool false)), none⟩])
 (.seq
 (.regQ [⟨some 11, .call (.cst (.func (.func 8) [] [])) [], none⟩,
  ⟨some 12, .move (.tmp 11), none⟩,
  ⟨some 13, .load (some 5) (.tmp 5), some (12, true)⟩,
  ⟨some 14, .load (some 101) (.tmp 6), some (12, true)⟩,
  ⟨some 15, .move (.tmp 2), some (12, true)⟩,
  ⟨some 16, .move (.tmp 3), some (12, true)⟩,
  ⟨some 17, .move (.tmp 4), some (12, true)⟩,
  ⟨some 18, .call (.cst (.func (.func 15) [] [])) [(.tmp 13), (.tmp 14), (.tmp 15), (.tmp 16), (.tmp 17)], some (12, true)⟩,
  ⟨some 19, .load (some 5) (.tmp 5), some (12, true)⟩,
  ⟨some 20, .load (some 101) (.tmp 6), some (12, true)⟩,
  ⟨some 21, .move (.tmp 2), some (12, true)⟩,
  ⟨some 22, .move (.tmp 3), some (12, true)⟩,
  ⟨some 23, .move (.tmp 4), some (12, true)⟩,
  ⟨some 24, .call (.cst (.func (.func 16) [] [])) [(.tmp 19), (.tmp 20), (.tmp 21), (.tmp 22), (.tmp 23)], some (12, true)⟩,
  ⟨some 25, .bin .eql (.tmp 18) (.tmp 24), some (12, true)⟩,
  ⟨some 26, .pick (.tmp 12) (.tmp 25) (.cst (.bool false)), none⟩,
  ⟨some 27, .move (.tmp 26), none⟩,
  ⟨some 28, .move (.tmp 2), some (27, true)⟩,
  ⟨some 29, .call (.cst (.func (.func 17) [] [])) [(.tmp 28)], some (27, true)⟩,
  ⟨some 30, .move (.tmp 2), some (27, true)⟩,
  ⟨some 31, .call (.cst (.func (.func 18) [] [])) [(.tmp 30)], some (27, true)⟩,
  ⟨some 32, .eqBool false (.tmp 29) (.tmp 31), some (27, true)⟩,
  ⟨some 33, .pick (.tmp 27) (.tmp 32) (.cst (.bool false)), none⟩,
  ⟨some 34, .move (.tmp 33), none⟩,
  ⟨some 35, .move (.tmp 4), some (34, true)⟩,
  ⟨some 36, .call (.cst (.func (.func 17) [] [])) [(.tmp 35)], some (34, true)⟩,
  ⟨some 37, .move (.tmp 4), some (34, true)⟩,
  ⟨some 38, .call (.cst (.func (.func 18) [] [])) [(.tmp 37)], some (34, true)⟩,
  ⟨some 39, .eqBool false (.tmp 36) (.tmp 38), some (34, true)⟩,
  ⟨some 40, .pick (.tmp 34) (.tmp 39) (.cst (.bool false)), none⟩,
  ⟨some 10, .move (.tmp 40), none⟩])
 (.ret))⟩
theorem c5 : compF Try.prog gl true [] [] Try.f5 = some F5 := by kernel_rfl
def L6_0 : AC := .seq
 (.seq
 (.reg [⟨some 38, .move (.tmp 9), none⟩,
  ⟨some 39, .move (.tmp 5), none⟩,
  ⟨some 40, .len (.tmp 39), none⟩,
  ⟨some 41, .bin .lss (.tmp 38) (.tmp 40), none⟩])
 (.cond (.tmp 41)
 (.skip)
 (.exit 0)))
 (.seq
 (.block 1
 (.seq
 (.regQ [⟨some 44, .move (.tmp 5), none⟩,
  ⟨some 45, .move (.tmp 9), none⟩,
  ⟨some 46, .indexAddr .slice none (.tmp 44) (.tmp 45), none⟩,
  ⟨some 47, .load none (.tmp 46), none⟩,
  ⟨some 48, .move (.tmp 7), none⟩,
  ⟨some 49, .move (.tmp 9), none⟩,
  ⟨some 50, .indexAddr .slice none (.tmp 48) (.tmp 49), none⟩,
  ⟨some 51, .load none (.tmp 50), none⟩,
  ⟨some 52, .bin .neq (.tmp 47) (.tmp 51), none⟩])
 (.cond (.tmp 52)
 (.seq
 (.reg [⟨some 4, .move (.cst (.bool false)), none⟩])
 (.ret))
 (.skip))))
 (.reg [⟨some 42, .move (.tmp 9), none⟩,
  ⟨some 43, .bin .add (.tmp 42) (.cst (.int .i64 1)), none⟩,
  ⟨some 9, .move (.tmp 43), none⟩]))
/- tollhouse/tollhouselaw19.PolicyExpiries -/
def F6 : AFn := ⟨53, true, 2, [.tmp 4], .seq
 (.reg [⟨some 4, .move (.cst (.bool false)), none⟩])
 (.seq
 (.reg [⟨some 11, .buildSlice (some 5) (.agg [(.int .i64 0), (.int .i64 0), (.int .i64 0), (.int .i64 0), (.int .i64 0)]) 0 [], none⟩,
  ⟨some 12, .move (.tmp 0), none⟩,
  ⟨some 13, .append (some 5) 40 (.tmp 11) (.tmp 12), none⟩,
  ⟨some 14, .move (.tmp 1), none⟩,
  ⟨some 15, .call (.cst (.func (.func 19) [] [])) [(.tmp 13), (.tmp 14)], none⟩,
  ⟨some 10, .move (.tmp 15), none⟩,
  ⟨some 16, .extract (.tmp 10) 0, none⟩,
  ⟨some 17, .extract (.tmp 10) 1, none⟩,
  ⟨some 5, .move (.tmp 16), none⟩,
  ⟨some 6, .move (.tmp 17), none⟩])
 (.seq
 (.reg [⟨some 19, .move (.tmp 0), none⟩,
  ⟨some 20, .move (.tmp 1), none⟩,
  ⟨some 21, .call (.cst (.func (.func 20) [] [])) [(.tmp 19), (.tmp 20)], none⟩,
  ⟨some 18, .move (.tmp 21), none⟩,
  ⟨some 22, .extract (.tmp 18) 0, none⟩,
  ⟨some 23, .extract (.tmp 18) 1, none⟩,
  ⟨some 7, .move (.tmp 22), none⟩,
  ⟨some 8, .move (.tmp 23), none⟩])
 (.seq
 (.seq
 (.reg [⟨some 24, .call (.cst (.func (.func 8) [] [])) [], none⟩,
  ⟨some 25, .un .not (.tmp 24), none⟩,
  ⟨some 26, .move (.tmp 25), none⟩,
  ⟨some 27, .move (.tmp 6), some (26, false)⟩,
  ⟨some 28, .move (.tmp 8), some (26, false)⟩,
  ⟨some 29, .bin .neq (.tmp 27) (.tmp 28), some (26, false)⟩,
  ⟨some 30, .pick (.tmp 26) (.cst (.bool true)) (.tmp 29), none⟩,
  ⟨some 31, .move (.tmp 30), none⟩,
  ⟨some 32, .move (.tmp 5), some (31, false)⟩,
  ⟨some 33, .len (.tmp 32), some (31, false)⟩,
  ⟨some 34, .move (.tmp 7), some (31, false)⟩,
  ⟨some 35, .len (.tmp 34), some (31, false)⟩,
  ⟨some 36, .bin .neq (.tmp 33) (.tmp 35), some (31, false)⟩,
  ⟨some 37, .pick (.tmp 31) (.cst (.bool true)) (.tmp 36), none⟩])
 (.cond (.tmp 37)
 (.seq
 (.reg [⟨some 4, .move (.cst (.bool false)), none⟩])
 (.ret))
 (.skip)))
 (.seq
 (.seq
 (.reg [⟨some 9, .move (.cst (.int .i64 0)), none⟩])
 (.block 0
 (.loop [5, 7, 9] true L6_0)))
 (.seq
 (.reg [⟨some 4, .move (.cst (.bool true)), none⟩])
 (.ret))))))⟩
theorem c6 : compF Try.prog gl true [] [([5, 7, 9], true)] Try.f6 = some F6 := by kernel_rfl
def L7_0 : AC := .seq
 (.seq
 (.reg [⟨some 69, .move (.tmp 15), none⟩,
  ⟨some 70, .move (.tmp 0), none⟩,
  ⟨some 71, .len (.tmp 70), none⟩,
  ⟨some 72, .bin .lss (.tmp 69) (.tmp 71), none⟩])
 (.cond (.tmp 72)
 (.skip)
 (.exit 2)))
 (.seq
 (.block 3
 (.seq
 (.regD [⟨some 75, .move (.tmp 11), none⟩,
  ⟨some 76, .move (.tmp 15), none⟩,
  ⟨some 77, .bin .add (.tmp 76) (.cst (.int .i64 1)), none⟩,
  ⟨some 78, .indexAddr .slice none (.tmp 75) (.tmp 77), none⟩,
  ⟨some 79, .load none (.tmp 78), none⟩,
  ⟨some 80, .move (.tmp 13), none⟩,
  ⟨some 81, .move (.tmp 15), none⟩,
  ⟨some 82, .bin .add (.tmp 81) (.cst (.int .i64 1)), none⟩,
  ⟨some 83, .indexAddr .slice none (.tmp 80) (.tmp 82), none⟩,
  ⟨some 84, .load none (.tmp 83), none⟩,
  ⟨some 85, .build [(.int .i64 0), (.int .i64 0), (.int .i64 0), (.int .u8 0), (.int .u8 0), (.int .u8 0), (.int .u8 0), (.int .u8 0), (.int .u8 0), (.int .u8 0), (.int .u8 0), (.int .u8 0), (.int .u8 0), (.int .u8 0), (.int .u8 0), (.int .u8 0), (.int .u8 0), (.int .u8 0), (.int .u8 0), (.int .u8 0), (.int .u8 0), (.int .u8 0), (.int .u8 0), (.int .u8 0), (.int .u8 0), (.int .u8 0), (.int .u8 0), (.int .u8 0), (.int .u8 0), (.int .u8 0), (.int .u8 0), (.int .u8 0), (.int .u8 0), (.int .u8 0), (.int .u8 0), (.int .i64 0), (.int .u8 0), (.int .u8 0), (.int .u8 0), (.int .u8 0), (.int .u8 0), (.int .u8 0), (.int .u8 0), (.int .u8 0), (.int .u8 0), (.int .u8 0), (.int .u8 0), (.int .u8 0), (.int .u8 0), (.int .u8 0), (.int .u8 0), (.int .u8 0), (.int .u8 0), (.int .u8 0), (.int .u8 0), (.int .u8 0), (.int .u8 0), (.int .u8 0), (.int .u8 0), (.int .u8 0), (.int .u8 0), (.int .u8 0), (.int .u8 0), (.int .u8 0), (.int .u8 0), (.int .u8 0), (.int .u8 0), (.int .u8 0), (.int .i64 0), (.int .u8 0), (.int .u8 0), (.int .u8 0), (.int .u8 0), (.int .u8 0), (.int .u8 0), (.int .u8 0), (.int .u8 0), (.int .u8 0), (.int .u8 0), (.int .u8 0), (.int .u8 0), (.int .u8 0), (.int .u8 0), (.int .u8 0), (.int .u8 0), (.int .u8 0), (.int .u8 0), (.int .u8 0), (.int .u8 0), (.int .u8 0), (.int .u8 0), (.int .u8 0), (.int .u8 0), (.int .u8 0), (.int .u8 0), (.int .u8 0), (.int .u8 0), (.int .u8 0), (.int .u8 0), (.int .u8 0), (.int .u8 0)] [(0, 1, (.cst (.int .i64 1))), (1, 1, (.tmp 79)), (2, 1, (.tmp 84))], none⟩,
  ⟨some 16, .alloc [(.int .i64 0), (.int .i64 0), (.int .i64 0), (.int .u8 0), (.int .u8 0), (.int .u8 0), (.int .u8 0), (.int .u8 0), (.int .u8 0), (.int .u8 0), (.int .u8 0), (.int .u8 0), (.int .u8 0), (.int .u8 0), (.int .u8 0), (.int .u8 0), (.int .u8 0), (.int .u8 0), (.int .u8 0), (.int .u8 0), (.int .u8 0), (.int .u8 0), (.int .u8 0), (.int .u8 0), (.int .u8 0), (.int .u8 0), (.int .u8 0), (.int .u8 0), (.int .u8 0), (.int .u8 0), (.int .u8 0), (.int .u8 0), (.int .u8 0), (.int .u8 0), (.int .u8 0), (.int .i64 0), (.int .u8 0), (.int .u8 0), (.int .u8 0), (.int .u8 0), (.int .u8 0), (.int .u8 0), (.int .u8 0), (.int .u8 0), (.int .u8 0), (.int .u8 0), (.int .u8 0), (.int .u8 0), (.int .u8 0), (.int .u8 0), (.int .u8 0), (.int .u8 0), (.int .u8 0), (.int .u8 0), (.int .u8 0), (.int .u8 0), (.int .u8 0), (.int .u8 0), (.int .u8 0), (.int .u8 0), (.int .u8 0), (.int .u8 0), (.int .u8 0), (.int .u8 0), (.int .u8 0), (.int .u8 0), (.int .u8 0), (.int .u8 0), (.int .i64 0), (.int .u8 0), (.int .u8 0), (.int .u8 0), (.int .u8 0), (.int .u8 0), (.int .u8 0), (.int .u8 0), (.int .u8 0), (.int .u8 0), (.int .u8 0), (.int .u8 0), (.int .u8 0), (.int .u8 0), (.int .u8 0), (.int .u8 0), (.int .u8 0), (.int .u8 0), (.int .u8 0), (.int .u8 0), (.int .u8 0), (.int .u8 0), (.int .u8 0), (.int .u8 0), (.int .u8 0), (.int .u8 0), (.int .u8 0), (.int .u8 0), (.int .u8 0), (.int .u8 0), (.int .u8 0), (.int .u8 0), (.int .u8 0)], none⟩,
  ⟨none, .store 101 (.tmp 16) (.tmp 85), none⟩] [(0, 1), (0, 1), (0, 1), (0, 1), (0, 1), (0, 1), (0, 1), (0, 1), (0, 1), (0, 1), (0, 1), (0, 0), (1, 1)])
 (.seq
 (.regQ [⟨some 86, .move (.tmp 0), none⟩,
  ⟨some 87, .move (.tmp 15), none⟩,
  ⟨some 88, .indexAddr .slice (some 5) (.tmp 86) (.tmp 87), none⟩,
  ⟨some 89, .load (some 5) (.tmp 88), none⟩,
  ⟨some 90, .load (some 101) (.tmp 16), none⟩,
  ⟨some 91, .move (.tmp 11), none⟩,
  ⟨some 92, .move (.tmp 15), none⟩,
  ⟨some 93, .indexAddr .slice none (.tmp 91) (.tmp 92), none⟩,
  ⟨some 94, .load none (.tmp 93), none⟩,
  ⟨some 95, .move (.tmp 13), none⟩,
  ⟨some 96, .move (.tmp 15), none⟩,
  ⟨some 97, .indexAddr .slice none (.tmp 95) (.tmp 96), none⟩,
  ⟨some 98, .load none (.tmp 97), none⟩,
  ⟨some 99, .move (.tmp 3), none⟩,
  ⟨some 100, .call (.cst (.func (.func 11) [] [])) [(.tmp 89), (.tmp 90), (.tmp 94), (.tmp 98), (.tmp 99)], none⟩,
  ⟨some 17, .move (.tmp 100), none⟩])
 (.seq
 (.regQ [⟨some 101, .move (.tmp 13), none⟩,
  ⟨some 102, .move (.tmp 15), none⟩,
  ⟨some 103, .indexAddr .slice none (.tmp 101) (.tmp 102), none⟩,
  ⟨some 104, .load none (.tmp 103), none⟩,
  ⟨some 105, .move (.tmp 3), none⟩,
  ⟨some 106, .bin .gtr (.tmp 104) (.tmp 105), none⟩,
  ⟨some 107, .move (.tmp 106), none⟩,
  ⟨some 108, .move (.tmp 13), some (107, true)⟩,
  ⟨some 109, .move (.tmp 15), some (107, true)⟩,
  ⟨some 110, .indexAddr .slice none (.tmp 108) (.tmp 109), some (107, true)⟩,
  ⟨some 111, .load none (.tmp 110), some (107, true)⟩,
  ⟨some 112, .move (.tmp 3), some (107, true)⟩,
  ⟨some 113, .bin .sub (.tmp 111) (.tmp 112), some (107, true)⟩,
  ⟨some 114, .move (.tmp 0), some (107, true)⟩,
  ⟨some 115, .move (.tmp 15), some (107, true)⟩,
  ⟨some 116, .indexAddr .slice (some 5) (.tmp 114) (.tmp 115), some (107, true)⟩,
  ⟨some 117, .fieldAddr 4 1 (.tmp 116), some (107, true)⟩,
  ⟨some 118, .load none (.tmp 117), some (107, true)⟩,
  ⟨some 119, .bin .gtr (.tmp 113) (.tmp 118), some (107, true)⟩,
  ⟨some 120, .pick (.tmp 107) (.tmp 119) (.cst (.bool false)), none⟩,
  ⟨some 18, .move (.tmp 120), none⟩])
 (.seq
 (.regQ [⟨some 121, .move (.tmp 13), none⟩,
  ⟨some 122, .move (.tmp 15), none⟩,
  ⟨some 123, .bin .add (.tmp 122) (.cst (.int .i64 1)), none⟩,
  ⟨some 124, .indexAddr .slice none (.tmp 121) (.tmp 123), none⟩,
  ⟨some 125, .load none (.tmp 124), none⟩,
  ⟨some 126, .move (.tmp 3), none⟩,
  ⟨some 127, .bin .lss (.tmp 125) (.tmp 126), none⟩,
  ⟨some 128, .move (.tmp 127), none⟩,
  ⟨some 129, .move (.tmp 13), some (128, false)⟩,
  ⟨some 130, .move (.tmp 15), some (128, false)⟩,
  ⟨some 131, .bin .add (.tmp 130) (.cst (.int .i64 1)), some (128, false)⟩,
  ⟨some 132, .indexAddr .slice none (.tmp 129) (.tmp 131), some (128, false)⟩,
  ⟨some 133, .load none (.tmp 132), some (128, false)⟩,
  ⟨some 134, .move (.tmp 3), some (128, false)⟩,
  ⟨some 135, .bin .sub (.tmp 133) (.tmp 134), some (128, false)⟩,
  ⟨some 136, .move (.tmp 0), some (128, false)⟩,
  ⟨some 137, .move (.tmp 15), some (128, false)⟩,
  ⟨some 138, .indexAddr .slice (some 5) (.tmp 136) (.tmp 137), some (128, false)⟩,
  ⟨some 139, .fieldAddr 3 1 (.tmp 138), some (128, false)⟩,
  ⟨some 140, .load none (.tmp 139), some (128, false)⟩,
  ⟨some 141, .bin .leq (.tmp 135) (.tmp 140), some (128, false)⟩,
  ⟨some 142, .pick (.tmp 128) (.cst (.bool true)) (.tmp 141), none⟩,
  ⟨some 19, .move (.tmp 142), none⟩])
 (.seq
 (.reg [⟨some 143, .move (.tmp 18), none⟩,
  ⟨some 144, .move (.tmp 143), none⟩,
  ⟨some 145, .move (.tmp 17), some (144, true)⟩,
  ⟨some 146, .bin .neq (.tmp 145) (.cst (.int .i64 6)), some (144, true)⟩,
  ⟨some 147, .pick (.tmp 144) (.tmp 146) (.cst (.bool false)), none⟩,
  ⟨some 148, .move (.tmp 147), none⟩,
  ⟨some 149, .move (.tmp 18), some (148, false)⟩,
  ⟨some 150, .un .not (.tmp 149), some (148, false)⟩,
  ⟨some 151, .move (.tmp 150), some (148, false)⟩,
  ⟨some 152, .move (.tmp 19), some (151, true)⟩,
  ⟨some 153, .pick (.tmp 151) (.tmp 152) (.cst (.bool false)), some (148, false)⟩,
  ⟨some 154, .move (.tmp 153), some (148, false)⟩,
  ⟨some 155, .move (.tmp 17), some (154, true)⟩,
  ⟨some 156, .bin .neq (.tmp 155) (.cst (.int .i64 5)), some (154, true)⟩,
  ⟨some 157, .pick (.tmp 154) (.tmp 156) (.cst (.bool false)), some (148, false)⟩,
  ⟨some 158, .pick (.tmp 148) (.cst (.bool true)) (.tmp 157), none⟩,
  ⟨some 159, .move (.tmp 158), none⟩,
  ⟨some 160, .move (.tmp 18), some (159, false)⟩,
  ⟨some 161, .un .not (.tmp 160), some (159, false)⟩,
  ⟨some 162, .move (.tmp 161), some (159, false)⟩,
  ⟨some 163, .move (.tmp 19), some (162, true)⟩,
  ⟨some 164, .un .not (.tmp 163), some (162, true)⟩,
  ⟨some 165, .pick (.tmp 162) (.tmp 164) (.cst (.bool false)), some (159, false)⟩,
  ⟨some 166, .move (.tmp 165), some (159, false)⟩,
  ⟨some 167, .move (.tmp 17), some (166, true)⟩,
  ⟨some 168, .bin .neq (.tmp 167) (.cst (.int .i64 0)), some (166, true)⟩,
  ⟨some 169, .pick (.tmp 166) (.tmp 168) (.cst (.bool false)), some (159, false)⟩,
  ⟨some 170, .pick (.tmp 159) (.cst (.bool true)) (.tmp 169), none⟩])
 (.cond (.tmp 170)
 (.seq
 (.reg [⟨some 8, .move (.cst (.bool false)), none⟩])
 (.ret))
 (.skip))))))))
 (.reg [⟨some 73, .move (.tmp 15), none⟩,
  ⟨some 74, .bin .add (.tmp 73) (.cst (.int .i64 1)), none⟩,
  ⟨some 15, .move (.tmp 74), none⟩]))
def L7_1 : AC := .seq
 (.seq
 (.reg [⟨some 20, .move (.tmp 10), none⟩,
  ⟨some 21, .move (.tmp 0), none⟩,
  ⟨some 22, .len (.tmp 21), none⟩,
  ⟨some 23, .bin .lss (.tmp 20) (.tmp 22), none⟩])
 (.cond (.tmp 23)
 (.skip)
 (.exit 0)))
 (.seq
 (.block 1
 (.reg [⟨some 26, .move (.tmp 9), none⟩,
  ⟨some 27, .move (.tmp 0), none⟩,
  ⟨some 28, .move (.tmp 10), none⟩,
  ⟨some 29, .indexAddr .slice (some 5) (.tmp 27) (.tmp 28), none⟩,
  ⟨some 30, .fieldAddr 0 2 (.tmp 29), none⟩,
  ⟨some 31, .load (some 2) (.tmp 30), none⟩,
  ⟨some 32, .buildSlice (some 2) (.agg [(.int .i64 0), (.int .i64 0)]) 1 [(0, (.tmp 31))], none⟩,
  ⟨some 33, .append (some 2) 16 (.tmp 26) (.tmp 32), none⟩,
  ⟨some 9, .move (.tmp 33), none⟩]))
 (.reg [⟨some 24, .move (.tmp 10), none⟩,
  ⟨some 25, .bin .add (.tmp 24) (.cst (.int .i64 1)), none⟩,
  ⟨some 10, .move (.tmp 25), none⟩]))
/- tollhouse/tollhouselaw19.PolicyWays -/
def F7 : AFn := ⟨171, true, 4, [.tmp 8], .seq
 (.reg [⟨some 8, .move (.cst (.bool false)), none⟩])
 (.seq
 (.reg [⟨some 9, .acc (some 2) (.cst .nil), none⟩])
 (.seq
 (.seq
 (.reg [⟨some 10, .move (.cst (.int .i64 0)), none⟩])
 (.block 0
 (.loop [0, 1, 2, 3, 9, 10] true L7_1)))
 (.seq
 (.reg [⟨some 35, .move (.tmp 9), none⟩,
  ⟨some 36, .move (.tmp 1), none⟩,
  ⟨some 37, .call (.cst (.func (.func 21) [] [])) [(.tmp 35), (.tmp 36)], none⟩,
  ⟨some 34, .move (.tmp 37), none⟩,
  ⟨some 38, .extract (.tmp 34) 0, none⟩,
  ⟨some 39, .extract (.tmp 34) 1, none⟩,
  ⟨some 11, .move (.tmp 38), none⟩,
  ⟨some 12, .move (.tmp 39), none⟩])
 (.seq
 (.reg [⟨some 41, .move (.tmp 0), none⟩,
  ⟨some 42, .move (.tmp 2), none⟩,
  ⟨some 43, .call (.cst (.func (.func 19) [] [])) [(.tmp 41), (.tmp 42)], none⟩,
  ⟨some 40, .move (.tmp 43), none⟩,
  ⟨some 44, .extract (.tmp 40) 0, none⟩,
  ⟨some 45, .extract (.tmp 40) 1, none⟩,
  ⟨some 13, .move (.tmp 44), none⟩,
  ⟨some 14, .move (.tmp 45), none⟩])
 (.seq
 (.seq
 (.reg [⟨some 46, .call (.cst (.func (.func 8) [] [])) [], none⟩,
  ⟨some 47, .un .not (.tmp 46), none⟩,
  ⟨some 48, .move (.tmp 47), none⟩,
  ⟨some 49, .move (.tmp 12), some (48, false)⟩,
  ⟨some 50, .bin .neq (.tmp 49) (.cst (.int .i64 0)), some (48, false)⟩,
  ⟨some 51, .pick (.tmp 48) (.cst (.bool true)) (.tmp 50), none⟩,
  ⟨some 52, .move (.tmp 51), none⟩,
  ⟨some 53, .move (.tmp 14), some (52, false)⟩,
  ⟨some 54, .bin .neq (.tmp 53) (.cst (.int .i64 0)), some (52, false)⟩,
  ⟨some 55, .pick (.tmp 52) (.cst (.bool true)) (.tmp 54), none⟩,
  ⟨some 56, .move (.tmp 55), none⟩,
  ⟨some 57, .move (.tmp 1), some (56, false)⟩,
  ⟨some 58, .bin .lss (.tmp 57) (.cst (.int .i64 1)), some (56, false)⟩,
  ⟨some 59, .pick (.tmp 56) (.cst (.bool true)) (.tmp 58), none⟩,
  ⟨some 60, .move (.tmp 59), none⟩,
  ⟨some 61, .move (.tmp 3), some (60, false)⟩,
  ⟨some 62, .bin .lss (.tmp 61) (.cst (.int .i64 0)), some (60, false)⟩,
  ⟨some 63, .pick (.tmp 60) (.cst (.bool true)) (.tmp 62), none⟩,
  ⟨some 64, .move (.tmp 63), none⟩,
  ⟨some 65, .move (.tmp 3), some (64, false)⟩,
  ⟨some 66, .bin .gtr (.tmp 65) (.cst (.int .i64 2147483647)), some (64, false)⟩,
  ⟨some 67, .pick (.tmp 64) (.cst (.bool true)) (.tmp 66), none⟩])
 (.cond (.tmp 67)
 (.seq
 (.reg [⟨some 68, .call (.cst (.func (.func 8) [] [])) [], none⟩,
  ⟨some 8, .move (.tmp 68), none⟩])
 (.ret))
 (.skip)))
 (.seq
 (.seq
 (.reg [⟨some 15, .move (.cst (.int .i64 0)), none⟩])
 (.block 2
 (.loop [0, 3, 11, 13, 15] true L7_0)))
 (.seq
 (.reg [⟨some 8, .move (.cst (.bool true)), none⟩])
 (.ret))))))))⟩
theorem c7 : compF Try.prog gl true [(9, (some 2))] [([0, 1, 2, 3, 9, 10], true), ([0, 3, 11, 13, 15], true)] Try.f7 = some F7 := by kernel_rfl
/- tollhouse/tollhouselaw19.lives -/
def F8 : AFn := ⟨34, true, 0, [.tmp 0], .seq
 (.reg [⟨some 0, .move (.cst (.bool false)), none⟩])
 (.seq
 (.reg [⟨some 2, .build [(.int .i64 0), (.int .i64 0), (.int .i64 0), (.int .u8 0), (.int .u8 0), (.int .u8 0), (.int .u8 0), (.int .u8 0), (.int .u8 0), (.int .u8 0), (.int .u8 0), (.int .u8 0), (.int .u8 0), (.int .u8 0), (.int .u8 0), (.int .u8 0), (.int .u8 0), (.int .u8 0), (.int .u8 0), (.int .u8 0), (.int .u8 0), (.int .u8 0), (.int .u8 0), (.int .u8 0), (.int .u8 0), (.int .u8 0), (.int .u8 0), (.int .u8 0), (.int .u8 0), (.int .u8 0), (.int .u8 0), (.int .u8 0), (.int .u8 0), (.int .u8 0), (.int .u8 0), (.int .i64 0), (.int .u8 0), (.int .u8 0), (.int .u8 0), (.int .u8 0), (.int .u8 0), (.int .u8 0), (.int .u8 0), (.int .u8 0), (.int .u8 0), (.int .u8 0), (.int .u8 0), (.int .u8 0), (.int .u8 0), (.int .u8 0), (.int .u8 0), (.int .u8 0), (.int .u8 0), (.int .u8 0), (.int .u8 0), (.int .u8 0), (.int .u8 0), (.int .u8 0), (.int .u8 0), (.int .u8 0), (.int .u8 0), (.int .u8 0), (.int .u8 0), (.int .u8 0), (.int .u8 0), (.int .u8 0), (.int .u8 0), (.int .u8 0), (.int .i64 0), (.int .u8 0), (.int .u8 0), (.int .u8 0), (.int .u8 0), (.int .u8 0), (.int .u8 0), (.int .u8 0), (.int .u8 0), (.int .u8 0), (.int .u8 0), (.int .u8 0), (.int .u8 0), (.int .u8 0), (.int .u8 0), (.int .u8 0), (.int .u8 0), (.int .u8 0), (.int .u8 0), (.int .u8 0), (.int .u8 0), (.int .u8 0), (.int .u8 0), (.int .u8 0), (.int .u8 0), (.int .u8 0), (.int .u8 0), (.int .u8 0), (.int .u8 0), (.int .u8 0), (.int .u8 0), (.int .u8 0), (.int .u8 0)] [(0, 1, (.cst (.int .i64 2))), (1, 1, (.cst (.int .i64 1000))), (2, 1, (.cst (.int .i64 15)))], none⟩,
  ⟨some 1, .alloc [(.int .i64 0), (.int .i64 0), (.int .i64 0), (.int .u8 0), (.int .u8 0), (.int .u8 0), (.int .u8 0), (.int .u8 0), (.int .u8 0), (.int .u8 0), (.int .u8 0), (.int .u8 0), (.int .u8 0), (.int .u8 0), (.int .u8 0), (.int .u8 0), (.int .u8 0), (.int .u8 0), (.int .u8 0), (.int .u8 0), (.int .u8 0), (.int .u8 0), (.int .u8 0), (.int .u8 0), (.int .u8 0), (.int .u8 0), (.int .u8 0), (.int .u8 0), (.int .u8 0), (.int .u8 0), (.int .u8 0), (.int .u8 0), (.int .u8 0), (.int .u8 0), (.int .u8 0), (.int .i64 0), (.int .u8 0), (.int .u8 0), (.int .u8 0), (.int .u8 0), (.int .u8 0), (.int .u8 0), (.int .u8 0), (.int .u8 0), (.int .u8 0), (.int .u8 0), (.int .u8 0), (.int .u8 0), (.int .u8 0), (.int .u8 0), (.int .u8 0), (.int .u8 0), (.int .u8 0), (.int .u8 0), (.int .u8 0), (.int .u8 0), (.int .u8 0), (.int .u8 0), (.int .u8 0), (.int .u8 0), (.int .u8 0), (.int .u8 0), (.int .u8 0), (.int .u8 0), (.int .u8 0), (.int .u8 0), (.int .u8 0), (.int .u8 0), (.int .i64 0), (.int .u8 0), (.int .u8 0), (.int .u8 0), (.int .u8 0), (.int .u8 0), (.int .u8 0), (.int .u8 0), (.int .u8 0), (.int .u8 0), (.int .u8 0), (.int .u8 0), (.int .u8 0), (.int .u8 0), (.int .u8 0), (.int .u8 0), (.int .u8 0), (.int .u8 0), (.int .u8 0), (.int .u8 0), (.int .u8 0), (.int .u8 0), (.int .u8 0), (.int .u8 0), (.int .u8 0), (.int .u8 0), (.int .u8 0), (.int .u8 0), (.int .u8 0), (.int .u8 0), (.int .u8 0), (.int .u8 0), (.int .u8 0)], none⟩,
  ⟨none, .store 101 (.tmp 1) (.tmp 2), none⟩])
 (.seq
 (.regD [⟨some 3, .call (.cst (.func (.func 22) [] [])) [], none⟩,
  ⟨some 4, .call (.cst (.func (.func 9) [] [])) [(.tmp 3)], none⟩,
  ⟨some 5, .move (.tmp 4), none⟩,
  ⟨some 6, .call (.cst (.func (.func 22) [] [])) [], some (5, true)⟩,
  ⟨some 7, .load (some 101) (.tmp 1), some (5, true)⟩,
  ⟨some 8, .call (.cst (.func (.func 11) [] [])) [(.tmp 6), (.tmp 7), (.cst (.int .i64 1002)), (.cst (.int .i64 20)), (.cst (.int .i64 3))], some (5, true)⟩,
  ⟨some 9, .bin .eql (.tmp 8) (.cst (.int .i64 0)), some (5, true)⟩,
  ⟨some 10, .pick (.tmp 5) (.tmp 9) (.cst (.bool false)), none⟩,
  ⟨some 11, .move (.tmp 10), none⟩,
  ⟨some 12, .call (.cst (.func (.func 22) [] [])) [], some (11, true)⟩,
  ⟨some 13, .load (some 101) (.tmp 1), some (11, true)⟩,
  ⟨some 14, .call (.cst (.func (.func 11) [] [])) [(.tmp 12), (.tmp 13), (.cst (.int .i64 1001)), (.cst (.int .i64 20)), (.cst (.int .i64 3))], some (11, true)⟩,
  ⟨some 15, .bin .eql (.tmp 14) (.cst (.int .i64 3)), some (11, true)⟩,
  ⟨some 16, .pick (.tmp 11) (.tmp 15) (.cst (.bool false)), none⟩,
  ⟨some 17, .move (.tmp 16), none⟩,
  ⟨some 18, .call (.cst (.func (.func 22) [] [])) [], some (17, true)⟩,
  ⟨some 19, .load (some 101) (.tmp 1), some (17, true)⟩,
  ⟨some 20, .call (.cst (.func (.func 11) [] [])) [(.tmp 18), (.tmp 19), (.cst (.int .i64 1002)), (.cst (.int .i64 19)), (.cst (.int .i64 3))], some (17, true)⟩,
  ⟨some 21, .bin .eql (.tmp 20) (.cst (.int .i64 4)), some (17, true)⟩,
  ⟨some 22, .pick (.tmp 17) (.tmp 21) (.cst (.bool false)), none⟩,
  ⟨some 23, .move (.tmp 22), none⟩,
  ⟨some 24, .call (.cst (.func (.func 22) [] [])) [], some (23, true)⟩,
  ⟨some 25, .build [(.int .i64 0), (.int .i64 0), (.int .i64 0), (.int .u8 0), (.int .u8 0), (.int .u8 0), (.int .u8 0), (.int .u8 0), (.int .u8 0), (.int .u8 0), (.int .u8 0), (.int .u8 0), (.int .u8 0), (.int .u8 0), (.int .u8 0), (.int .u8 0), (.int .u8 0), (.int .u8 0), (.int .u8 0), (.int .u8 0), (.int .u8 0), (.int .u8 0), (.int .u8 0), (.int .u8 0), (.int .u8 0), (.int .u8 0), (.int .u8 0), (.int .u8 0), (.int .u8 0), (.int .u8 0), (.int .u8 0), (.int .u8 0), (.int .u8 0), (.int .u8 0), (.int .u8 0), (.int .i64 0), (.int .u8 0), (.int .u8 0), (.int .u8 0), (.int .u8 0), (.int .u8 0), (.int .u8 0), (.int .u8 0), (.int .u8 0), (.int .u8 0), (.int .u8 0), (.int .u8 0), (.int .u8 0), (.int .u8 0), (.int .u8 0), (.int .u8 0), (.int .u8 0), (.int .u8 0), (.int .u8 0), (.int .u8 0), (.int .u8 0), (.int .u8 0), (.int .u8 0), (.int .u8 0), (.int .u8 0), (.int .u8 0), (.int .u8 0), (.int .u8 0), (.int .u8 0), (.int .u8 0), (.int .u8 0), (.int .u8 0), (.int .u8 0), (.int .i64 0), (.int .u8 0), (.int .u8 0), (.int .u8 0), (.int .u8 0), (.int .u8 0), (.int .u8 0), (.int .u8 0), (.int .u8 0), (.int .u8 0), (.int .u8 0), (.int .u8 0), (.int .u8 0), (.int .u8 0), (.int .u8 0), (.int .u8 0), (.int .u8 0), (.int .u8 0), (.int .u8 0), (.int .u8 0), (.int .u8 0), (.int .u8 0), (.int .u8 0), (.int .u8 0), (.int .u8 0), (.int .u8 0), (.int .u8 0), (.int .u8 0), (.int .u8 0), (.int .u8 0), (.int .u8 0), (.int .u8 0), (.int .u8 0)] [(1, 1, (.cst (.int .i64 5))), (35, 1, (.cst (.int .i64 5)))], some (23, true)⟩,
  ⟨some 26, .call (.cst (.func (.func 15) [] [])) [(.tmp 24), (.tmp 25), (.cst (.int .i64 5)), (.cst (.int .i64 20)), (.cst (.int .i64 3))], some (23, true)⟩,
  ⟨some 27, .bin .eql (.tmp 26) (.cst (.int .i64 0)), some (23, true)⟩,
  ⟨some 28, .pick (.tmp 23) (.tmp 27) (.cst (.bool false)), none⟩,
  ⟨some 29, .move (.tmp 28), none⟩,
  ⟨some 30, .call (.cst (.func (.func 22) [] [])) [], some (29, true)⟩,
  ⟨some 31, .call (.cst (.func (.func 13) [] [])) [(.tmp 30)], some (29, true)⟩,
  ⟨some 32, .bin .eql (.tmp 31) (.cst (.int .i64 7)), some (29, true)⟩,
  ⟨some 33, .pick (.tmp 29) (.tmp 32) (.cst (.bool false)), none⟩,
  ⟨some 0, .move (.tmp 33), none⟩] [(0, 0), (1, 1), (2, 2), (2, 2), (2, 3), (3, 3), (4, 4), (4, 4), (4, 4), (4, 4), (4, 5), (5, 5), (6, 6), (6, 6), (6, 6), (6, 6), (6, 7), (7, 7), (8, 8), (8, 8), (8, 8), (8, 8), (8, 9), (9, 9), (10, 10), (10, 10), (10, 10), (10, 10), (11, 11), (12, 12), (12, 12), (12, 12)])
 (.ret)))⟩
theorem c8 : compF Try.prog gl true [] [] Try.f8 = some F8 := by kernel_rfl
/- tollhouse/policy.May -/
def F9 : AFn := ⟨28, true, 1, [.tmp 2], .seq
 (.reg [⟨some 1, .box (.tmp 0), none⟩,
  ⟨some 2, .move (.cst (.bool false)), none⟩])
 (.seq
 (.reg [⟨some 6, .fieldAddr 0 2 (.tmp 1), none⟩,
  ⟨some 7, .load (some 2) (.tmp 6), none⟩,
  ⟨some 8, .call (.cst (.func (.func 23) [] [])) [(.tmp 7), (.cst (.int .i64 0))], none⟩,
  ⟨some 5, .move (.tmp 8), none⟩,
  ⟨some 9, .extract (.tmp 5) 0, none⟩,
  ⟨some 10, .extract (.tmp 5) 1, none⟩,
  ⟨some 3, .move (.tmp 9), none⟩,
  ⟨some 4, .move (.tmp 10), none⟩])
 (.seq
 (.reg [⟨some 11, .move (.tmp 4), none⟩,
  ⟨some 12, .bin .eql (.tmp 11) (.cst (.int .i64 0)), none⟩,
  ⟨some 13, .move (.tmp 12), none⟩,
  ⟨some 14, .fieldAddr 2 1 (.tmp 1), some (13, true)⟩,
  ⟨some 15, .load none (.tmp 14), some (13, true)⟩,
  ⟨some 16, .call (.cst (.func (.func 24) [] [])) [(.tmp 15), (.cst (.int .i64 1)), (.cst (.int .i64 1000))], some (13, true)⟩,
  ⟨some 17, .pick (.tmp 13) (.tmp 16) (.cst (.bool false)), none⟩,
  ⟨some 18, .move (.tmp 17), none⟩,
  ⟨some 19, .fieldAddr 3 1 (.tmp 1), some (18, true)⟩,
  ⟨some 20, .load none (.tmp 19), some (18, true)⟩,
  ⟨some 21, .call (.cst (.func (.func 24) [] [])) [(.tmp 20), (.cst (.int .i64 0)), (.cst (.int .i64 1000))], some (18, true)⟩,
  ⟨some 22, .pick (.tmp 18) (.tmp 21) (.cst (.bool false)), none⟩,
  ⟨some 23, .move (.tmp 22), none⟩,
  ⟨some 24, .fieldAddr 4 1 (.tmp 1), some (23, true)⟩,
  ⟨some 25, .load none (.tmp 24), some (23, true)⟩,
  ⟨some 26, .call (.cst (.func (.func 24) [] [])) [(.tmp 25), (.cst (.int .i64 1)), (.cst (.int .i64 2147483647))], some (23, true)⟩,
  ⟨some 27, .pick (.tmp 23) (.tmp 26) (.cst (.bool false)), none⟩,
  ⟨some 2, .move (.tmp 27), none⟩])
 (.ret)))⟩
theorem c9 : compF Try.prog gl true [] [] Try.f9 = some F9 := by kernel_rfl
/- tollhouse/tollhouseref19.May -/
def F10 : AFn := ⟨36, true, 1, [.tmp 2], .seq
 (.reg [⟨some 1, .box (.tmp 0), none⟩,
  ⟨some 2, .move (.cst (.bool false)), none⟩])
 (.seq
 (.reg [⟨some 3, .fieldAddr 0 2 (.tmp 1), none⟩,
  ⟨some 4, .load (some 2) (.tmp 3), none⟩,
  ⟨some 5, .call (.cst (.func (.func 25) [] [])) [(.tmp 4)], none⟩,
  ⟨some 6, .move (.tmp 5), none⟩,
  ⟨some 7, .fieldAddr 2 1 (.tmp 1), some (6, true)⟩,
  ⟨some 8, .load none (.tmp 7), some (6, true)⟩,
  ⟨some 9, .bin .geq (.tmp 8) (.cst (.int .i64 1)), some (6, true)⟩,
  ⟨some 10, .pick (.tmp 6) (.tmp 9) (.cst (.bool false)), none⟩,
  ⟨some 11, .move (.tmp 10), none⟩,
  ⟨some 12, .fieldAddr 2 1 (.tmp 1), some (11, true)⟩,
  ⟨some 13, .load none (.tmp 12), some (11, true)⟩,
  ⟨some 14, .bin .leq (.tmp 13) (.cst (.int .i64 1000)), some (11, true)⟩,
  ⟨some 15, .pick (.tmp 11) (.tmp 14) (.cst (.bool false)), none⟩,
  ⟨some 16, .move (.tmp 15), none⟩,
  ⟨some 17, .fieldAddr 3 1 (.tmp 1), some (16, true)⟩,
  ⟨some 18, .load none (.tmp 17), some (16, true)⟩,
  ⟨some 19, .bin .geq (.tmp 18) (.cst (.int .i64 0)), some (16, true)⟩,
  ⟨some 20, .pick (.tmp 16) (.tmp 19) (.cst (.bool false)), none⟩,
  ⟨some 21, .move (.tmp 20), none⟩,
  ⟨some 22, .fieldAddr 3 1 (.tmp 1), some (21, true)⟩,
  ⟨some 23, .load none (.tmp 22), some (21, true)⟩,
  ⟨some 24, .bin .leq (.tmp 23) (.cst (.int .i64 1000)), some (21, true)⟩,
  ⟨some 25, .pick (.tmp 21) (.tmp 24) (.cst (.bool false)), none⟩,
  ⟨some 26, .move (.tmp 25), none⟩,
  ⟨some 27, .fieldAddr 4 1 (.tmp 1), some (26, true)⟩,
  ⟨some 28, .load none (.tmp 27), some (26, true)⟩,
  ⟨some 29, .bin .geq (.tmp 28) (.cst (.int .i64 1)), some (26, true)⟩,
  ⟨some 30, .pick (.tmp 26) (.tmp 29) (.cst (.bool false)), none⟩,
  ⟨some 31, .move (.tmp 30), none⟩,
  ⟨some 32, .fieldAddr 4 1 (.tmp 1), some (31, true)⟩,
  ⟨some 33, .load none (.tmp 32), some (31, true)⟩,
  ⟨some 34, .bin .leq (.tmp 33) (.cst (.int .i64 2147483647)), some (31, true)⟩,
  ⟨some 35, .pick (.tmp 31) (.tmp 34) (.cst (.bool false)), none⟩,
  ⟨some 2, .move (.tmp 35), none⟩])
 (.ret))⟩
theorem c10 : compF Try.prog gl true [] [] Try.f10 = some F10 := by kernel_rfl
/- tollhouse/policy.Forward -/
def F11 : AFn := ⟨32, true, 5, [.tmp 10], .seq
 (.reg [⟨some 5, .box (.tmp 0), none⟩,
  ⟨some 6, .box (.tmp 1), none⟩,
  ⟨some 7, .box (.tmp 2), none⟩,
  ⟨some 8, .box (.tmp 3), none⟩,
  ⟨some 9, .box (.tmp 4), none⟩,
  ⟨some 10, .move (.cst (.int .i64 0)), none⟩])
 (.seq
 (.reg [⟨some 12, .load (some 5) (.tmp 5), none⟩,
  ⟨some 13, .fieldAddr 0 1 (.tmp 6), none⟩,
  ⟨some 14, .load none (.tmp 13), none⟩,
  ⟨some 15, .bin .gtr (.tmp 14) (.cst (.int .i64 0)), none⟩,
  ⟨some 16, .load none (.tmp 7), none⟩,
  ⟨some 17, .load none (.tmp 8), none⟩,
  ⟨some 18, .load none (.tmp 9), none⟩,
  ⟨some 19, .call (.cst (.func (.func 26) [] [])) [(.tmp 12), (.tmp 15), (.tmp 16), (.tmp 17), (.tmp 18)], none⟩,
  ⟨some 11, .move (.tmp 19), none⟩])
 (.seq
 (.reg [⟨some 20, .move (.tmp 11), none⟩,
  ⟨some 21, .makeFunc (.func 28) [] [(.tmp 6), (.tmp 9), (.tmp 5)], none⟩,
  ⟨some 22, .build [(.int .i64 0), (.sc .nilFunc)] [(0, 1, (.cst (.int .i64 5))), (1, 1, (.tmp 21))], none⟩,
  ⟨some 23, .makeFunc (.func 29) [] [(.tmp 6), (.tmp 8), (.tmp 5)], none⟩,
  ⟨some 24, .build [(.int .i64 0), (.sc .nilFunc)] [(0, 1, (.cst (.int .i64 4))), (1, 1, (.tmp 23))], none⟩,
  ⟨some 25, .makeFunc (.func 30) [] [(.tmp 6)], none⟩,
  ⟨some 26, .build [(.int .i64 0), (.sc .nilFunc)] [(0, 1, (.cst (.int .i64 8))), (1, 1, (.tmp 25))], none⟩,
  ⟨some 27, .makeFunc (.func 31) [] [(.tmp 5), (.tmp 6), (.tmp 7)], none⟩,
  ⟨some 28, .build [(.int .i64 0), (.sc .nilFunc)] [(0, 1, (.cst (.int .i64 3))), (1, 1, (.tmp 27))], none⟩,
  ⟨some 29, .buildSlice (some 2) (.agg [(.int .i64 0), (.sc .nilFunc)]) 4 [(0, (.tmp 22)), (1, (.tmp 24)), (2, (.tmp 26)), (3, (.tmp 28))], none⟩,
  ⟨some 30, .append (some 2) 16 (.tmp 20) (.tmp 29), none⟩,
  ⟨some 31, .call (.cst (.func (.func 27) [] [])) [(.tmp 30)], none⟩,
  ⟨some 10, .move (.tmp 31), none⟩])
 (.ret)))⟩
theorem c11 : compF Try.prog gl true [] [] Try.f11 = some F11 := by kernel_rfl
/- tollhouse/tollhouseref19.Forward -/
def F12 : AFn := ⟨71, true, 5, [.tmp 10], .seq
 (.reg [⟨some 5, .box (.tmp 0), none⟩,
  ⟨some 6, .box (.tmp 1), none⟩,
  ⟨some 10, .move (.cst (.int .i64 0)), none⟩])
 (.seq
 (.seq
 (.reg [⟨some 13, .load (some 5) (.tmp 5), none⟩,
  ⟨some 14, .move (.tmp 2), none⟩,
  ⟨some 15, .move (.tmp 3), none⟩,
  ⟨some 16, .move (.tmp 4), none⟩,
  ⟨some 17, .call (.cst (.func (.func 33) [] [])) [(.tmp 13), (.tmp 14), (.tmp 15), (.tmp 16)], none⟩,
  ⟨some 18, .un .not (.tmp 17), none⟩,
  ⟨some 19, .move (.tmp 18), none⟩,
  ⟨some 20, .fieldAddr 0 1 (.tmp 6), some (19, false)⟩,
  ⟨some 21, .load none (.tmp 20), some (19, false)⟩,
  ⟨some 22, .bin .lss (.tmp 21) (.cst (.int .i64 1)), some (19, false)⟩,
  ⟨some 23, .pick (.tmp 19) (.cst (.bool true)) (.tmp 22), none⟩])
 (.cond (.tmp 23)
 (.seq
 (.reg [⟨some 10, .move (.cst (.int .i64 1)), none⟩])
 (.ret))
 (.skip)))
 (.seq
 (.seq
 (.reg [⟨some 24, .move (.tmp 3), none⟩,
  ⟨some 25, .move (.tmp 4), none⟩,
  ⟨some 26, .bin .gtr (.tmp 24) (.tmp 25), none⟩,
  ⟨some 27, .move (.tmp 26), none⟩,
  ⟨some 28, .move (.tmp 3), some (27, true)⟩,
  ⟨some 29, .move (.tmp 4), some (27, true)⟩,
  ⟨some 30, .bin .sub (.tmp 28) (.tmp 29), some (27, true)⟩,
  ⟨some 31, .fieldAddr 4 1 (.tmp 5), some (27, true)⟩,
  ⟨some 32, .load none (.tmp 31), some (27, true)⟩,
  ⟨some 33, .bin .gtr (.tmp 30) (.tmp 32), some (27, true)⟩,
  ⟨some 34, .pick (.tmp 27) (.tmp 33) (.cst (.bool false)), none⟩])
 (.cond (.tmp 34)
 (.seq
 (.reg [⟨some 10, .move (.cst (.int .i64 6)), none⟩])
 (.ret))
 (.skip)))
 (.seq
 (.seq
 (.reg [⟨some 35, .load (some 5) (.tmp 5), none⟩,
  ⟨some 36, .fieldAddr 2 1 (.tmp 6), none⟩,
  ⟨some 37, .load none (.tmp 36), none⟩,
  ⟨some 38, .move (.tmp 4), none⟩,
  ⟨some 39, .call (.cst (.func (.func 34) [] [])) [(.tmp 35), (.tmp 37), (.tmp 38)], none⟩])
 (.cond (.tmp 39)
 (.seq
 (.reg [⟨some 10, .move (.cst (.int .i64 5)), none⟩])
 (.ret))
 (.skip)))
 (.seq
 (.seq
 (.reg [⟨some 40, .fieldAddr 2 1 (.tmp 6), none⟩,
  ⟨some 41, .load none (.tmp 40), none⟩,
  ⟨some 42, .move (.tmp 3), none⟩,
  ⟨some 43, .bin .gtr (.tmp 41) (.tmp 42), none⟩,
  ⟨some 44, .move (.tmp 43), none⟩,
  ⟨some 45, .move (.tmp 3), some (44, false)⟩,
  ⟨some 46, .fieldAddr 2 1 (.tmp 6), some (44, false)⟩,
  ⟨some 47, .load none (.tmp 46), some (44, false)⟩,
  ⟨some 48, .bin .sub (.tmp 45) (.tmp 47), some (44, false)⟩,
  ⟨some 49, .fieldAddr 2 1 (.tmp 5), some (44, false)⟩,
  ⟨some 50, .load none (.tmp 49), some (44, false)⟩,
  ⟨some 51, .bin .lss (.tmp 48) (.tmp 50), some (44, false)⟩,
  ⟨some 52, .pick (.tmp 44) (.cst (.bool true)) (.tmp 51), none⟩])
 (.cond (.tmp 52)
 (.seq
 (.reg [⟨some 10, .move (.cst (.int .i64 4)), none⟩])
 (.ret))
 (.skip)))
 (.seq
 (.seq
 (.reg [⟨some 53, .fieldAddr 1 1 (.tmp 6), none⟩,
  ⟨some 54, .load none (.tmp 53), none⟩,
  ⟨some 55, .bin .lss (.tmp 54) (.cst (.int .i64 1)), none⟩])
 (.cond (.tmp 55)
 (.seq
 (.reg [⟨some 10, .move (.cst (.int .i64 8)), none⟩])
 (.ret))
 (.skip)))
 (.seq
 (.reg [⟨some 57, .fieldAddr 0 2 (.tmp 5), none⟩,
  ⟨some 58, .load (some 2) (.tmp 57), none⟩,
  ⟨some 59, .fieldAddr 1 1 (.tmp 6), none⟩,
  ⟨some 60, .load none (.tmp 59), none⟩,
  ⟨some 61, .call (.cst (.func (.func 35) [] [])) [(.tmp 58), (.tmp 60)], none⟩,
  ⟨some 56, .move (.tmp 61), none⟩,
  ⟨some 62, .extract (.tmp 56) 0, none⟩,
  ⟨some 63, .extract (.tmp 56) 1, none⟩,
  ⟨some 11, .move (.tmp 62), none⟩,
  ⟨some 12, .move (.tmp 63), none⟩])
 (.seq
 (.seq
 (.reg [⟨some 64, .move (.tmp 12), none⟩,
  ⟨some 65, .bin .neq (.tmp 64) (.cst (.int .i64 0)), none⟩,
  ⟨some 66, .move (.tmp 65), none⟩,
  ⟨some 67, .move (.tmp 2), some (66, false)⟩,
  ⟨some 68, .move (.tmp 11), some (66, false)⟩,
  ⟨some 69, .bin .lss (.tmp 67) (.tmp 68), some (66, false)⟩,
  ⟨some 70, .pick (.tmp 66) (.cst (.bool true)) (.tmp 69), none⟩])
 (.cond (.tmp 70)
 (.seq
 (.reg [⟨some 10, .move (.cst (.int .i64 3)), none⟩])
 (.ret))
 (.skip)))
 (.seq
 (.reg [⟨some 10, .move (.cst (.int .i64 0)), none⟩])
 (.ret)))))))))⟩
theorem c12 : compF Try.prog gl true [] [] Try.f12 = some F12 := by kernel_rfl
/- tollhouse/policy.Margin -/
def F13 : AFn := ⟨11, true, 1, [.tmp 2], .seq
 (.reg [⟨some 1, .box (.tmp 0), none⟩,
  ⟨some 2, .move (.cst (.int .i64 0)), none⟩])
 (.seq
 (.seq
 (.reg [⟨some 3, .load (some 5) (.tmp 1), none⟩,
  ⟨some 4, .call (.cst (.func (.func 9) [] [])) [(.tmp 3)], none⟩,
  ⟨some 5, .un .not (.tmp 4), none⟩])
 (.cond (.tmp 5)
 (.seq
 (.reg [⟨some 2, .move (.cst (.int .i64 0)), none⟩])
 (.ret))
 (.skip)))
 (.seq
 (.reg [⟨some 6, .fieldAddr 2 1 (.tmp 1), none⟩,
  ⟨some 7, .load none (.tmp 6), none⟩,
  ⟨some 8, .fieldAddr 3 1 (.tmp 1), none⟩,
  ⟨some 9, .load none (.tmp 8), none⟩,
  ⟨some 10, .bin .add (.tmp 7) (.tmp 9), none⟩,
  ⟨some 2, .move (.tmp 10), none⟩])
 (.ret)))⟩
theorem c13 : compF Try.prog gl true [] [] Try.f13 = some F13 := by kernel_rfl
/- tollhouse/tollhouseref19.Margin -/
def F14 : AFn := ⟨11, true, 1, [.tmp 2], .seq
 (.reg [⟨some 1, .box (.tmp 0), none⟩,
  ⟨some 2, .move (.cst (.int .i64 0)), none⟩])
 (.seq
 (.seq
 (.reg [⟨some 3, .load (some 5) (.tmp 1), none⟩,
  ⟨some 4, .call (.cst (.func (.func 10) [] [])) [(.tmp 3)], none⟩,
  ⟨some 5, .un .not (.tmp 4), none⟩])
 (.cond (.tmp 5)
 (.seq
 (.reg [⟨some 2, .move (.cst (.int .i64 0)), none⟩])
 (.ret))
 (.skip)))
 (.seq
 (.reg [⟨some 6, .fieldAddr 2 1 (.tmp 1), none⟩,
  ⟨some 7, .load none (.tmp 6), none⟩,
  ⟨some 8, .fieldAddr 3 1 (.tmp 1), none⟩,
  ⟨some 9, .load none (.tmp 8), none⟩,
  ⟨some 10, .bin .add (.tmp 7) (.tmp 9), none⟩,
  ⟨some 2, .move (.tmp 10), none⟩])
 (.ret)))⟩
theorem c14 : compF Try.prog gl true [] [] Try.f14 = some F14 := by kernel_rfl
/- tollhouse/policy.Final -/
def F15 : AFn := ⟨30, true, 5, [.tmp 10], .seq
 (.reg [⟨some 5, .box (.tmp 0), none⟩,
  ⟨some 6, .box (.tmp 1), none⟩,
  ⟨some 7, .box (.tmp 2), none⟩,
  ⟨some 8, .box (.tmp 3), none⟩,
  ⟨some 9, .box (.tmp 4), none⟩,
  ⟨some 10, .move (.cst (.int .i64 0)), none⟩])
 (.seq
 (.reg [⟨some 12, .load (some 5) (.tmp 5), none⟩,
  ⟨some 13, .fieldAddr 0 1 (.tmp 6), none⟩,
  ⟨some 14, .load none (.tmp 13), none⟩,
  ⟨some 15, .bin .eql (.tmp 14) (.cst (.int .i64 0)), none⟩,
  ⟨some 16, .load none (.tmp 7), none⟩,
  ⟨some 17, .load none (.tmp 8), none⟩,
  ⟨some 18, .load none (.tmp 9), none⟩,
  ⟨some 19, .call (.cst (.func (.func 26) [] [])) [(.tmp 12), (.tmp 15), (.tmp 16), (.tmp 17), (.tmp 18)], none⟩,
  ⟨some 11, .move (.tmp 19), none⟩])
 (.seq
 (.reg [⟨some 20, .move (.tmp 11), none⟩,
  ⟨some 21, .makeFunc (.func 36) [] [(.tmp 8), (.tmp 9), (.tmp 5)], none⟩,
  ⟨some 22, .build [(.int .i64 0), (.sc .nilFunc)] [(0, 1, (.cst (.int .i64 5))), (1, 1, (.tmp 21))], none⟩,
  ⟨some 23, .makeFunc (.func 37) [] [(.tmp 8), (.tmp 6)], none⟩,
  ⟨some 24, .build [(.int .i64 0), (.sc .nilFunc)] [(0, 1, (.cst (.int .i64 4))), (1, 1, (.tmp 23))], none⟩,
  ⟨some 25, .makeFunc (.func 38) [] [(.tmp 7), (.tmp 6)], none⟩,
  ⟨some 26, .build [(.int .i64 0), (.sc .nilFunc)] [(0, 1, (.cst (.int .i64 8))), (1, 1, (.tmp 25))], none⟩,
  ⟨some 27, .buildSlice (some 2) (.agg [(.int .i64 0), (.sc .nilFunc)]) 3 [(0, (.tmp 22)), (1, (.tmp 24)), (2, (.tmp 26))], none⟩,
  ⟨some 28, .append (some 2) 16 (.tmp 20) (.tmp 27), none⟩,
  ⟨some 29, .call (.cst (.func (.func 27) [] [])) [(.tmp 28)], none⟩,
  ⟨some 10, .move (.tmp 29), none⟩])
 (.ret)))⟩
theorem c15 : compF Try.prog gl true [] [] Try.f15 = some F15 := by kernel_rfl
/- tollhouse/tollhouseref19.Final -/
def F16 : AFn := ⟨57, true, 5, [.tmp 10], .seq
 (.reg [⟨some 5, .box (.tmp 0), none⟩,
  ⟨some 6, .box (.tmp 1), none⟩,
  ⟨some 10, .move (.cst (.int .i64 0)), none⟩])
 (.seq
 (.seq
 (.reg [⟨some 11, .load (some 5) (.tmp 5), none⟩,
  ⟨some 12, .move (.tmp 2), none⟩,
  ⟨some 13, .move (.tmp 3), none⟩,
  ⟨some 14, .move (.tmp 4), none⟩,
  ⟨some 15, .call (.cst (.func (.func 33) [] [])) [(.tmp 11), (.tmp 12), (.tmp 13), (.tmp 14)], none⟩,
  ⟨some 16, .un .not (.tmp 15), none⟩,
  ⟨some 17, .move (.tmp 16), none⟩,
  ⟨some 18, .fieldAddr 0 1 (.tmp 6), some (17, false)⟩,
  ⟨some 19, .load none (.tmp 18), some (17, false)⟩,
  ⟨some 20, .bin .neq (.tmp 19) (.cst (.int .i64 0)), some (17, false)⟩,
  ⟨some 21, .pick (.tmp 17) (.cst (.bool true)) (.tmp 20), none⟩])
 (.cond (.tmp 21)
 (.seq
 (.reg [⟨some 10, .move (.cst (.int .i64 1)), none⟩])
 (.ret))
 (.skip)))
 (.seq
 (.seq
 (.reg [⟨some 22, .move (.tmp 3), none⟩,
  ⟨some 23, .move (.tmp 4), none⟩,
  ⟨some 24, .bin .gtr (.tmp 22) (.tmp 23), none⟩,
  ⟨some 25, .move (.tmp 24), none⟩,
  ⟨some 26, .move (.tmp 3), some (25, true)⟩,
  ⟨some 27, .move (.tmp 4), some (25, true)⟩,
  ⟨some 28, .bin .sub (.tmp 26) (.tmp 27), some (25, true)⟩,
  ⟨some 29, .fieldAddr 4 1 (.tmp 5), some (25, true)⟩,
  ⟨some 30, .load none (.tmp 29), some (25, true)⟩,
  ⟨some 31, .bin .gtr (.tmp 28) (.tmp 30), some (25, true)⟩,
  ⟨some 32, .pick (.tmp 25) (.tmp 31) (.cst (.bool false)), none⟩])
 (.cond (.tmp 32)
 (.seq
 (.reg [⟨some 10, .move (.cst (.int .i64 6)), none⟩])
 (.ret))
 (.skip)))
 (.seq
 (.seq
 (.reg [⟨some 33, .load (some 5) (.tmp 5), none⟩,
  ⟨some 34, .move (.tmp 3), none⟩,
  ⟨some 35, .move (.tmp 4), none⟩,
  ⟨some 36, .call (.cst (.func (.func 34) [] [])) [(.tmp 33), (.tmp 34), (.tmp 35)], none⟩])
 (.cond (.tmp 36)
 (.seq
 (.reg [⟨some 10, .move (.cst (.int .i64 5)), none⟩])
 (.ret))
 (.skip)))
 (.seq
 (.seq
 (.reg [⟨some 37, .move (.tmp 3), none⟩,
  ⟨some 38, .fieldAddr 2 1 (.tmp 6), none⟩,
  ⟨some 39, .load none (.tmp 38), none⟩,
  ⟨some 40, .bin .lss (.tmp 37) (.tmp 39), none⟩])
 (.cond (.tmp 40)
 (.seq
 (.reg [⟨some 10, .move (.cst (.int .i64 4)), none⟩])
 (.ret))
 (.skip)))
 (.seq
 (.seq
 (.reg [⟨some 41, .move (.tmp 2), none⟩,
  ⟨some 42, .fieldAddr 1 1 (.tmp 6), none⟩,
  ⟨some 43, .load none (.tmp 42), none⟩,
  ⟨some 44, .bin .lss (.tmp 41) (.tmp 43), none⟩,
  ⟨some 45, .move (.tmp 44), none⟩,
  ⟨some 46, .fieldAddr 1 1 (.tmp 6), some (45, false)⟩,
  ⟨some 47, .load none (.tmp 46), some (45, false)⟩,
  ⟨some 48, .bin .lss (.tmp 47) (.cst (.int .i64 1)), some (45, false)⟩,
  ⟨some 49, .pick (.tmp 45) (.cst (.bool true)) (.tmp 48), none⟩,
  ⟨some 50, .move (.tmp 49), none⟩,
  ⟨some 51, .fieldAddr 35 1 (.tmp 6), some (50, false)⟩,
  ⟨some 52, .load none (.tmp 51), some (50, false)⟩,
  ⟨some 53, .fieldAddr 1 1 (.tmp 6), some (50, false)⟩,
  ⟨some 54, .load none (.tmp 53), some (50, false)⟩,
  ⟨some 55, .bin .lss (.tmp 52) (.tmp 54), some (50, false)⟩,
  ⟨some 56, .pick (.tmp 50) (.cst (.bool true)) (.tmp 55), none⟩])
 (.cond (.tmp 56)
 (.seq
 (.reg [⟨some 10, .move (.cst (.int .i64 8)), none⟩])
 (.ret))
 (.skip)))
 (.seq
 (.reg [⟨some 10, .move (.cst (.int .i64 0)), none⟩])
 (.ret)))))))⟩
theorem c16 : compF Try.prog gl true [] [] Try.f16 = some F16 := by kernel_rfl
/- tollhouse/policy.Retry -/
def F17 : AFn := ⟨10, true, 1, [.tmp 2], .seq
 (.reg [⟨some 2, .move (.cst (.bool false)), none⟩])
 (.seq
 (.seq
 (.reg [⟨some 3, .move (.tmp 0), none⟩])
 (.block 0
 (.seq
 (.seq
 (.reg [⟨some 5, .bin .eql (.tmp 3) (.cst (.int .i64 2)), none⟩,
  ⟨some 4, .move (.tmp 5), none⟩])
 (.cond (.tmp 4)
 (.skip)
 (.seq
 (.reg [⟨some 6, .bin .eql (.tmp 3) (.cst (.int .i64 3)), none⟩,
  ⟨some 4, .move (.tmp 6), none⟩])
 (.cond (.tmp 4)
 (.skip)
 (.seq
 (.reg [⟨some 7, .bin .eql (.tmp 3) (.cst (.int .i64 4)), none⟩,
  ⟨some 4, .move (.tmp 7), none⟩])
 (.cond (.tmp 4)
 (.skip)
 (.seq
 (.reg [⟨some 8, .bin .eql (.tmp 3) (.cst (.int .i64 5)), none⟩,
  ⟨some 4, .move (.tmp 8), none⟩])
 (.cond (.tmp 4)
 (.skip)
 (.reg [⟨some 9, .bin .eql (.tmp 3) (.cst (.int .i64 9)), none⟩,
  ⟨some 4, .move (.tmp 9), none⟩])))))))))
 (.cond (.tmp 4)
 (.seq
 (.reg [⟨some 2, .move (.cst (.bool true)), none⟩])
 (.ret))
 (.skip)))))
 (.seq
 (.reg [⟨some 2, .move (.cst (.bool false)), none⟩])
 (.ret)))⟩
theorem c17 : compF Try.prog gl true [] [] Try.f17 = some F17 := by kernel_rfl
/- tollhouse/tollhouseref19.Retry -/
def F18 : AFn := ⟨21, true, 1, [.tmp 2], .seq
 (.reg [⟨some 2, .move (.cst (.bool false)), none⟩])
 (.seq
 (.reg [⟨some 3, .move (.tmp 0), none⟩,
  ⟨some 4, .bin .eql (.tmp 3) (.cst (.int .i64 2)), none⟩,
  ⟨some 5, .move (.tmp 4), none⟩,
  ⟨some 6, .move (.tmp 0), some (5, false)⟩,
  ⟨some 7, .bin .eql (.tmp 6) (.cst (.int .i64 3)), some (5, false)⟩,
  ⟨some 8, .pick (.tmp 5) (.cst (.bool true)) (.tmp 7), none⟩,
  ⟨some 9, .move (.tmp 8), none⟩,
  ⟨some 10, .move (.tmp 0), some (9, false)⟩,
  ⟨some 11, .bin .eql (.tmp 10) (.cst (.int .i64 4)), some (9, false)⟩,
  ⟨some 12, .pick (.tmp 9) (.cst (.bool true)) (.tmp 11), none⟩,
  ⟨some 13, .move (.tmp 12), none⟩,
  ⟨some 14, .move (.tmp 0), some (13, false)⟩,
  ⟨some 15, .bin .eql (.tmp 14) (.cst (.int .i64 5)), some (13, false)⟩,
  ⟨some 16, .pick (.tmp 13) (.cst (.bool true)) (.tmp 15), none⟩,
  ⟨some 17, .move (.tmp 16), none⟩,
  ⟨some 18, .move (.tmp 0), some (17, false)⟩,
  ⟨some 19, .bin .eql (.tmp 18) (.cst (.int .i64 9)), some (17, false)⟩,
  ⟨some 20, .pick (.tmp 17) (.cst (.bool true)) (.tmp 19), none⟩,
  ⟨some 2, .move (.tmp 20), none⟩])
 (.ret))⟩
theorem c18 : compF Try.prog gl true [] [] Try.f18 = some F18 := by kernel_rfl
def L19_0 : AC := .seq
 (.seq
 (.reg [⟨some 35, .move (.tmp 9), none⟩,
  ⟨some 36, .bin .geq (.tmp 35) (.cst (.int .i64 0)), none⟩])
 (.cond (.tmp 36)
 (.skip)
 (.exit 2)))
 (.seq
 (.block 3
 (.seq
 (.seq
 (.regQ [⟨some 39, .move (.tmp 8), none⟩,
  ⟨some 40, .move (.tmp 9), none⟩,
  ⟨some 41, .move (.tmp 8), none⟩,
  ⟨some 42, .move (.tmp 9), none⟩,
  ⟨some 43, .bin .add (.tmp 42) (.cst (.int .i64 1)), none⟩,
  ⟨some 44, .indexAddr .slice none (.tmp 41) (.tmp 43), none⟩,
  ⟨some 45, .load none (.tmp 44), none⟩,
  ⟨some 46, .move (.tmp 0), none⟩,
  ⟨some 47, .move (.tmp 9), none⟩,
  ⟨some 48, .indexAddr .slice (some 5) (.tmp 46) (.tmp 47), none⟩,
  ⟨some 49, .fieldAddr 2 1 (.tmp 48), none⟩,
  ⟨some 50, .load none (.tmp 49), none⟩,
  ⟨some 51, .bin .add (.tmp 45) (.tmp 50), none⟩,
  ⟨some 52, .indexAddr .slice none (.tmp 39) (.tmp 40), none⟩])
 (.reg [⟨none, .store 1 (.tmp 52) (.tmp 51), none⟩]))
 (.seq
 (.reg [⟨some 53, .move (.tmp 8), none⟩,
  ⟨some 54, .move (.tmp 9), none⟩,
  ⟨some 55, .indexAddr .slice none (.tmp 53) (.tmp 54), none⟩,
  ⟨some 56, .load none (.tmp 55), none⟩,
  ⟨some 57, .bin .gtr (.tmp 56) (.cst (.int .i64 2147483647)), none⟩])
 (.cond (.tmp 57)
 (.seq
 (.reg [⟨some 4, .move (.cst .nil), none⟩,
  ⟨some 5, .move (.cst (.int .i64 20)), none⟩])
 (.ret))
 (.skip)))))
 (.reg [⟨some 37, .move (.tmp 9), none⟩,
  ⟨some 38, .bin .sub (.tmp 37) (.cst (.int .i64 1)), none⟩,
  ⟨some 9, .move (.tmp 38), none⟩]))
def L19_1 : AC := .seq
 (.reg [⟨some 16, .bin .lss (.tmp 15) (.tmp 14), none⟩])
 (.seq
 (.cond (.tmp 16)
 (.skip)
 (.exit 0))
 (.seq
 (.block 1
 (.seq
 (.reg [⟨some 17, .indexAddr .slice (some 5) (.tmp 13) (.tmp 15), none⟩,
  ⟨some 18, .load (some 5) (.tmp 17), none⟩,
  ⟨some 7, .alloc [(.int .i64 0), (.int .i64 0), (.int .i64 0), (.int .i64 0), (.int .i64 0)], none⟩,
  ⟨none, .store 5 (.tmp 7) (.tmp 18), none⟩])
 (.seq
 (.reg [⟨some 19, .load (some 5) (.tmp 7), none⟩,
  ⟨some 20, .call (.cst (.func (.func 9) [] [])) [(.tmp 19)], none⟩,
  ⟨some 21, .un .not (.tmp 20), none⟩])
 (.cond (.tmp 21)
 (.seq
 (.reg [⟨some 4, .move (.cst .nil), none⟩,
  ⟨some 5, .move (.cst (.int .i64 1)), none⟩])
 (.ret))
 (.skip)))))
 (.reg [⟨some 22, .bin .add (.tmp 15) (.cst (.int .i64 1)), none⟩,
  ⟨some 15, .move (.tmp 22), none⟩])))
/- tollhouse/policy.Expiries -/
def F19 : AFn := ⟨59, true, 2, [.tmp 4, .tmp 5], .seq
 (.reg [⟨some 4, .move (.cst .nil), none⟩,
  ⟨some 5, .move (.cst (.int .i64 0)), none⟩])
 (.seq
 (.seq
 (.reg [⟨some 10, .move (.tmp 1), none⟩,
  ⟨some 11, .call (.cst (.func (.func 24) [] [])) [(.tmp 10), (.cst (.int .i64 0)), (.cst (.int .i64 2147483647))], none⟩,
  ⟨some 12, .un .not (.tmp 11), none⟩])
 (.cond (.tmp 12)
 (.seq
 (.reg [⟨some 4, .move (.cst .nil), none⟩,
  ⟨some 5, .move (.cst (.int .i64 1)), none⟩])
 (.ret))
 (.skip)))
 (.seq
 (.seq
 (.reg [⟨some 13, .move (.tmp 0), none⟩,
  ⟨some 14, .len (.tmp 13), none⟩,
  ⟨some 15, .move (.cst (.int .i64 0)), none⟩])
 (.block 0
 (.loop [0, 1, 13, 14, 15] true L19_1)))
 (.seq
 (.reg [⟨some 23, .move (.tmp 0), none⟩,
  ⟨some 24, .len (.tmp 23), none⟩,
  ⟨some 25, .bin .add (.tmp 24) (.cst (.int .i64 1)), none⟩,
  ⟨some 26, .makeSlice none [(.int .i64 0)] 8 (.tmp 25) (.tmp 25), none⟩,
  ⟨some 8, .move (.tmp 26), none⟩])
 (.seq
 (.reg [⟨some 27, .move (.tmp 8), none⟩,
  ⟨some 28, .move (.tmp 0), none⟩,
  ⟨some 29, .len (.tmp 28), none⟩,
  ⟨some 30, .move (.tmp 1), none⟩,
  ⟨some 31, .indexAddr .slice none (.tmp 27) (.tmp 29), none⟩,
  ⟨none, .store 1 (.tmp 31) (.tmp 30), none⟩])
 (.seq
 (.seq
 (.reg [⟨some 32, .move (.tmp 0), none⟩,
  ⟨some 33, .len (.tmp 32), none⟩,
  ⟨some 34, .bin .sub (.tmp 33) (.cst (.int .i64 1)), none⟩,
  ⟨some 9, .move (.tmp 34), none⟩])
 (.block 2
 (.loop [0, 8, 9] true L19_0)))
 (.seq
 (.reg [⟨some 58, .move (.tmp 8), none⟩,
  ⟨some 4, .move (.tmp 58), none⟩,
  ⟨some 5, .move (.cst (.int .i64 0)), none⟩])
 (.ret)))))))⟩
theorem c19 : compF Try.prog gl true [] [([0, 1, 13, 14, 15], true), ([0, 8, 9], true)] Try.f19 = some F19 := by kernel_rfl
def L20_0 : AC := .seq
 (.seq
 (.reg [⟨some 33, .move (.tmp 8), none⟩,
  ⟨some 34, .bin .geq (.tmp 33) (.cst (.int .i64 0)), none⟩])
 (.cond (.tmp 34)
 (.skip)
 (.exit 2)))
 (.seq
 (.block 3
 (.seq
 (.regQ [⟨some 37, .move (.tmp 7), none⟩,
  ⟨some 38, .indexAddr .slice none (.tmp 37) (.cst (.int .i64 0)), none⟩,
  ⟨some 39, .load none (.tmp 38), none⟩,
  ⟨some 40, .move (.tmp 0), none⟩,
  ⟨some 41, .move (.tmp 8), none⟩,
  ⟨some 42, .indexAddr .slice (some 5) (.tmp 40) (.tmp 41), none⟩,
  ⟨some 43, .fieldAddr 2 1 (.tmp 42), none⟩,
  ⟨some 44, .load none (.tmp 43), none⟩,
  ⟨some 45, .bin .add (.tmp 39) (.tmp 44), none⟩,
  ⟨some 9, .move (.tmp 45), none⟩])
 (.seq
 (.seq
 (.reg [⟨some 46, .move (.tmp 9), none⟩,
  ⟨some 47, .bin .gtr (.tmp 46) (.cst (.int .i64 2147483647)), none⟩])
 (.cond (.tmp 47)
 (.seq
 (.reg [⟨some 4, .move (.cst .nil), none⟩,
  ⟨some 5, .move (.cst (.int .i64 20)), none⟩])
 (.ret))
 (.skip)))
 (.reg [⟨some 48, .move (.tmp 9), none⟩,
  ⟨some 49, .buildSlice none (.int .i64 0) 1 [(0, (.tmp 48))], none⟩,
  ⟨some 50, .move (.tmp 7), none⟩,
  ⟨some 51, .append none 8 (.tmp 49) (.tmp 50), none⟩,
  ⟨some 7, .move (.tmp 51), none⟩]))))
 (.reg [⟨some 35, .move (.tmp 8), none⟩,
  ⟨some 36, .bin .sub (.tmp 35) (.cst (.int .i64 1)), none⟩,
  ⟨some 8, .move (.tmp 36), none⟩]))
def L20_1 : AC := .seq
 (.seq
 (.reg [⟨some 16, .move (.tmp 6), none⟩,
  ⟨some 17, .move (.tmp 0), none⟩,
  ⟨some 18, .len (.tmp 17), none⟩,
  ⟨some 19, .bin .lss (.tmp 16) (.tmp 18), none⟩])
 (.cond (.tmp 19)
 (.skip)
 (.exit 0)))
 (.seq
 (.block 1
 (.seq
 (.reg [⟨some 22, .move (.tmp 0), none⟩,
  ⟨some 23, .move (.tmp 6), none⟩,
  ⟨some 24, .indexAddr .slice (some 5) (.tmp 22) (.tmp 23), none⟩,
  ⟨some 25, .load (some 5) (.tmp 24), none⟩,
  ⟨some 26, .call (.cst (.func (.func 10) [] [])) [(.tmp 25)], none⟩,
  ⟨some 27, .un .not (.tmp 26), none⟩])
 (.cond (.tmp 27)
 (.seq
 (.reg [⟨some 4, .move (.cst .nil), none⟩,
  ⟨some 5, .move (.cst (.int .i64 1)), none⟩])
 (.ret))
 (.skip))))
 (.reg [⟨some 20, .move (.tmp 6), none⟩,
  ⟨some 21, .bin .add (.tmp 20) (.cst (.int .i64 1)), none⟩,
  ⟨some 6, .move (.tmp 21), none⟩]))
/- tollhouse/tollhouseref19.Expiries -/
def F20 : AFn := ⟨53, true, 2, [.tmp 4, .tmp 5], .seq
 (.reg [⟨some 4, .move (.cst .nil), none⟩,
  ⟨some 5, .move (.cst (.int .i64 0)), none⟩])
 (.seq
 (.seq
 (.reg [⟨some 10, .move (.tmp 1), none⟩,
  ⟨some 11, .bin .lss (.tmp 10) (.cst (.int .i64 0)), none⟩,
  ⟨some 12, .move (.tmp 11), none⟩,
  ⟨some 13, .move (.tmp 1), some (12, false)⟩,
  ⟨some 14, .bin .gtr (.tmp 13) (.cst (.int .i64 2147483647)), some (12, false)⟩,
  ⟨some 15, .pick (.tmp 12) (.cst (.bool true)) (.tmp 14), none⟩])
 (.cond (.tmp 15)
 (.seq
 (.reg [⟨some 4, .move (.cst .nil), none⟩,
  ⟨some 5, .move (.cst (.int .i64 1)), none⟩])
 (.ret))
 (.skip)))
 (.seq
 (.seq
 (.reg [⟨some 6, .move (.cst (.int .i64 0)), none⟩])
 (.block 0
 (.loop [0, 1, 6] false L20_1)))
 (.seq
 (.reg [⟨some 28, .move (.tmp 1), none⟩,
  ⟨some 29, .buildSlice none (.int .i64 0) 1 [(0, (.tmp 28))], none⟩,
  ⟨some 7, .move (.tmp 29), none⟩])
 (.seq
 (.seq
 (.reg [⟨some 30, .move (.tmp 0), none⟩,
  ⟨some 31, .len (.tmp 30), none⟩,
  ⟨some 32, .bin .sub (.tmp 31) (.cst (.int .i64 1)), none⟩,
  ⟨some 8, .move (.tmp 32), none⟩])
 (.block 2
 (.loop [0, 7, 8] false L20_0)))
 (.seq
 (.reg [⟨some 52, .move (.tmp 7), none⟩,
  ⟨some 4, .move (.tmp 52), none⟩,
  ⟨some 5, .move (.cst (.int .i64 0)), none⟩])
 (.ret))))))⟩
theorem c20 : compF Try.prog gl true [] [([0, 1, 6], false), ([0, 7, 8], false)] Try.f20 = some F20 := by kernel_rfl
def L21_0 : AC := .seq
 (.seq
 (.reg [⟨some 36, .move (.tmp 9), none⟩,
  ⟨some 37, .bin .geq (.tmp 36) (.cst (.int .i64 0)), none⟩])
 (.cond (.tmp 37)
 (.skip)
 (.exit 2)))
 (.seq
 (.block 3
 (.seq
 (.regQ [⟨some 41, .move (.tmp 0), none⟩,
  ⟨some 42, .move (.tmp 9), none⟩,
  ⟨some 43, .indexAddr .slice (some 2) (.tmp 41) (.tmp 42), none⟩,
  ⟨some 44, .load (some 2) (.tmp 43), none⟩,
  ⟨some 45, .move (.tmp 8), none⟩,
  ⟨some 46, .move (.tmp 9), none⟩,
  ⟨some 47, .bin .add (.tmp 46) (.cst (.int .i64 1)), none⟩,
  ⟨some 48, .indexAddr .slice none (.tmp 45) (.tmp 47), none⟩,
  ⟨some 49, .load none (.tmp 48), none⟩,
  ⟨some 50, .call (.cst (.func (.func 32) [] [])) [(.tmp 44), (.tmp 49)], none⟩,
  ⟨some 40, .move (.tmp 50), none⟩,
  ⟨some 51, .extract (.tmp 40) 0, none⟩,
  ⟨some 52, .extract (.tmp 40) 1, none⟩,
  ⟨some 10, .move (.tmp 51), none⟩,
  ⟨some 11, .move (.tmp 52), none⟩])
 (.seq
 (.seq
 (.reg [⟨some 53, .move (.tmp 11), none⟩,
  ⟨some 54, .bin .neq (.tmp 53) (.cst (.int .i64 0)), none⟩])
 (.cond (.tmp 54)
 (.seq
 (.reg [⟨some 55, .move (.tmp 11), none⟩,
  ⟨some 4, .move (.cst .nil), none⟩,
  ⟨some 5, .move (.tmp 55), none⟩])
 (.ret))
 (.skip)))
 (.reg [⟨some 56, .move (.tmp 8), none⟩,
  ⟨some 57, .move (.tmp 9), none⟩,
  ⟨some 58, .move (.tmp 10), none⟩,
  ⟨some 59, .indexAddr .slice none (.tmp 56) (.tmp 57), none⟩,
  ⟨none, .store 1 (.tmp 59) (.tmp 58), none⟩]))))
 (.reg [⟨some 38, .move (.tmp 9), none⟩,
  ⟨some 39, .bin .sub (.tmp 38) (.cst (.int .i64 1)), none⟩,
  ⟨some 9, .move (.tmp 39), none⟩]))
def L21_1 : AC := .seq
 (.reg [⟨some 17, .bin .lss (.tmp 16) (.tmp 15), none⟩])
 (.seq
 (.cond (.tmp 17)
 (.skip)
 (.exit 0))
 (.seq
 (.block 1
 (.seq
 (.reg [⟨some 18, .indexAddr .slice (some 2) (.tmp 14) (.tmp 16), none⟩,
  ⟨some 19, .load (some 2) (.tmp 18), none⟩,
  ⟨some 7, .alloc [(.int .i64 0), (.int .i64 0)], none⟩,
  ⟨none, .store 2 (.tmp 7) (.tmp 19), none⟩])
 (.seq
 (.reg [⟨some 20, .load (some 2) (.tmp 7), none⟩,
  ⟨some 21, .call (.cst (.func (.func 39) [] [])) [(.tmp 20)], none⟩,
  ⟨some 22, .un .not (.tmp 21), none⟩])
 (.cond (.tmp 22)
 (.seq
 (.reg [⟨some 4, .move (.cst .nil), none⟩,
  ⟨some 5, .move (.cst (.int .i64 1)), none⟩])
 (.ret))
 (.skip)))))
 (.reg [⟨some 23, .bin .add (.tmp 16) (.cst (.int .i64 1)), none⟩,
  ⟨some 16, .move (.tmp 23), none⟩])))
/- tollhouse/amount.Way -/
def F21 : AFn := ⟨61, true, 2, [.tmp 4, .tmp 5], .seq
 (.reg [⟨some 4, .move (.cst .nil), none⟩,
  ⟨some 5, .move (.cst (.int .i64 0)), none⟩])
 (.seq
 (.seq
 (.reg [⟨some 12, .move (.tmp 1), none⟩,
  ⟨some 13, .bin .lss (.tmp 12) (.cst (.int .i64 0)), none⟩])
 (.cond (.tmp 13)
 (.seq
 (.reg [⟨some 4, .move (.cst .nil), none⟩,
  ⟨some 5, .move (.cst (.int .i64 1)), none⟩])
 (.ret))
 (.skip)))
 (.seq
 (.seq
 (.reg [⟨some 14, .move (.tmp 0), none⟩,
  ⟨some 15, .len (.tmp 14), none⟩,
  ⟨some 16, .move (.cst (.int .i64 0)), none⟩])
 (.block 0
 (.loop [0, 1, 14, 15, 16] true L21_1)))
 (.seq
 (.reg [⟨some 24, .move (.tmp 0), none⟩,
  ⟨some 25, .len (.tmp 24), none⟩,
  ⟨some 26, .bin .add (.tmp 25) (.cst (.int .i64 1)), none⟩,
  ⟨some 27, .makeSlice none [(.int .i64 0)] 8 (.tmp 26) (.tmp 26), none⟩,
  ⟨some 8, .move (.tmp 27), none⟩])
 (.seq
 (.reg [⟨some 28, .move (.tmp 8), none⟩,
  ⟨some 29, .move (.tmp 0), none⟩,
  ⟨some 30, .len (.tmp 29), none⟩,
  ⟨some 31, .move (.tmp 1), none⟩,
  ⟨some 32, .indexAddr .slice none (.tmp 28) (.tmp 30), none⟩,
  ⟨none, .store 1 (.tmp 32) (.tmp 31), none⟩])
 (.seq
 (.seq
 (.reg [⟨some 33, .move (.tmp 0), none⟩,
  ⟨some 34, .len (.tmp 33), none⟩,
  ⟨some 35, .bin .sub (.tmp 34) (.cst (.int .i64 1)), none⟩,
  ⟨some 9, .move (.tmp 35), none⟩])
 (.block 2
 (.loop [0, 8, 9] true L21_0)))
 (.seq
 (.reg [⟨some 60, .move (.tmp 8), none⟩,
  ⟨some 4, .move (.tmp 60), none⟩,
  ⟨some 5, .move (.cst (.int .i64 0)), none⟩])
 (.ret)))))))⟩
theorem c21 : compF Try.prog gl true [] [([0, 1, 14, 15, 16], true), ([0, 8, 9], true)] Try.f21 = some F21 := by kernel_rfl
/- tollhouse/tollhouselaw19.Rules -/
def F22 : AFn := ⟨3, true, 0, [.cell 0 (some 5)], .seq
 (.reg [⟨some 0, .alloc [(.int .i64 0), (.int .i64 0), (.int .i64 0), (.int .i64 0), (.int .i64 0)], none⟩])
 (.seq
 (.reg [⟨some 1, .build [(.int .i64 0), (.int .i64 0)] [(0, 1, (.cst (.int .i64 1))), (1, 1, (.cst (.int .i64 1000)))], none⟩,
  ⟨some 2, .build [(.int .i64 0), (.int .i64 0), (.int .i64 0), (.int .i64 0), (.int .i64 0)] [(0, 2, (.tmp 1)), (2, 1, (.cst (.int .i64 5))), (3, 1, (.cst (.int .i64 2))), (4, 1, (.cst (.int .i64 500)))], none⟩,
  ⟨none, .store 5 (.tmp 0) (.tmp 2), none⟩])
 (.ret))⟩
theorem c22 : compF Try.prog gl true [] [] Try.f22 = some F22 := by kernel_rfl
/- tollhouse/amount.Fee -/
def F23 : AFn := ⟨39, true, 2, [.tmp 4, .tmp 5], .seq
 (.reg [⟨some 2, .box (.tmp 0), none⟩,
  ⟨some 4, .move (.cst (.int .i64 0)), none⟩,
  ⟨some 5, .move (.cst (.int .i64 0)), none⟩])
 (.seq
 (.seq
 (.reg [⟨some 10, .load (some 2) (.tmp 2), none⟩,
  ⟨some 11, .call (.cst (.func (.func 39) [] [])) [(.tmp 10)], none⟩,
  ⟨some 12, .un .not (.tmp 11), none⟩,
  ⟨some 13, .move (.tmp 12), none⟩,
  ⟨some 14, .move (.tmp 1), some (13, false)⟩,
  ⟨some 15, .bin .lss (.tmp 14) (.cst (.int .i64 0)), some (13, false)⟩,
  ⟨some 16, .pick (.tmp 13) (.cst (.bool true)) (.tmp 15), none⟩])
 (.cond (.tmp 16)
 (.seq
 (.reg [⟨some 4, .move (.cst (.int .i64 0)), none⟩,
  ⟨some 5, .move (.cst (.int .i64 1)), none⟩])
 (.ret))
 (.skip)))
 (.seq
 (.reg [⟨some 18, .move (.tmp 1), none⟩,
  ⟨some 19, .convInt .u64 (.tmp 18), none⟩,
  ⟨some 20, .fieldAddr 1 1 (.tmp 2), none⟩,
  ⟨some 21, .load none (.tmp 20), none⟩,
  ⟨some 22, .convInt .u64 (.tmp 21), none⟩,
  ⟨some 23, .call (.cst (.func (.func 40) [] [])) [(.tmp 19), (.tmp 22)], none⟩,
  ⟨some 17, .move (.tmp 23), none⟩,
  ⟨some 24, .extract (.tmp 17) 0, none⟩,
  ⟨some 25, .extract (.tmp 17) 1, none⟩,
  ⟨some 6, .move (.tmp 24), none⟩,
  ⟨some 7, .move (.tmp 25), none⟩])
 (.seq
 (.reg [⟨some 27, .move (.tmp 6), none⟩,
  ⟨some 28, .move (.tmp 7), none⟩,
  ⟨some 29, .call (.cst (.func (.func 41) [] [])) [(.tmp 27), (.tmp 28), (.cst (.int .u64 1000000))], none⟩,
  ⟨some 26, .move (.tmp 29), none⟩,
  ⟨some 30, .extract (.tmp 26) 0, none⟩,
  ⟨some 31, .extract (.tmp 26) 1, none⟩,
  ⟨some 8, .move (.tmp 30), none⟩,
  ⟨some 9, .move (.tmp 31), none⟩])
 (.seq
 (.reg [⟨some 32, .fieldAddr 0 1 (.tmp 2), none⟩,
  ⟨some 33, .load none (.tmp 32), none⟩,
  ⟨some 34, .move (.tmp 8), none⟩,
  ⟨some 35, .convInt .i64 (.tmp 34), none⟩,
  ⟨some 36, .call (.cst (.func (.func 42) [] [])) [(.tmp 33), (.tmp 35)], none⟩,
  ⟨some 37, .extract (.tmp 36) 0, none⟩,
  ⟨some 38, .extract (.tmp 36) 1, none⟩,
  ⟨some 4, .move (.tmp 37), none⟩,
  ⟨some 5, .move (.tmp 38), none⟩])
 (.ret)))))⟩
theorem c23 : compF Try.prog gl true [] [] Try.f23 = some F23 := by kernel_rfl
/- tollhouse/policy.within -/
def F24 : AFn := ⟨15, true, 3, [.tmp 6], .seq
 (.reg [⟨some 6, .move (.cst (.bool false)), none⟩])
 (.seq
 (.reg [⟨some 7, .move (.tmp 0), none⟩,
  ⟨some 8, .move (.tmp 1), none⟩,
  ⟨some 9, .bin .geq (.tmp 7) (.tmp 8), none⟩,
  ⟨some 10, .move (.tmp 9), none⟩,
  ⟨some 11, .move (.tmp 0), some (10, true)⟩,
  ⟨some 12, .move (.tmp 2), some (10, true)⟩,
  ⟨some 13, .bin .leq (.tmp 11) (.tmp 12), some (10, true)⟩,
  ⟨some 14, .pick (.tmp 10) (.tmp 13) (.cst (.bool false)), none⟩,
  ⟨some 6, .move (.tmp 14), none⟩])
 (.ret))⟩
theorem c24 : compF Try.prog gl true [] [] Try.f24 = some F24 := by kernel_rfl
/- tollhouse/tollhouseref02.Right -/
def F25 : AFn := ⟨16, true, 1, [.tmp 2], .seq
 (.reg [⟨some 1, .box (.tmp 0), none⟩,
  ⟨some 2, .move (.cst (.bool false)), none⟩])
 (.seq
 (.reg [⟨some 3, .fieldAddr 0 1 (.tmp 1), none⟩,
  ⟨some 4, .load none (.tmp 3), none⟩,
  ⟨some 5, .bin .geq (.tmp 4) (.cst (.int .i64 0)), none⟩,
  ⟨some 6, .move (.tmp 5), none⟩,
  ⟨some 7, .fieldAddr 1 1 (.tmp 1), some (6, true)⟩,
  ⟨some 8, .load none (.tmp 7), some (6, true)⟩,
  ⟨some 9, .bin .geq (.tmp 8) (.cst (.int .i64 0)), some (6, true)⟩,
  ⟨some 10, .pick (.tmp 6) (.tmp 9) (.cst (.bool false)), none⟩,
  ⟨some 11, .move (.tmp 10), none⟩,
  ⟨some 12, .fieldAddr 1 1 (.tmp 1), some (11, true)⟩,
  ⟨some 13, .load none (.tmp 12), some (11, true)⟩,
  ⟨some 14, .bin .leq (.tmp 13) (.cst (.int .i64 1000000)), some (11, true)⟩,
  ⟨some 15, .pick (.tmp 11) (.tmp 14) (.cst (.bool false)), none⟩,
  ⟨some 2, .move (.tmp 15), none⟩])
 (.ret))⟩
theorem c25 : compF Try.prog gl true [] [] Try.f25 = some F25 := by kernel_rfl
/- tollhouse/policy.base -/
def F26 : AFn := ⟨16, false, 5, [.tmp 10], .seq
 (.reg [⟨some 5, .box (.tmp 0), none⟩,
  ⟨some 6, .box (.tmp 1), none⟩,
  ⟨some 7, .box (.tmp 2), none⟩,
  ⟨some 8, .box (.tmp 3), none⟩,
  ⟨some 9, .box (.tmp 4), none⟩,
  ⟨some 10, .move (.cst .nil), none⟩])
 (.seq
 (.reg [⟨some 11, .makeFunc (.func 43) [] [(.tmp 6), (.tmp 5), (.tmp 7), (.tmp 8), (.tmp 9)], none⟩,
  ⟨some 12, .build [(.int .i64 0), (.sc .nilFunc)] [(0, 1, (.cst (.int .i64 1))), (1, 1, (.tmp 11))], none⟩,
  ⟨some 13, .makeFunc (.func 44) [] [(.tmp 8), (.tmp 9), (.tmp 5)], none⟩,
  ⟨some 14, .build [(.int .i64 0), (.sc .nilFunc)] [(0, 1, (.cst (.int .i64 6))), (1, 1, (.tmp 13))], none⟩,
  ⟨some 15, .buildSlice (some 2) (.agg [(.int .i64 0), (.sc .nilFunc)]) 2 [(0, (.tmp 12)), (1, (.tmp 14))], none⟩,
  ⟨some 10, .move (.tmp 15), none⟩])
 (.ret))⟩
theorem c26 : compF Try.prog gl false [] [] Try.f26 = some F26 := by kernel_rfl
def L27_0 : AC := .seq
 (.reg [⟨some 8, .bin .lss (.tmp 7) (.tmp 6), none⟩])
 (.seq
 (.cond (.tmp 8)
 (.skip)
 (.exit 0))
 (.seq
 (.block 1
 (.seq
 (.reg [⟨some 9, .indexAddr .slice (some 2) (.tmp 5) (.tmp 7), none⟩,
  ⟨some 10, .load (some 2) (.tmp 9), none⟩,
  ⟨some 4, .alloc [(.int .i64 0), (.sc .nilFunc)], none⟩,
  ⟨none, .store 2 (.tmp 4) (.tmp 10), none⟩])
 (.seq
 (.reg [⟨some 11, .fieldAddr 1 1 (.tmp 4), none⟩,
  ⟨some 12, .load none (.tmp 11), none⟩,
  ⟨some 13, .call (.tmp 12) [], none⟩])
 (.cond (.tmp 13)
 (.seq
 (.reg [⟨some 14, .fieldAddr 0 1 (.tmp 4), none⟩,
  ⟨some 15, .load none (.tmp 14), none⟩,
  ⟨some 2, .move (.tmp 15), none⟩])
 (.ret))
 (.skip)))))
 (.reg [⟨some 16, .bin .add (.tmp 7) (.cst (.int .i64 1)), none⟩,
  ⟨some 7, .move (.tmp 16), none⟩])))
/- tollhouse/policy.first -/
def F27 : AFn := ⟨17, true, 1, [.tmp 2], .seq
 (.reg [⟨some 2, .move (.cst (.int .i64 0)), none⟩])
 (.seq
 (.seq
 (.reg [⟨some 5, .move (.tmp 0), none⟩,
  ⟨some 6, .len (.tmp 5), none⟩,
  ⟨some 7, .move (.cst (.int .i64 0)), none⟩])
 (.block 0
 (.loop [5, 6, 7] true L27_0)))
 (.seq
 (.reg [⟨some 2, .move (.cst (.int .i64 0)), none⟩])
 (.ret)))⟩
theorem c27 : compF Try.prog gl true [] [([5, 6, 7], true)] Try.f27 = some F27 := by kernel_rfl
/- tollhouse/policy.Forward$1 -/
def F28 : AFn := ⟨11, false, 3, [.tmp 3], .seq
 (.reg [⟨some 3, .move (.cst (.bool false)), none⟩])
 (.seq
 (.reg [⟨some 4, .fieldAddr 2 1 (.tmp 0), none⟩,
  ⟨some 5, .load none (.tmp 4), none⟩,
  ⟨some 6, .load none (.tmp 1), none⟩,
  ⟨some 7, .fieldAddr 3 1 (.tmp 2), none⟩,
  ⟨some 8, .load none (.tmp 7), none⟩,
  ⟨some 9, .bin .add (.tmp 6) (.tmp 8), none⟩,
  ⟨some 10, .bin .leq (.tmp 5) (.tmp 9), none⟩,
  ⟨some 3, .move (.tmp 10), none⟩])
 (.ret))⟩
theorem c28 : compF Try.prog gl false [] [] Try.f28 = some F28 := by kernel_rfl
/- tollhouse/policy.Forward$2 -/
def F29 : AFn := ⟨11, false, 3, [.tmp 3], .seq
 (.reg [⟨some 3, .move (.cst (.bool false)), none⟩])
 (.seq
 (.reg [⟨some 4, .fieldAddr 2 1 (.tmp 0), none⟩,
  ⟨some 5, .load none (.tmp 4), none⟩,
  ⟨some 6, .load none (.tmp 1), none⟩,
  ⟨some 7, .fieldAddr 2 1 (.tmp 2), none⟩,
  ⟨some 8, .load none (.tmp 7), none⟩,
  ⟨some 9, .bin .sub (.tmp 6) (.tmp 8), none⟩,
  ⟨some 10, .bin .gtr (.tmp 5) (.tmp 9), none⟩,
  ⟨some 3, .move (.tmp 10), none⟩])
 (.ret))⟩
theorem c29 : compF Try.prog gl false [] [] Try.f29 = some F29 := by kernel_rfl
/- tollhouse/policy.Forward$3 -/
def F30 : AFn := ⟨5, false, 1, [.tmp 1], .seq
 (.reg [⟨some 1, .move (.cst (.bool false)), none⟩])
 (.seq
 (.reg [⟨some 2, .fieldAddr 1 1 (.tmp 0), none⟩,
  ⟨some 3, .load none (.tmp 2), none⟩,
  ⟨some 4, .bin .lss (.tmp 3) (.cst (.int .i64 1)), none⟩,
  ⟨some 1, .move (.tmp 4), none⟩])
 (.ret))⟩
theorem c30 : compF Try.prog gl false [] [] Try.f30 = some F30 := by kernel_rfl
/- tollhouse/policy.Forward$4 -/
def F31 : AFn := ⟨21, false, 3, [.tmp 3], .seq
 (.reg [⟨some 3, .move (.cst (.bool false)), none⟩])
 (.seq
 (.reg [⟨some 7, .fieldAddr 0 2 (.tmp 0), none⟩,
  ⟨some 8, .load (some 2) (.tmp 7), none⟩,
  ⟨some 9, .fieldAddr 1 1 (.tmp 1), none⟩,
  ⟨some 10, .load none (.tmp 9), none⟩,
  ⟨some 11, .call (.cst (.func (.func 32) [] [])) [(.tmp 8), (.tmp 10)], none⟩,
  ⟨some 6, .move (.tmp 11), none⟩,
  ⟨some 12, .extract (.tmp 6) 0, none⟩,
  ⟨some 13, .extract (.tmp 6) 1, none⟩,
  ⟨some 4, .move (.tmp 12), none⟩,
  ⟨some 5, .move (.tmp 13), none⟩])
 (.seq
 (.reg [⟨some 14, .move (.tmp 5), none⟩,
  ⟨some 15, .bin .neq (.tmp 14) (.cst (.int .i64 0)), none⟩,
  ⟨some 16, .move (.tmp 15), none⟩,
  ⟨some 17, .load none (.tmp 2), some (16, false)⟩,
  ⟨some 18, .move (.tmp 4), some (16, false)⟩,
  ⟨some 19, .bin .lss (.tmp 17) (.tmp 18), some (16, false)⟩,
  ⟨some 20, .pick (.tmp 16) (.cst (.bool true)) (.tmp 19), none⟩,
  ⟨some 3, .move (.tmp 20), none⟩])
 (.ret)))⟩
theorem c31 : compF Try.prog gl false [] [] Try.f31 = some F31 := by kernel_rfl
/- tollhouse/amount.In -/
def F32 : AFn := ⟨22, true, 2, [.tmp 4, .tmp 5], .seq
 (.reg [⟨some 2, .box (.tmp 0), none⟩,
  ⟨some 4, .move (.cst (.int .i64 0)), none⟩,
  ⟨some 5, .move (.cst (.int .i64 0)), none⟩])
 (.seq
 (.reg [⟨some 9, .load (some 2) (.tmp 2), none⟩,
  ⟨some 10, .move (.tmp 1), none⟩,
  ⟨some 11, .call (.cst (.func (.func 23) [] [])) [(.tmp 9), (.tmp 10)], none⟩,
  ⟨some 8, .move (.tmp 11), none⟩,
  ⟨some 12, .extract (.tmp 8) 0, none⟩,
  ⟨some 13, .extract (.tmp 8) 1, none⟩,
  ⟨some 6, .move (.tmp 12), none⟩,
  ⟨some 7, .move (.tmp 13), none⟩])
 (.seq
 (.seq
 (.reg [⟨some 14, .move (.tmp 7), none⟩,
  ⟨some 15, .bin .neq (.tmp 14) (.cst (.int .i64 0)), none⟩])
 (.cond (.tmp 15)
 (.seq
 (.reg [⟨some 16, .move (.tmp 7), none⟩,
  ⟨some 4, .move (.cst (.int .i64 0)), none⟩,
  ⟨some 5, .move (.tmp 16), none⟩])
 (.ret))
 (.skip)))
 (.seq
 (.reg [⟨some 17, .move (.tmp 1), none⟩,
  ⟨some 18, .move (.tmp 6), none⟩,
  ⟨some 19, .call (.cst (.func (.func 42) [] [])) [(.tmp 17), (.tmp 18)], none⟩,
  ⟨some 20, .extract (.tmp 19) 0, none⟩,
  ⟨some 21, .extract (.tmp 19) 1, none⟩,
  ⟨some 4, .move (.tmp 20), none⟩,
  ⟨some 5, .move (.tmp 21), none⟩])
 (.ret))))⟩
theorem c32 : compF Try.prog gl true [] [] Try.f32 = some F32 := by kernel_rfl
/- tollhouse/tollhouseref19.right -/
def F33 : AFn := ⟨31, true, 4, [.tmp 8], .seq
 (.reg [⟨some 4, .box (.tmp 0), none⟩,
  ⟨some 8, .move (.cst (.bool false)), none⟩])
 (.seq
 (.reg [⟨some 9, .load (some 5) (.tmp 4), none⟩,
  ⟨some 10, .call (.cst (.func (.func 10) [] [])) [(.tmp 9)], none⟩,
  ⟨some 11, .move (.tmp 10), none⟩,
  ⟨some 12, .move (.tmp 1), some (11, true)⟩,
  ⟨some 13, .bin .geq (.tmp 12) (.cst (.int .i64 0)), some (11, true)⟩,
  ⟨some 14, .pick (.tmp 11) (.tmp 13) (.cst (.bool false)), none⟩,
  ⟨some 15, .move (.tmp 14), none⟩,
  ⟨some 16, .move (.tmp 2), some (15, true)⟩,
  ⟨some 17, .bin .geq (.tmp 16) (.cst (.int .i64 0)), some (15, true)⟩,
  ⟨some 18, .pick (.tmp 15) (.tmp 17) (.cst (.bool false)), none⟩,
  ⟨some 19, .move (.tmp 18), none⟩,
  ⟨some 20, .move (.tmp 3), some (19, true)⟩,
  ⟨some 21, .bin .geq (.tmp 20) (.cst (.int .i64 0)), some (19, true)⟩,
  ⟨some 22, .pick (.tmp 19) (.tmp 21) (.cst (.bool false)), none⟩,
  ⟨some 23, .move (.tmp 22), none⟩,
  ⟨some 24, .move (.tmp 2), some (23, true)⟩,
  ⟨some 25, .bin .leq (.tmp 24) (.cst (.int .i64 2147483647)), some (23, true)⟩,
  ⟨some 26, .pick (.tmp 23) (.tmp 25) (.cst (.bool false)), none⟩,
  ⟨some 27, .move (.tmp 26), none⟩,
  ⟨some 28, .move (.tmp 3), some (27, true)⟩,
  ⟨some 29, .bin .leq (.tmp 28) (.cst (.int .i64 2147483647)), some (27, true)⟩,
  ⟨some 30, .pick (.tmp 27) (.tmp 29) (.cst (.bool false)), none⟩,
  ⟨some 8, .move (.tmp 30), none⟩])
 (.ret))⟩
theorem c33 : compF Try.prog gl true [] [] Try.f33 = some F33 := by kernel_rfl
/- tollhouse/tollhouseref19.soon -/
def F34 : AFn := ⟨18, true, 3, [.tmp 6], .seq
 (.reg [⟨some 3, .box (.tmp 0), none⟩,
  ⟨some 6, .move (.cst (.bool false)), none⟩])
 (.seq
 (.reg [⟨some 7, .move (.tmp 1), none⟩,
  ⟨some 8, .move (.tmp 2), none⟩,
  ⟨some 9, .bin .lss (.tmp 7) (.tmp 8), none⟩,
  ⟨some 10, .move (.tmp 9), none⟩,
  ⟨some 11, .move (.tmp 1), some (10, false)⟩,
  ⟨some 12, .move (.tmp 2), some (10, false)⟩,
  ⟨some 13, .bin .sub (.tmp 11) (.tmp 12), some (10, false)⟩,
  ⟨some 14, .fieldAddr 3 1 (.tmp 3), some (10, false)⟩,
  ⟨some 15, .load none (.tmp 14), some (10, false)⟩,
  ⟨some 16, .bin .leq (.tmp 13) (.tmp 15), some (10, false)⟩,
  ⟨some 17, .pick (.tmp 10) (.cst (.bool true)) (.tmp 16), none⟩,
  ⟨some 6, .move (.tmp 17), none⟩])
 (.ret))⟩
theorem c34 : compF Try.prog gl true [] [] Try.f34 = some F34 := by kernel_rfl
/- tollhouse/tollhouseref02.In -/
def F35 : AFn := ⟨22, true, 2, [.tmp 4, .tmp 5], .seq
 (.reg [⟨some 2, .box (.tmp 0), none⟩,
  ⟨some 4, .move (.cst (.int .i64 0)), none⟩,
  ⟨some 5, .move (.cst (.int .i64 0)), none⟩])
 (.seq
 (.reg [⟨some 9, .load (some 2) (.tmp 2), none⟩,
  ⟨some 10, .move (.tmp 1), none⟩,
  ⟨some 11, .call (.cst (.func (.func 45) [] [])) [(.tmp 9), (.tmp 10)], none⟩,
  ⟨some 8, .move (.tmp 11), none⟩,
  ⟨some 12, .extract (.tmp 8) 0, none⟩,
  ⟨some 13, .extract (.tmp 8) 1, none⟩,
  ⟨some 6, .move (.tmp 12), none⟩,
  ⟨some 7, .move (.tmp 13), none⟩])
 (.seq
 (.seq
 (.reg [⟨some 14, .move (.tmp 7), none⟩,
  ⟨some 15, .bin .neq (.tmp 14) (.cst (.int .i64 0)), none⟩])
 (.cond (.tmp 15)
 (.seq
 (.reg [⟨some 16, .move (.tmp 7), none⟩,
  ⟨some 4, .move (.cst (.int .i64 0)), none⟩,
  ⟨some 5, .move (.tmp 16), none⟩])
 (.ret))
 (.skip)))
 (.seq
 (.reg [⟨some 17, .move (.tmp 6), none⟩,
  ⟨some 18, .move (.tmp 1), none⟩,
  ⟨some 19, .call (.cst (.func (.func 46) [] [])) [(.tmp 17), (.tmp 18)], none⟩,
  ⟨some 20, .extract (.tmp 19) 0, none⟩,
  ⟨some 21, .extract (.tmp 19) 1, none⟩,
  ⟨some 4, .move (.tmp 20), none⟩,
  ⟨some 5, .move (.tmp 21), none⟩])
 (.ret))))⟩
theorem c35 : compF Try.prog gl true [] [] Try.f35 = some F35 := by kernel_rfl
/- tollhouse/policy.Final$1 -/
def F36 : AFn := ⟨10, false, 3, [.tmp 3], .seq
 (.reg [⟨some 3, .move (.cst (.bool false)), none⟩])
 (.seq
 (.reg [⟨some 4, .load none (.tmp 0), none⟩,
  ⟨some 5, .load none (.tmp 1), none⟩,
  ⟨some 6, .fieldAddr 3 1 (.tmp 2), none⟩,
  ⟨some 7, .load none (.tmp 6), none⟩,
  ⟨some 8, .bin .add (.tmp 5) (.tmp 7), none⟩,
  ⟨some 9, .bin .leq (.tmp 4) (.tmp 8), none⟩,
  ⟨some 3, .move (.tmp 9), none⟩])
 (.ret))⟩
theorem c36 : compF Try.prog gl false [] [] Try.f36 = some F36 := by kernel_rfl
/- tollhouse/policy.Final$2 -/
def F37 : AFn := ⟨7, false, 2, [.tmp 2], .seq
 (.reg [⟨some 2, .move (.cst (.bool false)), none⟩])
 (.seq
 (.reg [⟨some 3, .load none (.tmp 0), none⟩,
  ⟨some 4, .fieldAddr 2 1 (.tmp 1), none⟩,
  ⟨some 5, .load none (.tmp 4), none⟩,
  ⟨some 6, .bin .lss (.tmp 3) (.tmp 5), none⟩,
  ⟨some 2, .move (.tmp 6), none⟩])
 (.ret))⟩
theorem c37 : compF Try.prog gl false [] [] Try.f37 = some F37 := by kernel_rfl
/- tollhouse/policy.Final$3 -/
def F38 : AFn := ⟨19, false, 2, [.tmp 2], .seq
 (.reg [⟨some 2, .move (.cst (.bool false)), none⟩])
 (.seq
 (.reg [⟨some 3, .load none (.tmp 0), none⟩,
  ⟨some 4, .fieldAddr 1 1 (.tmp 1), none⟩,
  ⟨some 5, .load none (.tmp 4), none⟩,
  ⟨some 6, .bin .lss (.tmp 3) (.tmp 5), none⟩,
  ⟨some 7, .move (.tmp 6), none⟩,
  ⟨some 8, .fieldAddr 1 1 (.tmp 1), some (7, false)⟩,
  ⟨some 9, .load none (.tmp 8), some (7, false)⟩,
  ⟨some 10, .bin .lss (.tmp 9) (.cst (.int .i64 1)), some (7, false)⟩,
  ⟨some 11, .pick (.tmp 7) (.cst (.bool true)) (.tmp 10), none⟩,
  ⟨some 12, .move (.tmp 11), none⟩,
  ⟨some 13, .fieldAddr 35 1 (.tmp 1), some (12, false)⟩,
  ⟨some 14, .load none (.tmp 13), some (12, false)⟩,
  ⟨some 15, .fieldAddr 1 1 (.tmp 1), some (12, false)⟩,
  ⟨some 16, .load none (.tmp 15), some (12, false)⟩,
  ⟨some 17, .bin .lss (.tmp 14) (.tmp 16), some (12, false)⟩,
  ⟨some 18, .pick (.tmp 12) (.cst (.bool true)) (.tmp 17), none⟩,
  ⟨some 2, .move (.tmp 18), none⟩])
 (.ret))⟩
theorem c38 : compF Try.prog gl false [] [] Try.f38 = some F38 := by kernel_rfl
/- tollhouse/amount.may -/
def F39 : AFn := ⟨16, true, 1, [.tmp 2], .seq
 (.reg [⟨some 1, .box (.tmp 0), none⟩,
  ⟨some 2, .move (.cst (.bool false)), none⟩])
 (.seq
 (.reg [⟨some 3, .fieldAddr 0 1 (.tmp 1), none⟩,
  ⟨some 4, .load none (.tmp 3), none⟩,
  ⟨some 5, .bin .geq (.tmp 4) (.cst (.int .i64 0)), none⟩,
  ⟨some 6, .move (.tmp 5), none⟩,
  ⟨some 7, .fieldAddr 1 1 (.tmp 1), some (6, true)⟩,
  ⟨some 8, .load none (.tmp 7), some (6, true)⟩,
  ⟨some 9, .bin .geq (.tmp 8) (.cst (.int .i64 0)), some (6, true)⟩,
  ⟨some 10, .pick (.tmp 6) (.tmp 9) (.cst (.bool false)), none⟩,
  ⟨some 11, .move (.tmp 10), none⟩,
  ⟨some 12, .fieldAddr 1 1 (.tmp 1), some (11, true)⟩,
  ⟨some 13, .load none (.tmp 12), some (11, true)⟩,
  ⟨some 14, .bin .leq (.tmp 13) (.cst (.int .i64 1000000)), some (11, true)⟩,
  ⟨some 15, .pick (.tmp 11) (.tmp 14) (.cst (.bool false)), none⟩,
  ⟨some 2, .move (.tmp 15), none⟩])
 (.ret))⟩
theorem c39 : compF Try.prog gl true [] [] Try.f39 = some F39 := by kernel_rfl
/- math/bits.Mul64 -/
def F40 : AFn := ⟨51, true, 2, [.tmp 4, .tmp 5], .seq
 (.reg [⟨some 4, .move (.cst (.int .u64 0)), none⟩,
  ⟨some 5, .move (.cst (.int .u64 0)), none⟩])
 (.seq
 (.reg [⟨some 14, .move (.tmp 0), none⟩,
  ⟨some 15, .bin .and (.tmp 14) (.cst (.int .u64 4294967295)), none⟩,
  ⟨some 6, .move (.tmp 15), none⟩])
 (.seq
 (.reg [⟨some 16, .move (.tmp 0), none⟩,
  ⟨some 17, .bin .shr (.tmp 16) (.cst (.int .u64 32)), none⟩,
  ⟨some 7, .move (.tmp 17), none⟩])
 (.seq
 (.reg [⟨some 18, .move (.tmp 1), none⟩,
  ⟨some 19, .bin .and (.tmp 18) (.cst (.int .u64 4294967295)), none⟩,
  ⟨some 8, .move (.tmp 19), none⟩])
 (.seq
 (.reg [⟨some 20, .move (.tmp 1), none⟩,
  ⟨some 21, .bin .shr (.tmp 20) (.cst (.int .u64 32)), none⟩,
  ⟨some 9, .move (.tmp 21), none⟩])
 (.seq
 (.reg [⟨some 22, .move (.tmp 6), none⟩,
  ⟨some 23, .move (.tmp 8), none⟩,
  ⟨some 24, .bin .mul (.tmp 22) (.tmp 23), none⟩,
  ⟨some 10, .move (.tmp 24), none⟩])
 (.seq
 (.reg [⟨some 25, .move (.tmp 7), none⟩,
  ⟨some 26, .move (.tmp 8), none⟩,
  ⟨some 27, .bin .mul (.tmp 25) (.tmp 26), none⟩,
  ⟨some 28, .move (.tmp 10), none⟩,
  ⟨some 29, .bin .shr (.tmp 28) (.cst (.int .u64 32)), none⟩,
  ⟨some 30, .bin .add (.tmp 27) (.tmp 29), none⟩,
  ⟨some 11, .move (.tmp 30), none⟩])
 (.seq
 (.reg [⟨some 31, .move (.tmp 11), none⟩,
  ⟨some 32, .bin .and (.tmp 31) (.cst (.int .u64 4294967295)), none⟩,
  ⟨some 12, .move (.tmp 32), none⟩])
 (.seq
 (.reg [⟨some 33, .move (.tmp 11), none⟩,
  ⟨some 34, .bin .shr (.tmp 33) (.cst (.int .u64 32)), none⟩,
  ⟨some 13, .move (.tmp 34), none⟩])
 (.seq
 (.reg [⟨some 35, .move (.tmp 12), none⟩,
  ⟨some 36, .move (.tmp 6), none⟩,
  ⟨some 37, .move (.tmp 9), none⟩,
  ⟨some 38, .bin .mul (.tmp 36) (.tmp 37), none⟩,
  ⟨some 39, .bin .add (.tmp 35) (.tmp 38), none⟩,
  ⟨some 12, .move (.tmp 39), none⟩])
 (.seq
 (.reg [⟨some 40, .move (.tmp 7), none⟩,
  ⟨some 41, .move (.tmp 9), none⟩,
  ⟨some 42, .bin .mul (.tmp 40) (.tmp 41), none⟩,
  ⟨some 43, .move (.tmp 13), none⟩,
  ⟨some 44, .bin .add (.tmp 42) (.tmp 43), none⟩,
  ⟨some 45, .move (.tmp 12), none⟩,
  ⟨some 46, .bin .shr (.tmp 45) (.cst (.int .u64 32)), none⟩,
  ⟨some 47, .bin .add (.tmp 44) (.tmp 46), none⟩,
  ⟨some 4, .move (.tmp 47), none⟩])
 (.seq
 (.reg [⟨some 48, .move (.tmp 0), none⟩,
  ⟨some 49, .move (.tmp 1), none⟩,
  ⟨some 50, .bin .mul (.tmp 48) (.tmp 49), none⟩,
  ⟨some 5, .move (.tmp 50), none⟩])
 (.ret))))))))))))⟩
theorem c40 : compF Try.prog gl true [] [] Try.f40 = some F40 := by kernel_rfl
def L41_0 : AC := .seq
 (.seq
 (.reg [⟨some 102, .move (.tmp 18), none⟩,
  ⟨some 103, .bin .geq (.tmp 102) (.cst (.int .u64 4294967296)), none⟩,
  ⟨some 104, .move (.tmp 103), none⟩,
  ⟨some 105, .move (.tmp 18), some (104, false)⟩,
  ⟨some 106, .move (.tmp 10), some (104, false)⟩,
  ⟨some 107, .bin .mul (.tmp 105) (.tmp 106), some (104, false)⟩,
  ⟨some 108, .move (.tmp 16), some (104, false)⟩,
  ⟨some 109, .bin .mul (.cst (.int .u64 4294967296)) (.tmp 108), some (104, false)⟩,
  ⟨some 110, .move (.tmp 14), some (104, false)⟩,
  ⟨some 111, .bin .add (.tmp 109) (.tmp 110), some (104, false)⟩,
  ⟨some 112, .bin .gtr (.tmp 107) (.tmp 111), some (104, false)⟩,
  ⟨some 113, .pick (.tmp 104) (.cst (.bool true)) (.tmp 112), none⟩])
 (.cond (.tmp 113)
 (.skip)
 (.exit 2)))
 (.block 3
 (.seq
 (.reg [⟨some 114, .move (.tmp 18), none⟩,
  ⟨some 115, .bin .sub (.tmp 114) (.cst (.int .u64 1)), none⟩,
  ⟨some 18, .move (.tmp 115), none⟩])
 (.seq
 (.reg [⟨some 116, .move (.tmp 16), none⟩,
  ⟨some 117, .move (.tmp 9), none⟩,
  ⟨some 118, .bin .add (.tmp 116) (.tmp 117), none⟩,
  ⟨some 16, .move (.tmp 118), none⟩])
 (.seq
 (.reg [⟨some 119, .move (.tmp 16), none⟩,
  ⟨some 120, .bin .geq (.tmp 119) (.cst (.int .u64 4294967296)), none⟩])
 (.cond (.tmp 120)
 (.exit 2)
 (.skip))))))
def L41_1 : AC := .seq
 (.seq
 (.reg [⟨some 67, .move (.tmp 15), none⟩,
  ⟨some 68, .bin .geq (.tmp 67) (.cst (.int .u64 4294967296)), none⟩,
  ⟨some 69, .move (.tmp 68), none⟩,
  ⟨some 70, .move (.tmp 15), some (69, false)⟩,
  ⟨some 71, .move (.tmp 10), some (69, false)⟩,
  ⟨some 72, .bin .mul (.tmp 70) (.tmp 71), some (69, false)⟩,
  ⟨some 73, .move (.tmp 16), some (69, false)⟩,
  ⟨some 74, .bin .mul (.cst (.int .u64 4294967296)) (.tmp 73), some (69, false)⟩,
  ⟨some 75, .move (.tmp 13), some (69, false)⟩,
  ⟨some 76, .bin .add (.tmp 74) (.tmp 75), some (69, false)⟩,
  ⟨some 77, .bin .gtr (.tmp 72) (.tmp 76), some (69, false)⟩,
  ⟨some 78, .pick (.tmp 69) (.cst (.bool true)) (.tmp 77), none⟩])
 (.cond (.tmp 78)
 (.skip)
 (.exit 0)))
 (.block 1
 (.seq
 (.reg [⟨some 79, .move (.tmp 15), none⟩,
  ⟨some 80, .bin .sub (.tmp 79) (.cst (.int .u64 1)), none⟩,
  ⟨some 15, .move (.tmp 80), none⟩])
 (.seq
 (.reg [⟨some 81, .move (.tmp 16), none⟩,
  ⟨some 82, .move (.tmp 9), none⟩,
  ⟨some 83, .bin .add (.tmp 81) (.tmp 82), none⟩,
  ⟨some 16, .move (.tmp 83), none⟩])
 (.seq
 (.reg [⟨some 84, .move (.tmp 16), none⟩,
  ⟨some 85, .bin .geq (.tmp 84) (.cst (.int .u64 4294967296)), none⟩])
 (.cond (.tmp 85)
 (.exit 0)
 (.skip))))))
/- math/bits.Div64 -/
def F41 : AFn := ⟨135, true, 3, [.tmp 6, .tmp 7], .seq
 (.reg [⟨some 6, .move (.cst (.int .u64 0)), none⟩,
  ⟨some 7, .move (.cst (.int .u64 0)), none⟩])
 (.seq
 (.seq
 (.reg [⟨some 19, .move (.tmp 2), none⟩,
  ⟨some 20, .bin .eql (.tmp 19) (.cst (.int .u64 0)), none⟩])
 (.cond (.tmp 20)
 (.reg [⟨some 21, .stuck, none⟩,
  ⟨none, .stuck, none⟩])
 (.skip)))
 (.seq
 (.seq
 (.reg [⟨some 22, .move (.tmp 2), none⟩,
  ⟨some 23, .move (.tmp 0), none⟩,
  ⟨some 24, .bin .leq (.tmp 22) (.tmp 23), none⟩])
 (.cond (.tmp 24)
 (.reg [⟨some 25, .stuck, none⟩,
  ⟨none, .stuck, none⟩])
 (.skip)))
 (.seq
 (.seq
 (.reg [⟨some 26, .move (.tmp 0), none⟩,
  ⟨some 27, .bin .eql (.tmp 26) (.cst (.int .u64 0)), none⟩])
 (.cond (.tmp 27)
 (.seq
 (.regQ [⟨some 28, .move (.tmp 1), none⟩,
  ⟨some 29, .move (.tmp 2), none⟩,
  ⟨some 30, .bin .quo (.tmp 28) (.tmp 29), none⟩,
  ⟨some 31, .move (.tmp 1), none⟩,
  ⟨some 32, .move (.tmp 2), none⟩,
  ⟨some 33, .bin .rem (.tmp 31) (.tmp 32), none⟩,
  ⟨some 6, .move (.tmp 30), none⟩,
  ⟨some 7, .move (.tmp 33), none⟩])
 (.ret))
 (.skip)))
 (.seq
 (.reg [⟨some 34, .move (.tmp 2), none⟩,
  ⟨some 35, .call (.cst (.func (.func 47) [] [])) [(.tmp 34)], none⟩,
  ⟨some 36, .convInt .u64 (.tmp 35), none⟩,
  ⟨some 8, .move (.tmp 36), none⟩])
 (.seq
 (.reg [⟨some 37, .move (.tmp 2), none⟩,
  ⟨some 38, .move (.tmp 8), none⟩,
  ⟨some 39, .bin .shl (.tmp 37) (.tmp 38), none⟩,
  ⟨some 2, .move (.tmp 39), none⟩])
 (.seq
 (.reg [⟨some 40, .move (.tmp 2), none⟩,
  ⟨some 41, .bin .shr (.tmp 40) (.cst (.int .u64 32)), none⟩,
  ⟨some 9, .move (.tmp 41), none⟩])
 (.seq
 (.reg [⟨some 42, .move (.tmp 2), none⟩,
  ⟨some 43, .bin .and (.tmp 42) (.cst (.int .u64 4294967295)), none⟩,
  ⟨some 10, .move (.tmp 43), none⟩])
 (.seq
 (.reg [⟨some 44, .move (.tmp 0), none⟩,
  ⟨some 45, .move (.tmp 8), none⟩,
  ⟨some 46, .bin .shl (.tmp 44) (.tmp 45), none⟩,
  ⟨some 47, .move (.tmp 1), none⟩,
  ⟨some 48, .move (.tmp 8), none⟩,
  ⟨some 49, .bin .sub (.cst (.int .u64 64)) (.tmp 48), none⟩,
  ⟨some 50, .bin .shr (.tmp 47) (.tmp 49), none⟩,
  ⟨some 51, .bin .or (.tmp 46) (.tmp 50), none⟩,
  ⟨some 11, .move (.tmp 51), none⟩])
 (.seq
 (.reg [⟨some 52, .move (.tmp 1), none⟩,
  ⟨some 53, .move (.tmp 8), none⟩,
  ⟨some 54, .bin .shl (.tmp 52) (.tmp 53), none⟩,
  ⟨some 12, .move (.tmp 54), none⟩])
 (.seq
 (.reg [⟨some 55, .move (.tmp 12), none⟩,
  ⟨some 56, .bin .shr (.tmp 55) (.cst (.int .u64 32)), none⟩,
  ⟨some 13, .move (.tmp 56), none⟩])
 (.seq
 (.reg [⟨some 57, .move (.tmp 12), none⟩,
  ⟨some 58, .bin .and (.tmp 57) (.cst (.int .u64 4294967295)), none⟩,
  ⟨some 14, .move (.tmp 58), none⟩])
 (.seq
 (.reg [⟨some 59, .move (.tmp 11), none⟩,
  ⟨some 60, .move (.tmp 9), none⟩,
  ⟨some 61, .bin .quo (.tmp 59) (.tmp 60), none⟩,
  ⟨some 15, .move (.tmp 61), none⟩])
 (.seq
 (.reg [⟨some 62, .move (.tmp 11), none⟩,
  ⟨some 63, .move (.tmp 15), none⟩,
  ⟨some 64, .move (.tmp 9), none⟩,
  ⟨some 65, .bin .mul (.tmp 63) (.tmp 64), none⟩,
  ⟨some 66, .bin .sub (.tmp 62) (.tmp 65), none⟩,
  ⟨some 16, .move (.tmp 66), none⟩])
 (.seq
 (.block 0
 (.loop [2, 8, 9, 10, 11, 13, 14, 15, 16] true L41_1))
 (.seq
 (.reg [⟨some 86, .move (.tmp 11), none⟩,
  ⟨some 87, .bin .mul (.tmp 86) (.cst (.int .u64 4294967296)), none⟩,
  ⟨some 88, .move (.tmp 13), none⟩,
  ⟨some 89, .bin .add (.tmp 87) (.tmp 88), none⟩,
  ⟨some 90, .move (.tmp 15), none⟩,
  ⟨some 91, .move (.tmp 2), none⟩,
  ⟨some 92, .bin .mul (.tmp 90) (.tmp 91), none⟩,
  ⟨some 93, .bin .sub (.tmp 89) (.tmp 92), none⟩,
  ⟨some 17, .move (.tmp 93), none⟩])
 (.seq
 (.reg [⟨some 94, .move (.tmp 17), none⟩,
  ⟨some 95, .move (.tmp 9), none⟩,
  ⟨some 96, .bin .quo (.tmp 94) (.tmp 95), none⟩,
  ⟨some 18, .move (.tmp 96), none⟩])
 (.seq
 (.reg [⟨some 97, .move (.tmp 17), none⟩,
  ⟨some 98, .move (.tmp 18), none⟩,
  ⟨some 99, .move (.tmp 9), none⟩,
  ⟨some 100, .bin .mul (.tmp 98) (.tmp 99), none⟩,
  ⟨some 101, .bin .sub (.tmp 97) (.tmp 100), none⟩,
  ⟨some 16, .move (.tmp 101), none⟩])
 (.seq
 (.block 2
 (.loop [2, 8, 9, 10, 14, 15, 16, 17, 18] true L41_0))
 (.seq
 (.reg [⟨some 121, .move (.tmp 15), none⟩,
  ⟨some 122, .bin .mul (.tmp 121) (.cst (.int .u64 4294967296)), none⟩,
  ⟨some 123, .move (.tmp 18), none⟩,
  ⟨some 124, .bin .add (.tmp 122) (.tmp 123), none⟩,
  ⟨some 125, .move (.tmp 17), none⟩,
  ⟨some 126, .bin .mul (.tmp 125) (.cst (.int .u64 4294967296)), none⟩,
  ⟨some 127, .move (.tmp 14), none⟩,
  ⟨some 128, .bin .add (.tmp 126) (.tmp 127), none⟩,
  ⟨some 129, .move (.tmp 18), none⟩,
  ⟨some 130, .move (.tmp 2), none⟩,
  ⟨some 131, .bin .mul (.tmp 129) (.tmp 130), none⟩,
  ⟨some 132, .bin .sub (.tmp 128) (.tmp 131), none⟩,
  ⟨some 133, .move (.tmp 8), none⟩,
  ⟨some 134, .bin .shr (.tmp 132) (.tmp 133), none⟩,
  ⟨some 6, .move (.tmp 124), none⟩,
  ⟨some 7, .move (.tmp 134), none⟩])
 (.ret))))))))))))))))))))⟩
theorem c41 : compF Try.prog gl true [] [([2, 8, 9, 10, 11, 13, 14, 15, 16], true), ([2, 8, 9, 10, 14, 15, 16, 17, 18], true)] Try.f41 = some F41 := by kernel_rfl
/- tollhouse/amount.Add -/
def F42 : AFn := ⟨21, true, 2, [.tmp 4, .tmp 5], .seq
 (.reg [⟨some 4, .move (.cst (.int .i64 0)), none⟩,
  ⟨some 5, .move (.cst (.int .i64 0)), none⟩])
 (.seq
 (.block 0
 (.seq
 (.reg [⟨some 7, .move (.tmp 0), none⟩,
  ⟨some 8, .bin .lss (.tmp 7) (.cst (.int .i64 0)), none⟩,
  ⟨some 9, .move (.tmp 8), none⟩,
  ⟨some 10, .move (.tmp 1), some (9, false)⟩,
  ⟨some 11, .bin .lss (.tmp 10) (.cst (.int .i64 0)), some (9, false)⟩,
  ⟨some 12, .pick (.tmp 9) (.cst (.bool true)) (.tmp 11), none⟩,
  ⟨some 6, .move (.tmp 12), none⟩])
 (.cond (.tmp 6)
 (.seq
 (.reg [⟨some 4, .move (.cst (.int .i64 0)), none⟩,
  ⟨some 5, .move (.cst (.int .i64 1)), none⟩])
 (.ret))
 (.seq
 (.reg [⟨some 14, .move (.tmp 0), none⟩,
  ⟨some 15, .move (.tmp 1), none⟩,
  ⟨some 16, .bin .sub (.cst (.int .i64 9223372036854775807)) (.tmp 15), none⟩,
  ⟨some 17, .bin .gtr (.tmp 14) (.tmp 16), none⟩,
  ⟨some 13, .move (.tmp 17), none⟩])
 (.cond (.tmp 13)
 (.seq
 (.reg [⟨some 4, .move (.cst (.int .i64 0)), none⟩,
  ⟨some 5, .move (.cst (.int .i64 20)), none⟩])
 (.ret))
 (.skip))))))
 (.seq
 (.reg [⟨some 18, .move (.tmp 0), none⟩,
  ⟨some 19, .move (.tmp 1), none⟩,
  ⟨some 20, .bin .add (.tmp 18) (.tmp 19), none⟩,
  ⟨some 4, .move (.tmp 20), none⟩,
  ⟨some 5, .move (.cst (.int .i64 0)), none⟩])
 (.ret)))⟩
theorem c42 : compF Try.prog gl true [] [] Try.f42 = some F42 := by kernel_rfl
/- tollhouse/policy.base$1 -/
def F43 : AFn := ⟨27, false, 5, [.tmp 5], .seq
 (.reg [⟨some 5, .move (.cst (.bool false)), none⟩])
 (.seq
 (.reg [⟨some 6, .load none (.tmp 0), none⟩,
  ⟨some 7, .un .not (.tmp 6), none⟩,
  ⟨some 8, .move (.tmp 7), none⟩,
  ⟨some 9, .load (some 5) (.tmp 1), some (8, false)⟩,
  ⟨some 10, .call (.cst (.func (.func 9) [] [])) [(.tmp 9)], some (8, false)⟩,
  ⟨some 11, .un .not (.tmp 10), some (8, false)⟩,
  ⟨some 12, .pick (.tmp 8) (.cst (.bool true)) (.tmp 11), none⟩,
  ⟨some 13, .move (.tmp 12), none⟩,
  ⟨some 14, .load none (.tmp 2), some (13, false)⟩,
  ⟨some 15, .bin .lss (.tmp 14) (.cst (.int .i64 0)), some (13, false)⟩,
  ⟨some 16, .pick (.tmp 13) (.cst (.bool true)) (.tmp 15), none⟩,
  ⟨some 17, .move (.tmp 16), none⟩,
  ⟨some 18, .load none (.tmp 3), some (17, false)⟩,
  ⟨some 19, .call (.cst (.func (.func 24) [] [])) [(.tmp 18), (.cst (.int .i64 0)), (.cst (.int .i64 2147483647))], some (17, false)⟩,
  ⟨some 20, .un .not (.tmp 19), some (17, false)⟩,
  ⟨some 21, .pick (.tmp 17) (.cst (.bool true)) (.tmp 20), none⟩,
  ⟨some 22, .move (.tmp 21), none⟩,
  ⟨some 23, .load none (.tmp 4), some (22, false)⟩,
  ⟨some 24, .call (.cst (.func (.func 24) [] [])) [(.tmp 23), (.cst (.int .i64 0)), (.cst (.int .i64 2147483647))], some (22, false)⟩,
  ⟨some 25, .un .not (.tmp 24), some (22, false)⟩,
  ⟨some 26, .pick (.tmp 22) (.cst (.bool true)) (.tmp 25), none⟩,
  ⟨some 5, .move (.tmp 26), none⟩])
 (.ret))⟩
theorem c43 : compF Try.prog gl false [] [] Try.f43 = some F43 := by kernel_rfl
/- tollhouse/policy.base$2 -/
def F44 : AFn := ⟨10, false, 3, [.tmp 3], .seq
 (.reg [⟨some 3, .move (.cst (.bool false)), none⟩])
 (.seq
 (.reg [⟨some 4, .load none (.tmp 0), none⟩,
  ⟨some 5, .load none (.tmp 1), none⟩,
  ⟨some 6, .bin .sub (.tmp 4) (.tmp 5), none⟩,
  ⟨some 7, .fieldAddr 4 1 (.tmp 2), none⟩,
  ⟨some 8, .load none (.tmp 7), none⟩,
  ⟨some 9, .bin .gtr (.tmp 6) (.tmp 8), none⟩,
  ⟨some 3, .move (.tmp 9), none⟩])
 (.ret))⟩
theorem c44 : compF Try.prog gl false [] [] Try.f44 = some F44 := by kernel_rfl
/- tollhouse/tollhouseref02.Fee -/
def F45 : AFn := ⟨22, true, 2, [.tmp 4, .tmp 5], .seq
 (.reg [⟨some 2, .box (.tmp 0), none⟩,
  ⟨some 4, .move (.cst (.int .i64 0)), none⟩,
  ⟨some 5, .move (.cst (.int .i64 0)), none⟩])
 (.seq
 (.seq
 (.reg [⟨some 6, .load (some 2) (.tmp 2), none⟩,
  ⟨some 7, .call (.cst (.func (.func 25) [] [])) [(.tmp 6)], none⟩,
  ⟨some 8, .un .not (.tmp 7), none⟩,
  ⟨some 9, .move (.tmp 8), none⟩,
  ⟨some 10, .move (.tmp 1), some (9, false)⟩,
  ⟨some 11, .bin .lss (.tmp 10) (.cst (.int .i64 0)), some (9, false)⟩,
  ⟨some 12, .pick (.tmp 9) (.cst (.bool true)) (.tmp 11), none⟩])
 (.cond (.tmp 12)
 (.seq
 (.reg [⟨some 4, .move (.cst (.int .i64 0)), none⟩,
  ⟨some 5, .move (.cst (.int .i64 1)), none⟩])
 (.ret))
 (.skip)))
 (.seq
 (.regQ [⟨some 13, .fieldAddr 0 1 (.tmp 2), none⟩,
  ⟨some 14, .load none (.tmp 13), none⟩,
  ⟨some 15, .move (.tmp 1), none⟩,
  ⟨some 16, .fieldAddr 1 1 (.tmp 2), none⟩,
  ⟨some 17, .load none (.tmp 16), none⟩,
  ⟨some 18, .call (.cst (.func (.func 48) [] [])) [(.tmp 15), (.tmp 17)], none⟩,
  ⟨some 19, .call (.cst (.func (.func 46) [] [])) [(.tmp 14), (.tmp 18)], none⟩,
  ⟨some 20, .extract (.tmp 19) 0, none⟩,
  ⟨some 21, .extract (.tmp 19) 1, none⟩,
  ⟨some 4, .move (.tmp 20), none⟩,
  ⟨some 5, .move (.tmp 21), none⟩])
 (.ret)))⟩
theorem c45 : compF Try.prog gl true [] [] Try.f45 = some F45 := by kernel_rfl
/- tollhouse/tollhouseref02.Add -/
def F46 : AFn := ⟨19, true, 2, [.tmp 4, .tmp 5], .seq
 (.reg [⟨some 4, .move (.cst (.int .i64 0)), none⟩,
  ⟨some 5, .move (.cst (.int .i64 0)), none⟩])
 (.seq
 (.seq
 (.reg [⟨some 6, .move (.tmp 0), none⟩,
  ⟨some 7, .bin .lss (.tmp 6) (.cst (.int .i64 0)), none⟩,
  ⟨some 8, .move (.tmp 7), none⟩,
  ⟨some 9, .move (.tmp 1), some (8, false)⟩,
  ⟨some 10, .bin .lss (.tmp 9) (.cst (.int .i64 0)), some (8, false)⟩,
  ⟨some 11, .pick (.tmp 8) (.cst (.bool true)) (.tmp 10), none⟩])
 (.cond (.tmp 11)
 (.seq
 (.reg [⟨some 4, .move (.cst (.int .i64 0)), none⟩,
  ⟨some 5, .move (.cst (.int .i64 1)), none⟩])
 (.ret))
 (.skip)))
 (.seq
 (.seq
 (.reg [⟨some 12, .move (.tmp 0), none⟩,
  ⟨some 13, .move (.tmp 1), none⟩,
  ⟨some 14, .bin .sub (.cst (.int .i64 9223372036854775807)) (.tmp 13), none⟩,
  ⟨some 15, .bin .gtr (.tmp 12) (.tmp 14), none⟩])
 (.cond (.tmp 15)
 (.seq
 (.reg [⟨some 4, .move (.cst (.int .i64 0)), none⟩,
  ⟨some 5, .move (.cst (.int .i64 20)), none⟩])
 (.ret))
 (.skip)))
 (.seq
 (.reg [⟨some 16, .move (.tmp 0), none⟩,
  ⟨some 17, .move (.tmp 1), none⟩,
  ⟨some 18, .bin .add (.tmp 16) (.tmp 17), none⟩,
  ⟨some 4, .move (.tmp 18), none⟩,
  ⟨some 5, .move (.cst (.int .i64 0)), none⟩])
 (.ret))))⟩
theorem c46 : compF Try.prog gl true [] [] Try.f46 = some F46 := by kernel_rfl
/- math/bits.LeadingZeros64 -/
def F47 : AFn := ⟨6, true, 1, [.tmp 2], .seq
 (.reg [⟨some 2, .move (.cst (.int .i64 0)), none⟩])
 (.seq
 (.reg [⟨some 3, .move (.tmp 0), none⟩,
  ⟨some 4, .call (.cst (.func (.func 49) [] [])) [(.tmp 3)], none⟩,
  ⟨some 5, .bin .sub (.cst (.int .i64 64)) (.tmp 4), none⟩,
  ⟨some 2, .move (.tmp 5), none⟩])
 (.ret))⟩
theorem c47 : compF Try.prog gl true [] [] Try.f47 = some F47 := by kernel_rfl
/- tollhouse/tollhouseref02.Part -/
def F48 : AFn := ⟨15, true, 2, [.tmp 4], .seq
 (.reg [⟨some 4, .move (.cst (.int .i64 0)), none⟩])
 (.seq
 (.reg [⟨some 5, .move (.tmp 0), none⟩,
  ⟨some 6, .bin .quo (.tmp 5) (.cst (.int .i64 1000000)), none⟩,
  ⟨some 7, .move (.tmp 1), none⟩,
  ⟨some 8, .bin .mul (.tmp 6) (.tmp 7), none⟩,
  ⟨some 9, .move (.tmp 0), none⟩,
  ⟨some 10, .bin .rem (.tmp 9) (.cst (.int .i64 1000000)), none⟩,
  ⟨some 11, .move (.tmp 1), none⟩,
  ⟨some 12, .bin .mul (.tmp 10) (.tmp 11), none⟩,
  ⟨some 13, .bin .quo (.tmp 12) (.cst (.int .i64 1000000)), none⟩,
  ⟨some 14, .bin .add (.tmp 8) (.tmp 13), none⟩,
  ⟨some 4, .move (.tmp 14), none⟩])
 (.ret))⟩
theorem c48 : compF Try.prog gl true [] [] Try.f48 = some F48 := by kernel_rfl
/- math/bits.Len64 -/
def F49 : AFn := ⟨25, true, 1, [.tmp 2], .seq
 (.reg [⟨some 2, .move (.cst (.int .i64 0)), none⟩])
 (.seq
 (.seq
 (.reg [⟨some 3, .move (.tmp 0), none⟩,
  ⟨some 4, .bin .geq (.tmp 3) (.cst (.int .u64 4294967296)), none⟩])
 (.cond (.tmp 4)
 (.seq
 (.reg [⟨some 5, .move (.tmp 0), none⟩,
  ⟨some 6, .bin .shr (.tmp 5) (.cst (.int .u64 32)), none⟩,
  ⟨some 0, .move (.tmp 6), none⟩])
 (.reg [⟨some 2, .move (.cst (.int .i64 32)), none⟩]))
 (.skip)))
 (.seq
 (.seq
 (.reg [⟨some 7, .move (.tmp 0), none⟩,
  ⟨some 8, .bin .geq (.tmp 7) (.cst (.int .u64 65536)), none⟩])
 (.cond (.tmp 8)
 (.seq
 (.reg [⟨some 9, .move (.tmp 0), none⟩,
  ⟨some 10, .bin .shr (.tmp 9) (.cst (.int .u64 16)), none⟩,
  ⟨some 0, .move (.tmp 10), none⟩])
 (.reg [⟨some 11, .move (.tmp 2), none⟩,
  ⟨some 12, .bin .add (.tmp 11) (.cst (.int .i64 16)), none⟩,
  ⟨some 2, .move (.tmp 12), none⟩]))
 (.skip)))
 (.seq
 (.seq
 (.reg [⟨some 13, .move (.tmp 0), none⟩,
  ⟨some 14, .bin .geq (.tmp 13) (.cst (.int .u64 256)), none⟩])
 (.cond (.tmp 14)
 (.seq
 (.reg [⟨some 15, .move (.tmp 0), none⟩,
  ⟨some 16, .bin .shr (.tmp 15) (.cst (.int .u64 8)), none⟩,
  ⟨some 0, .move (.tmp 16), none⟩])
 (.reg [⟨some 17, .move (.tmp 2), none⟩,
  ⟨some 18, .bin .add (.tmp 17) (.cst (.int .i64 8)), none⟩,
  ⟨some 2, .move (.tmp 18), none⟩]))
 (.skip)))
 (.seq
 (.reg [⟨some 19, .move (.tmp 2), none⟩,
  ⟨some 20, .move (.tmp 0), none⟩,
  ⟨some 21, .convInt .u8 (.tmp 20), none⟩,
  ⟨some 22, .indexStr (.cst (.sc (.string (bs [0, 1, 2, 2, 3, 3, 3, 3, 4, 4, 4, 4, 4, 4, 4, 4, 5, 5, 5, 5, 5, 5, 5, 5, 5, 5, 5, 5, 5, 5, 5, 5, 6, 6, 6, 6, 6, 6, 6, 6, 6, 6, 6, 6, 6, 6, 6, 6, 6, 6, 6, 6, 6, 6, 6, 6, 6, 6, 6, 6, 6, 6, 6, 6, 7, 7, 7, 7, 7, 7, 7, 7, 7, 7, 7, 7, 7, 7, 7, 7, 7, 7, 7, 7, 7, 7, 7, 7, 7, 7, 7, 7, 7, 7, 7, 7, 7, 7, 7, 7, 7, 7, 7, 7, 7, 7, 7, 7, 7, 7, 7, 7, 7, 7, 7, 7, 7, 7, 7, 7, 7, 7, 7, 7, 7, 7, 7, 7, 8, 8, 8, 8, 8, 8, 8, 8, 8, 8, 8, 8, 8, 8, 8, 8, 8, 8, 8, 8, 8, 8, 8, 8, 8, 8, 8, 8, 8, 8, 8, 8, 8, 8, 8, 8, 8, 8, 8, 8, 8, 8, 8, 8, 8, 8, 8, 8, 8, 8, 8, 8, 8, 8, 8, 8, 8, 8, 8, 8, 8, 8, 8, 8, 8, 8, 8, 8, 8, 8, 8, 8, 8, 8, 8, 8, 8, 8, 8, 8, 8, 8, 8, 8, 8, 8, 8, 8, 8, 8, 8, 8, 8, 8, 8, 8, 8, 8, 8, 8, 8, 8, 8, 8, 8, 8, 8, 8, 8, 8, 8, 8, 8, 8, 8, 8, 8, 8, 8, 8, 8, 8, 8, 8, 8, 8, 8, 8])))) (.tmp 21), none⟩,
  ⟨some 23, .convInt .i64 (.tmp 22), none⟩,
  ⟨some 24, .bin .add (.tmp 19) (.tmp 23), none⟩,
  ⟨some 2, .move (.tmp 24), none⟩])
 (.ret)))))⟩
theorem c49 : compF Try.prog gl true [] [] Try.f49 = some F49 := by kernel_rfl
def fns : List (Nat × AFn) := [(3, F3), (4, F4), (5, F5), (6, F6), (7, F7), (8, F8), (9, F9), (10, F10), (11, F11), (12, F12), (13, F13), (14, F14), (15, F15), (16, F16), (17, F17), (18, F18), (19, F19), (20, F20), (21, F21), (22, F22), (23, F23), (24, F24), (25, F25), (26, F26), (27, F27), (28, F28), (29, F29), (30, F30), (31, F31), (32, F32), (33, F33), (34, F34), (35, F35), (36, F36), (37, F37), (38, F38), (39, F39), (40, F40), (41, F41), (42, F42), (43, F43), (44, F44), (45, F45), (46, F46), (47, F47), (48, F48), (49, F49)]
def T : Tab := ⟨fun _ => none, fun n => fns.lookup n⟩
theorem lookup_mem {f : Nat} {F : AFn} : ∀ {l : List (Nat × AFn)}, l.lookup f = some F → (f, F) ∈ l
  | [], h => by cases h
  | (g, G) :: r, h => by
    rw [List.lookup_cons] at h
    split at h
    · rename_i hb; cases h; rw [eq_of_beq hb]; exact List.mem_cons_self
    · exact List.mem_cons_of_mem _ (lookup_mem h)
theorem fnsOK : ∀ p ∈ fns, FnOK Try.prog gl p.1 p.2 := by
  intro p hp
  simp only [fns, List.mem_cons, List.not_mem_nil, or_false] at hp
  rcases hp with rfl | rfl | rfl | rfl | rfl | rfl | rfl | rfl | rfl | rfl | rfl | rfl | rfl | rfl | rfl | rfl | rfl | rfl | rfl | rfl | rfl | rfl | rfl | rfl | rfl | rfl | rfl | rfl | rfl | rfl | rfl | rfl | rfl | rfl | rfl | rfl | rfl | rfl | rfl | rfl | rfl | rfl | rfl | rfl | rfl | rfl | rfl
  · exact ⟨_, _, _, _, Try.func3, c3⟩
  · exact ⟨_, _, _, _, Try.func4, c4⟩
  · exact ⟨_, _, _, _, Try.func5, c5⟩
  · exact ⟨_, _, _, _, Try.func6, c6⟩
  · exact ⟨_, _, _, _, Try.func7, c7⟩
  · exact ⟨_, _, _, _, Try.func8, c8⟩
  · exact ⟨_, _, _, _, Try.func9, c9⟩
  · exact ⟨_, _, _, _, Try.func10, c10⟩
  · exact ⟨_, _, _, _, Try.func11, c11⟩
  · exact ⟨_, _, _, _, Try.func12, c12⟩
  · exact ⟨_, _, _, _, Try.func13, c13⟩
  · exact ⟨_, _, _, _, Try.func14, c14⟩
  · exact ⟨_, _, _, _, Try.func15, c15⟩
  · exact ⟨_, _, _, _, Try.func16, c16⟩
  · exact ⟨_, _, _, _, Try.func17, c17⟩
  · exact ⟨_, _, _, _, Try.func18, c18⟩
  · exact ⟨_, _, _, _, Try.func19, c19⟩
  · exact ⟨_, _, _, _, Try.func20, c20⟩
  · exact ⟨_, _, _, _, Try.func21, c21⟩
  · exact ⟨_, _, _, _, Try.func22, c22⟩
  · exact ⟨_, _, _, _, Try.func23, c23⟩
  · exact ⟨_, _, _, _, Try.func24, c24⟩
  · exact ⟨_, _, _, _, Try.func25, c25⟩
  · exact ⟨_, _, _, _, Try.func26, c26⟩
  · exact ⟨_, _, _, _, Try.func27, c27⟩
  · exact ⟨_, _, _, _, Try.func28, c28⟩
  · exact ⟨_, _, _, _, Try.func29, c29⟩
  · exact ⟨_, _, _, _, Try.func30, c30⟩
  · exact ⟨_, _, _, _, Try.func31, c31⟩
  · exact ⟨_, _, _, _, Try.func32, c32⟩
  · exact ⟨_, _, _, _, Try.func33, c33⟩
  · exact ⟨_, _, _, _, Try.func34, c34⟩
  · exact ⟨_, _, _, _, Try.func35, c35⟩
  · exact ⟨_, _, _, _, Try.func36, c36⟩
  · exact ⟨_, _, _, _, Try.func37, c37⟩
  · exact ⟨_, _, _, _, Try.func38, c38⟩
  · exact ⟨_, _, _, _, Try.func39, c39⟩
  · exact ⟨_, _, _, _, Try.func40, c40⟩
  · exact ⟨_, _, _, _, Try.func41, c41⟩
  · exact ⟨_, _, _, _, Try.func42, c42⟩
  · exact ⟨_, _, _, _, Try.func43, c43⟩
  · exact ⟨_, _, _, _, Try.func44, c44⟩
  · exact ⟨_, _, _, _, Try.func45, c45⟩
  · exact ⟨_, _, _, _, Try.func46, c46⟩
  · exact ⟨_, _, _, _, Try.func47, c47⟩
  · exact ⟨_, _, _, _, Try.func48, c48⟩
  · exact ⟨_, _, _, _, Try.func49, c49⟩
theorem tabOK : TabOK Try.prog gl T := ⟨fun f g h => (by cases h), fun f F h => fnsOK (f, F) (lookup_mem h)⟩
theorem mixed : Try.prog.follows .mixedOrders = true := by kernel_rfl
theorem t3 : T.fn 3 = some F3 := rfl
theorem t4 : T.fn 4 = some F4 := rfl
theorem t5 : T.fn 5 = some F5 := rfl
theorem t6 : T.fn 6 = some F6 := rfl
theorem t7 : T.fn 7 = some F7 := rfl
theorem t8 : T.fn 8 = some F8 := rfl
theorem t9 : T.fn 9 = some F9 := rfl
theorem t10 : T.fn 10 = some F10 := rfl
theorem t11 : T.fn 11 = some F11 := rfl
theorem t12 : T.fn 12 = some F12 := rfl
theorem t13 : T.fn 13 = some F13 := rfl
theorem t14 : T.fn 14 = some F14 := rfl
theorem t15 : T.fn 15 = some F15 := rfl
theorem t16 : T.fn 16 = some F16 := rfl
theorem t17 : T.fn 17 = some F17 := rfl
theorem t18 : T.fn 18 = some F18 := rfl
theorem t19 : T.fn 19 = some F19 := rfl
theorem t20 : T.fn 20 = some F20 := rfl
theorem t21 : T.fn 21 = some F21 := rfl
theorem t22 : T.fn 22 = some F22 := rfl
theorem t23 : T.fn 23 = some F23 := rfl
theorem t24 : T.fn 24 = some F24 := rfl
theorem t25 : T.fn 25 = some F25 := rfl
theorem t26 : T.fn 26 = some F26 := rfl
theorem t27 : T.fn 27 = some F27 := rfl
theorem t28 : T.fn 28 = some F28 := rfl
theorem t29 : T.fn 29 = some F29 := rfl
theorem t30 : T.fn 30 = some F30 := rfl
theorem t31 : T.fn 31 = some F31 := rfl
theorem t32 : T.fn 32 = some F32 := rfl
theorem t33 : T.fn 33 = some F33 := rfl
theorem t34 : T.fn 34 = some F34 := rfl
theorem t35 : T.fn 35 = some F35 := rfl
theorem t36 : T.fn 36 = some F36 := rfl
theorem t37 : T.fn 37 = some F37 := rfl
theorem t38 : T.fn 38 = some F38 := rfl
theorem t39 : T.fn 39 = some F39 := rfl
theorem t40 : T.fn 40 = some F40 := rfl
theorem t41 : T.fn 41 = some F41 := rfl
theorem t42 : T.fn 42 = some F42 := rfl
theorem t43 : T.fn 43 = some F43 := rfl
theorem t44 : T.fn 44 = some F44 := rfl
theorem t45 : T.fn 45 = some F45 := rfl
theorem t46 : T.fn 46 = some F46 := rfl
theorem t47 : T.fn 47 = some F47 := rfl
theorem t48 : T.fn 48 = some F48 := rfl
theorem t49 : T.fn 49 = some F49 := rfl
theorem p3 : T.pure 3 = true := rfl
theorem p4 : T.pure 4 = true := rfl
theorem p5 : T.pure 5 = true := rfl
theorem p6 : T.pure 6 = true := rfl
theorem p7 : T.pure 7 = true := rfl
theorem p8 : T.pure 8 = true := rfl
theorem p9 : T.pure 9 = true := rfl
theorem p10 : T.pure 10 = true := rfl
theorem p11 : T.pure 11 = true := rfl
theorem p12 : T.pure 12 = true := rfl
theorem p13 : T.pure 13 = true := rfl
theorem p14 : T.pure 14 = true := rfl
theorem p15 : T.pure 15 = true := rfl
theorem p16 : T.pure 16 = true := rfl
theorem p17 : T.pure 17 = true := rfl
theorem p18 : T.pure 18 = true := rfl
theorem p19 : T.pure 19 = true := rfl
theorem p20 : T.pure 20 = true := rfl
theorem p21 : T.pure 21 = true := rfl
theorem p22 : T.pure 22 = true := rfl
theorem p23 : T.pure 23 = true := rfl
theorem p24 : T.pure 24 = true := rfl
theorem p25 : T.pure 25 = true := rfl
theorem p27 : T.pure 27 = true := rfl
theorem p32 : T.pure 32 = true := rfl
theorem p33 : T.pure 33 = true := rfl
theorem p34 : T.pure 34 = true := rfl
theorem p35 : T.pure 35 = true := rfl
theorem p39 : T.pure 39 = true := rfl
theorem p40 : T.pure 40 = true := rfl
theorem p41 : T.pure 41 = true := rfl
theorem p42 : T.pure 42 = true := rfl
theorem p45 : T.pure 45 = true := rfl
theorem p46 : T.pure 46 = true := rfl
theorem p47 : T.pure 47 = true := rfl
theorem p48 : T.pure 48 = true := rfl
theorem p49 : T.pure 49 = true := rfl
end Go.Proofs.Ytakgaofemfpakaa.AM
