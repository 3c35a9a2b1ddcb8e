import Derived.Test.YtpnkldjbiinnpaaAmN
import Derived.Test.YtpnkldjbiinnpaaAmN
import Derived.Test.YtpnkldjbiinnpaaGrow
/- The functions for the plain machine (printed by gen2.py). -/
namespace Go.Proofs.Ytpnkldjbiinnpaa.AM
open Go
set_option maxRecDepth 100000
set_option linter.unusedSimpArgs false
set_option linter.unusedVariables false
def bs (l : List Nat) : ByteArray := ⟨(l.map UInt8.ofNat).toArray⟩
def gl : Nat → Option (List Value) := fun _ => none
/- tollhouse/tollhouselaw01.BigsizeNumbers -/
def F3 : AFn := ⟨70, true, 3, [.tmp 6], .seq
 (.reg [⟨some 6, .move (.cst (.bool false)), none⟩])
 (.seq
 (.reg [⟨some 13, .buildSlice none (.int .u8 0) 0 [], none⟩,
  ⟨some 14, .move (.tmp 1), none⟩,
  ⟨some 15, .append none 1 (.tmp 13) (.tmp 14), none⟩,
  ⟨some 7, .move (.tmp 15), none⟩])
 (.seq
 (.reg [⟨some 16, .move (.tmp 7), none⟩,
  ⟨some 17, .move (.tmp 0), none⟩,
  ⟨some 18, .call (.cst (.func (.func 11) [] [])) [(.tmp 16), (.tmp 17)], none⟩,
  ⟨some 8, .move (.tmp 18), none⟩])
 (.seq
 (.reg [⟨some 19, .move (.tmp 0), none⟩,
  ⟨some 20, .call (.cst (.func (.func 12) [] [])) [(.tmp 19)], none⟩,
  ⟨some 9, .move (.tmp 20), none⟩])
 (.seq
 (.seq
 (.reg [⟨some 21, .call (.cst (.func (.func 13) [] [])) [], none⟩,
  ⟨some 22, .un .not (.tmp 21), none⟩,
  ⟨some 23, .move (.tmp 22), none⟩,
  ⟨some 24, .move (.tmp 8), some (23, false)⟩,
  ⟨some 25, .convStr (.tmp 24), some (23, false)⟩,
  ⟨some 26, .move (.tmp 1), some (23, false)⟩,
  ⟨some 27, .convStr (.tmp 26), some (23, false)⟩,
  ⟨some 28, .move (.tmp 9), some (23, false)⟩,
  ⟨some 29, .convStr (.tmp 28), some (23, false)⟩,
  ⟨some 30, .bin .add (.tmp 27) (.tmp 29), some (23, false)⟩,
  ⟨some 31, .bin .neq (.tmp 25) (.tmp 30), some (23, false)⟩,
  ⟨some 32, .pick (.tmp 23) (.cst (.bool true)) (.tmp 31), none⟩,
  ⟨some 33, .move (.tmp 32), none⟩,
  ⟨some 34, .move (.tmp 7), some (33, false)⟩,
  ⟨some 35, .convStr (.tmp 34), some (33, false)⟩,
  ⟨some 36, .move (.tmp 1), some (33, false)⟩,
  ⟨some 37, .convStr (.tmp 36), some (33, false)⟩,
  ⟨some 38, .bin .neq (.tmp 35) (.tmp 37), some (33, false)⟩,
  ⟨some 39, .pick (.tmp 33) (.cst (.bool true)) (.tmp 38), none⟩,
  ⟨some 40, .move (.tmp 39), none⟩,
  ⟨some 41, .move (.tmp 0), some (40, false)⟩,
  ⟨some 42, .call (.cst (.func (.func 14) [] [])) [(.tmp 41)], some (40, false)⟩,
  ⟨some 43, .move (.tmp 9), some (40, false)⟩,
  ⟨some 44, .len (.tmp 43), some (40, false)⟩,
  ⟨some 45, .bin .neq (.tmp 42) (.tmp 44), some (40, false)⟩,
  ⟨some 46, .pick (.tmp 40) (.cst (.bool true)) (.tmp 45), none⟩])
 (.cond (.tmp 46)
 (.seq
 (.reg [⟨some 6, .move (.cst (.bool false)), none⟩])
 (.ret))
 (.skip)))
 (.seq
 (.reg [⟨some 48, .buildSlice none (.int .u8 0) 0 [], none⟩,
  ⟨some 49, .move (.tmp 9), none⟩,
  ⟨some 50, .append none 1 (.tmp 48) (.tmp 49), none⟩,
  ⟨some 51, .move (.tmp 2), none⟩,
  ⟨some 52, .append none 1 (.tmp 50) (.tmp 51), none⟩,
  ⟨some 53, .call (.cst (.func (.func 15) [] [])) [(.tmp 52)], none⟩,
  ⟨some 47, .move (.tmp 53), none⟩,
  ⟨some 54, .extract (.tmp 47) 0, none⟩,
  ⟨some 55, .extract (.tmp 47) 1, none⟩,
  ⟨some 56, .extract (.tmp 47) 2, none⟩,
  ⟨some 10, .move (.tmp 54), none⟩,
  ⟨some 11, .move (.tmp 55), none⟩,
  ⟨some 12, .move (.tmp 56), none⟩])
 (.seq
 (.reg [⟨some 57, .move (.tmp 12), none⟩,
  ⟨some 58, .bin .eql (.tmp 57) (.cst (.int .i64 0)), none⟩,
  ⟨some 59, .move (.tmp 58), none⟩,
  ⟨some 60, .move (.tmp 10), some (59, true)⟩,
  ⟨some 61, .move (.tmp 0), some (59, true)⟩,
  ⟨some 62, .bin .eql (.tmp 60) (.tmp 61), some (59, true)⟩,
  ⟨some 63, .pick (.tmp 59) (.tmp 62) (.cst (.bool false)), none⟩,
  ⟨some 64, .move (.tmp 63), none⟩,
  ⟨some 65, .move (.tmp 11), some (64, true)⟩,
  ⟨some 66, .move (.tmp 9), some (64, true)⟩,
  ⟨some 67, .len (.tmp 66), some (64, true)⟩,
  ⟨some 68, .bin .eql (.tmp 65) (.tmp 67), some (64, true)⟩,
  ⟨some 69, .pick (.tmp 64) (.tmp 68) (.cst (.bool false)), none⟩,
  ⟨some 6, .move (.tmp 69), none⟩])
 (.ret)))))))⟩
theorem c3 : compF Try.prog gl true [] [] Try.f3 = some F3 := by kernel_rfl
/- tollhouse/tollhouselaw01.BigsizeReads -/
def F4 : AFn := ⟨48, true, 1, [.tmp 2], .seq
 (.reg [⟨some 2, .move (.cst (.bool false)), none⟩])
 (.seq
 (.reg [⟨some 10, .buildSlice none (.int .u8 0) 0 [], none⟩,
  ⟨some 11, .move (.tmp 0), none⟩,
  ⟨some 12, .append none 1 (.tmp 10) (.tmp 11), none⟩,
  ⟨some 3, .move (.tmp 12), none⟩])
 (.seq
 (.reg [⟨some 14, .move (.tmp 3), none⟩,
  ⟨some 15, .call (.cst (.func (.func 15) [] [])) [(.tmp 14)], none⟩,
  ⟨some 13, .move (.tmp 15), none⟩,
  ⟨some 16, .extract (.tmp 13) 0, none⟩,
  ⟨some 17, .extract (.tmp 13) 1, none⟩,
  ⟨some 18, .extract (.tmp 13) 2, none⟩,
  ⟨some 4, .move (.tmp 16), none⟩,
  ⟨some 5, .move (.tmp 17), none⟩,
  ⟨some 6, .move (.tmp 18), none⟩])
 (.seq
 (.reg [⟨some 20, .move (.tmp 0), none⟩,
  ⟨some 21, .call (.cst (.func (.func 16) [] [])) [(.tmp 20)], none⟩,
  ⟨some 19, .move (.tmp 21), none⟩,
  ⟨some 22, .extract (.tmp 19) 0, none⟩,
  ⟨some 23, .extract (.tmp 19) 1, none⟩,
  ⟨some 24, .extract (.tmp 19) 2, none⟩,
  ⟨some 7, .move (.tmp 22), none⟩,
  ⟨some 8, .move (.tmp 23), none⟩,
  ⟨some 9, .move (.tmp 24), none⟩])
 (.seq
 (.reg [⟨some 25, .call (.cst (.func (.func 13) [] [])) [], none⟩,
  ⟨some 26, .move (.tmp 25), none⟩,
  ⟨some 27, .move (.tmp 4), some (26, true)⟩,
  ⟨some 28, .move (.tmp 7), some (26, true)⟩,
  ⟨some 29, .bin .eql (.tmp 27) (.tmp 28), some (26, true)⟩,
  ⟨some 30, .pick (.tmp 26) (.tmp 29) (.cst (.bool false)), none⟩,
  ⟨some 31, .move (.tmp 30), none⟩,
  ⟨some 32, .move (.tmp 5), some (31, true)⟩,
  ⟨some 33, .move (.tmp 8), some (31, true)⟩,
  ⟨some 34, .bin .eql (.tmp 32) (.tmp 33), some (31, true)⟩,
  ⟨some 35, .pick (.tmp 31) (.tmp 34) (.cst (.bool false)), none⟩,
  ⟨some 36, .move (.tmp 35), none⟩,
  ⟨some 37, .move (.tmp 6), some (36, true)⟩,
  ⟨some 38, .move (.tmp 9), some (36, true)⟩,
  ⟨some 39, .bin .eql (.tmp 37) (.tmp 38), some (36, true)⟩,
  ⟨some 40, .pick (.tmp 36) (.tmp 39) (.cst (.bool false)), none⟩,
  ⟨some 41, .move (.tmp 40), none⟩,
  ⟨some 42, .move (.tmp 3), some (41, true)⟩,
  ⟨some 43, .convStr (.tmp 42), some (41, true)⟩,
  ⟨some 44, .move (.tmp 0), some (41, true)⟩,
  ⟨some 45, .convStr (.tmp 44), some (41, true)⟩,
  ⟨some 46, .bin .eql (.tmp 43) (.tmp 45), some (41, true)⟩,
  ⟨some 47, .pick (.tmp 41) (.tmp 46) (.cst (.bool false)), none⟩,
  ⟨some 2, .move (.tmp 47), none⟩])
 (.ret)))))⟩
theorem c4 : compF Try.prog gl true [] [] Try.f4 = some F4 := by kernel_rfl
/- tollhouse/tollhouselaw01.BigsizeOrders -/
def F5 : AFn := ⟨56, true, 2, [.tmp 4], .seq
 (.reg [⟨some 4, .move (.cst (.bool false)), none⟩])
 (.seq
 (.seq
 (.reg [⟨some 7, .move (.tmp 0), none⟩,
  ⟨some 8, .move (.tmp 1), none⟩,
  ⟨some 9, .bin .gtr (.tmp 7) (.tmp 8), none⟩])
 (.cond (.tmp 9)
 (.reg [⟨some 10, .move (.tmp 1), none⟩,
  ⟨some 11, .move (.tmp 0), none⟩,
  ⟨some 0, .move (.tmp 10), none⟩,
  ⟨some 1, .move (.tmp 11), none⟩])
 (.skip)))
 (.seq
 (.reg [⟨some 12, .move (.tmp 0), none⟩,
  ⟨some 13, .call (.cst (.func (.func 11) [] [])) [(.cst .nil), (.tmp 12)], none⟩,
  ⟨some 14, .move (.tmp 1), none⟩,
  ⟨some 15, .call (.cst (.func (.func 11) [] [])) [(.cst .nil), (.tmp 14)], none⟩,
  ⟨some 5, .move (.tmp 13), none⟩,
  ⟨some 6, .move (.tmp 15), none⟩])
 (.seq
 (.reg [⟨some 16, .call (.cst (.func (.func 13) [] [])) [], none⟩,
  ⟨some 17, .move (.tmp 16), none⟩,
  ⟨some 18, .move (.tmp 5), some (17, true)⟩,
  ⟨some 19, .len (.tmp 18), some (17, true)⟩,
  ⟨some 20, .move (.tmp 6), some (17, true)⟩,
  ⟨some 21, .len (.tmp 20), some (17, true)⟩,
  ⟨some 22, .bin .leq (.tmp 19) (.tmp 21), some (17, true)⟩,
  ⟨some 23, .pick (.tmp 17) (.tmp 22) (.cst (.bool false)), none⟩,
  ⟨some 24, .move (.tmp 23), none⟩,
  ⟨some 25, .move (.tmp 5), some (24, true)⟩,
  ⟨some 26, .len (.tmp 25), some (24, true)⟩,
  ⟨some 27, .move (.tmp 0), some (24, true)⟩,
  ⟨some 28, .call (.cst (.func (.func 14) [] [])) [(.tmp 27)], some (24, true)⟩,
  ⟨some 29, .bin .eql (.tmp 26) (.tmp 28), some (24, true)⟩,
  ⟨some 30, .pick (.tmp 24) (.tmp 29) (.cst (.bool false)), none⟩,
  ⟨some 31, .move (.tmp 30), none⟩,
  ⟨some 32, .move (.tmp 5), some (31, true)⟩,
  ⟨some 33, .len (.tmp 32), some (31, true)⟩,
  ⟨some 34, .move (.tmp 6), some (31, true)⟩,
  ⟨some 35, .len (.tmp 34), some (31, true)⟩,
  ⟨some 36, .bin .neq (.tmp 33) (.tmp 35), some (31, true)⟩,
  ⟨some 37, .move (.tmp 36), some (31, true)⟩,
  ⟨some 38, .move (.tmp 5), some (37, false)⟩,
  ⟨some 39, .convStr (.tmp 38), some (37, false)⟩,
  ⟨some 40, .move (.tmp 6), some (37, false)⟩,
  ⟨some 41, .convStr (.tmp 40), some (37, false)⟩,
  ⟨some 42, .bin .leq (.tmp 39) (.tmp 41), some (37, false)⟩,
  ⟨some 43, .pick (.tmp 37) (.cst (.bool true)) (.tmp 42), some (31, true)⟩,
  ⟨some 44, .pick (.tmp 31) (.tmp 43) (.cst (.bool false)), none⟩,
  ⟨some 45, .move (.tmp 44), none⟩,
  ⟨some 46, .move (.tmp 0), some (45, true)⟩,
  ⟨some 47, .move (.tmp 1), some (45, true)⟩,
  ⟨some 48, .bin .eql (.tmp 46) (.tmp 47), some (45, true)⟩,
  ⟨some 49, .move (.tmp 5), some (45, true)⟩,
  ⟨some 50, .convStr (.tmp 49), some (45, true)⟩,
  ⟨some 51, .move (.tmp 6), some (45, true)⟩,
  ⟨some 52, .convStr (.tmp 51), some (45, true)⟩,
  ⟨some 53, .bin .eql (.tmp 50) (.tmp 52), some (45, true)⟩,
  ⟨some 54, .eqBool false (.tmp 48) (.tmp 53), some (45, true)⟩,
  ⟨some 55, .pick (.tmp 45) (.tmp 54) (.cst (.bool false)), none⟩,
  ⟨some 4, .move (.tmp 55), none⟩])
 (.ret))))⟩
theorem c5 : compF Try.prog gl true [] [] Try.f5 = some F5 := by kernel_rfl
def L6_0 : AC := .seq
 (.seq
 (.reg [⟨some 14, .move (.tmp 7), none⟩,
  ⟨some 15, .move (.tmp 0), none⟩,
  ⟨some 16, .len (.tmp 15), none⟩,
  ⟨some 17, .bin .lss (.tmp 14) (.tmp 16), none⟩])
 (.cond (.tmp 17)
 (.skip)
 (.exit 0)))
 (.seq
 (.block 1
 (.seq
 (.reg [⟨some 20, .move (.tmp 0), none⟩,
  ⟨some 21, .move (.tmp 7), none⟩,
  ⟨some 22, .indexAddr .slice (some 2) (.tmp 20) (.tmp 21), none⟩,
  ⟨some 23, .fieldAddr 0 1 (.tmp 22), none⟩,
  ⟨some 24, .load none (.tmp 23), none⟩,
  ⟨some 25, .move (.tmp 1), none⟩,
  ⟨some 26, .bin .eql (.tmp 24) (.tmp 25), none⟩])
 (.cond (.tmp 26)
 (.seq
 (.regD [⟨some 27, .call (.cst (.func (.func 13) [] [])) [], none⟩,
  ⟨some 28, .move (.tmp 27), none⟩,
  ⟨some 29, .move (.tmp 6), some (28, true)⟩,
  ⟨some 30, .pick (.tmp 28) (.tmp 29) (.cst (.bool false)), none⟩,
  ⟨some 31, .move (.tmp 30), none⟩,
  ⟨some 32, .move (.tmp 5), some (31, true)⟩,
  ⟨some 33, .convStr (.tmp 32), some (31, true)⟩,
  ⟨some 34, .move (.tmp 0), some (31, true)⟩,
  ⟨some 35, .move (.tmp 7), some (31, true)⟩,
  ⟨some 36, .indexAddr .slice (some 2) (.tmp 34) (.tmp 35), some (31, true)⟩,
  ⟨some 37, .fieldAddr 1 1 (.tmp 36), some (31, true)⟩,
  ⟨some 38, .load none (.tmp 37), some (31, true)⟩,
  ⟨some 39, .convStr (.tmp 38), some (31, true)⟩,
  ⟨some 40, .bin .eql (.tmp 33) (.tmp 39), some (31, true)⟩,
  ⟨some 41, .pick (.tmp 31) (.tmp 40) (.cst (.bool false)), none⟩,
  ⟨some 4, .move (.tmp 41), none⟩] [(0, 0), (1, 1), (1, 1), (1, 1), (1, 1), (1, 1), (1, 1), (1, 1), (1, 1), (1, 1), (1, 1), (1, 1), (1, 1), (1, 1), (1, 1), (1, 1)])
 (.ret))
 (.skip))))
 (.reg [⟨some 18, .move (.tmp 7), none⟩,
  ⟨some 19, .bin .add (.tmp 18) (.cst (.int .i64 1)), none⟩,
  ⟨some 7, .move (.tmp 19), none⟩]))
/- tollhouse/tollhouselaw01.BigsizeFinds -/
def F6 : AFn := ⟨52, true, 2, [.tmp 4], .seq
 (.reg [⟨some 4, .move (.cst (.bool false)), none⟩])
 (.seq
 (.reg [⟨some 9, .move (.tmp 0), none⟩,
  ⟨some 10, .move (.tmp 1), none⟩,
  ⟨some 11, .call (.cst (.func (.func 17) [] [])) [(.tmp 9), (.tmp 10)], none⟩,
  ⟨some 8, .move (.tmp 11), none⟩,
  ⟨some 12, .extract (.tmp 8) 0, none⟩,
  ⟨some 13, .extract (.tmp 8) 1, none⟩,
  ⟨some 5, .move (.tmp 12), none⟩,
  ⟨some 6, .move (.tmp 13), none⟩])
 (.seq
 (.seq
 (.reg [⟨some 7, .move (.cst (.int .i64 0)), none⟩])
 (.block 0
 (.loop [0, 1, 5, 6, 7] true L6_0)))
 (.seq
 (.reg [⟨some 42, .call (.cst (.func (.func 13) [] [])) [], none⟩,
  ⟨some 43, .move (.tmp 42), none⟩,
  ⟨some 44, .move (.tmp 6), some (43, true)⟩,
  ⟨some 45, .un .not (.tmp 44), some (43, true)⟩,
  ⟨some 46, .pick (.tmp 43) (.tmp 45) (.cst (.bool false)), none⟩,
  ⟨some 47, .move (.tmp 46), none⟩,
  ⟨some 48, .move (.tmp 5), some (47, true)⟩,
  ⟨some 49, .len (.tmp 48), some (47, true)⟩,
  ⟨some 50, .bin .eql (.tmp 49) (.cst (.int .i64 0)), some (47, true)⟩,
  ⟨some 51, .pick (.tmp 47) (.tmp 50) (.cst (.bool false)), none⟩,
  ⟨some 4, .move (.tmp 51), none⟩])
 (.ret))))⟩
theorem c6 : compF Try.prog gl true [] [([0, 1, 5, 6, 7], true)] Try.f6 = some F6 := by kernel_rfl
/- tollhouse/tollhouselaw01.BigsizeJoins -/
def F7 : AFn := ⟨65, true, 2, [.tmp 4], .seq
 (.reg [⟨some 4, .move (.cst (.bool false)), none⟩])
 (.seq
 (.reg [⟨some 12, .move (.tmp 0), none⟩,
  ⟨some 13, .call (.cst (.func (.func 18) [] [])) [(.tmp 12)], none⟩,
  ⟨some 11, .move (.tmp 13), none⟩,
  ⟨some 14, .extract (.tmp 11) 0, none⟩,
  ⟨some 15, .extract (.tmp 11) 1, none⟩,
  ⟨some 5, .move (.tmp 14), none⟩,
  ⟨some 6, .move (.tmp 15), none⟩])
 (.seq
 (.seq
 (.reg [⟨some 16, .call (.cst (.func (.func 13) [] [])) [], none⟩,
  ⟨some 17, .un .not (.tmp 16), none⟩])
 (.cond (.tmp 17)
 (.seq
 (.reg [⟨some 4, .move (.cst (.bool false)), none⟩])
 (.ret))
 (.skip)))
 (.seq
 (.seq
 (.reg [⟨some 18, .move (.tmp 6), none⟩,
  ⟨some 19, .bin .neq (.tmp 18) (.cst (.int .i64 0)), none⟩])
 (.cond (.tmp 19)
 (.seq
 (.reg [⟨some 20, .move (.tmp 5), none⟩,
  ⟨some 21, .len (.tmp 20), none⟩,
  ⟨some 22, .bin .eql (.tmp 21) (.cst (.int .i64 0)), none⟩,
  ⟨some 4, .move (.tmp 22), none⟩])
 (.ret))
 (.skip)))
 (.seq
 (.reg [⟨some 7, .move (.cst (.int .i64 0)), none⟩])
 (.seq
 (.seq
 (.reg [⟨some 23, .move (.tmp 0), none⟩,
  ⟨some 24, .len (.tmp 23), none⟩,
  ⟨some 25, .bin .gtr (.tmp 24) (.cst (.int .i64 0)), none⟩])
 (.cond (.tmp 25)
 (.reg [⟨some 26, .move (.tmp 1), none⟩,
  ⟨some 27, .move (.tmp 0), none⟩,
  ⟨some 28, .len (.tmp 27), none⟩,
  ⟨some 29, .bin .add (.tmp 28) (.cst (.int .i64 1)), none⟩,
  ⟨some 30, .bin .rem (.tmp 26) (.tmp 29), none⟩,
  ⟨some 7, .move (.tmp 30), none⟩])
 (.skip)))
 (.seq
 (.seq
 (.reg [⟨some 31, .move (.tmp 7), none⟩,
  ⟨some 32, .bin .lss (.tmp 31) (.cst (.int .i64 0)), none⟩])
 (.cond (.tmp 32)
 (.reg [⟨some 33, .move (.tmp 7), none⟩,
  ⟨some 34, .un .neg (.tmp 33), none⟩,
  ⟨some 7, .move (.tmp 34), none⟩])
 (.skip)))
 (.seq
 (.reg [⟨some 36, .move (.tmp 0), none⟩,
  ⟨some 37, .move (.tmp 7), none⟩,
  ⟨some 38, .slice .slice (some 2) (.tmp 36) none (some (.tmp 37)) none, none⟩,
  ⟨some 39, .call (.cst (.func (.func 18) [] [])) [(.tmp 38)], none⟩,
  ⟨some 35, .move (.tmp 39), none⟩,
  ⟨some 40, .extract (.tmp 35) 0, none⟩,
  ⟨some 41, .extract (.tmp 35) 1, none⟩,
  ⟨some 8, .move (.tmp 40), none⟩,
  ⟨some 6, .move (.tmp 41), none⟩])
 (.seq
 (.reg [⟨some 43, .move (.tmp 0), none⟩,
  ⟨some 44, .move (.tmp 7), none⟩,
  ⟨some 45, .slice .slice (some 2) (.tmp 43) (some (.tmp 44)) none none, none⟩,
  ⟨some 46, .call (.cst (.func (.func 18) [] [])) [(.tmp 45)], none⟩,
  ⟨some 42, .move (.tmp 46), none⟩,
  ⟨some 47, .extract (.tmp 42) 0, none⟩,
  ⟨some 48, .extract (.tmp 42) 1, none⟩,
  ⟨some 9, .move (.tmp 47), none⟩,
  ⟨some 10, .move (.tmp 48), none⟩])
 (.seq
 (.reg [⟨some 49, .move (.tmp 6), none⟩,
  ⟨some 50, .bin .eql (.tmp 49) (.cst (.int .i64 0)), none⟩,
  ⟨some 51, .move (.tmp 50), none⟩,
  ⟨some 52, .move (.tmp 10), some (51, true)⟩,
  ⟨some 53, .bin .eql (.tmp 52) (.cst (.int .i64 0)), some (51, true)⟩,
  ⟨some 54, .pick (.tmp 51) (.tmp 53) (.cst (.bool false)), none⟩,
  ⟨some 55, .move (.tmp 54), none⟩,
  ⟨some 56, .move (.tmp 8), some (55, true)⟩,
  ⟨some 57, .convStr (.tmp 56), some (55, true)⟩,
  ⟨some 58, .move (.tmp 9), some (55, true)⟩,
  ⟨some 59, .convStr (.tmp 58), some (55, true)⟩,
  ⟨some 60, .bin .add (.tmp 57) (.tmp 59), some (55, true)⟩,
  ⟨some 61, .move (.tmp 5), some (55, true)⟩,
  ⟨some 62, .convStr (.tmp 61), some (55, true)⟩,
  ⟨some 63, .bin .eql (.tmp 60) (.tmp 62), some (55, true)⟩,
  ⟨some 64, .pick (.tmp 55) (.tmp 63) (.cst (.bool false)), none⟩,
  ⟨some 4, .move (.tmp 64), none⟩])
 (.ret))))))))))⟩
theorem c7 : compF Try.prog gl true [] [] Try.f7 = some F7 := by kernel_rfl
def L8_0 : AC := .seq
 (.seq
 (.reg [⟨some 36, .move (.tmp 8), none⟩,
  ⟨some 37, .move (.tmp 0), none⟩,
  ⟨some 38, .len (.tmp 37), none⟩,
  ⟨some 39, .bin .lss (.tmp 36) (.tmp 38), none⟩])
 (.cond (.tmp 39)
 (.skip)
 (.exit 0)))
 (.seq
 (.block 1
 (.reg [⟨some 42, .move (.tmp 7), none⟩,
  ⟨some 43, .move (.tmp 0), none⟩,
  ⟨some 44, .move (.tmp 8), none⟩,
  ⟨some 45, .indexAddr .slice (some 2) (.tmp 43) (.tmp 44), none⟩,
  ⟨some 46, .fieldAddr 0 1 (.tmp 45), none⟩,
  ⟨some 47, .load none (.tmp 46), none⟩,
  ⟨some 48, .buildSlice none (.int .u64 0) 1 [(0, (.tmp 47))], none⟩,
  ⟨some 49, .append none 8 (.tmp 42) (.tmp 48), none⟩,
  ⟨some 7, .move (.tmp 49), none⟩]))
 (.reg [⟨some 40, .move (.tmp 8), none⟩,
  ⟨some 41, .bin .add (.tmp 40) (.cst (.int .i64 1)), none⟩,
  ⟨some 8, .move (.tmp 41), none⟩]))
/- tollhouse/tollhouselaw01.BigsizeStreams -/
def F8 : AFn := ⟨63, true, 1, [.tmp 2], .seq
 (.reg [⟨some 2, .move (.cst (.bool false)), none⟩])
 (.seq
 (.reg [⟨some 11, .move (.tmp 0), none⟩,
  ⟨some 12, .call (.cst (.func (.func 18) [] [])) [(.tmp 11)], none⟩,
  ⟨some 10, .move (.tmp 12), none⟩,
  ⟨some 13, .extract (.tmp 10) 0, none⟩,
  ⟨some 14, .extract (.tmp 10) 1, none⟩,
  ⟨some 3, .move (.tmp 13), none⟩,
  ⟨some 4, .move (.tmp 14), none⟩])
 (.seq
 (.reg [⟨some 16, .move (.tmp 0), none⟩,
  ⟨some 17, .call (.cst (.func (.func 19) [] [])) [(.tmp 16)], none⟩,
  ⟨some 15, .move (.tmp 17), none⟩,
  ⟨some 18, .extract (.tmp 15) 0, none⟩,
  ⟨some 19, .extract (.tmp 15) 1, none⟩,
  ⟨some 5, .move (.tmp 18), none⟩,
  ⟨some 6, .move (.tmp 19), none⟩])
 (.seq
 (.seq
 (.reg [⟨some 20, .call (.cst (.func (.func 13) [] [])) [], none⟩,
  ⟨some 21, .un .not (.tmp 20), none⟩,
  ⟨some 22, .move (.tmp 21), none⟩,
  ⟨some 23, .move (.tmp 3), some (22, false)⟩,
  ⟨some 24, .convStr (.tmp 23), some (22, false)⟩,
  ⟨some 25, .move (.tmp 5), some (22, false)⟩,
  ⟨some 26, .convStr (.tmp 25), some (22, false)⟩,
  ⟨some 27, .bin .neq (.tmp 24) (.tmp 26), some (22, false)⟩,
  ⟨some 28, .pick (.tmp 22) (.cst (.bool true)) (.tmp 27), none⟩,
  ⟨some 29, .move (.tmp 28), none⟩,
  ⟨some 30, .move (.tmp 4), some (29, false)⟩,
  ⟨some 31, .move (.tmp 6), some (29, false)⟩,
  ⟨some 32, .bin .neq (.tmp 30) (.tmp 31), some (29, false)⟩,
  ⟨some 33, .pick (.tmp 29) (.cst (.bool true)) (.tmp 32), none⟩])
 (.cond (.tmp 33)
 (.seq
 (.reg [⟨some 2, .move (.cst (.bool false)), none⟩])
 (.ret))
 (.skip)))
 (.seq
 (.seq
 (.reg [⟨some 34, .move (.tmp 6), none⟩,
  ⟨some 35, .bin .neq (.tmp 34) (.cst (.int .i64 0)), none⟩])
 (.cond (.tmp 35)
 (.seq
 (.reg [⟨some 2, .move (.cst (.bool true)), none⟩])
 (.ret))
 (.skip)))
 (.seq
 (.reg [⟨some 7, .acc none (.cst .nil), none⟩])
 (.seq
 (.seq
 (.reg [⟨some 8, .move (.cst (.int .i64 0)), none⟩])
 (.block 0
 (.loop [0, 3, 7, 8] false L8_0)))
 (.seq
 (.reg [⟨some 51, .move (.tmp 3), none⟩,
  ⟨some 52, .move (.tmp 7), none⟩,
  ⟨some 53, .call (.cst (.func (.func 20) [] [])) [(.tmp 51), (.tmp 52)], none⟩,
  ⟨some 50, .move (.tmp 53), none⟩,
  ⟨some 54, .extract (.tmp 50) 0, none⟩,
  ⟨some 55, .extract (.tmp 50) 1, none⟩,
  ⟨some 9, .move (.tmp 54), none⟩,
  ⟨some 4, .move (.tmp 55), none⟩])
 (.seq
 (.reg [⟨some 56, .move (.tmp 4), none⟩,
  ⟨some 57, .bin .eql (.tmp 56) (.cst (.int .i64 0)), none⟩,
  ⟨some 58, .move (.tmp 57), none⟩,
  ⟨some 59, .move (.tmp 9), some (58, true)⟩,
  ⟨some 60, .move (.tmp 0), some (58, true)⟩,
  ⟨some 61, .call (.cst (.func (.func 21) [] [])) [(.tmp 59), (.tmp 60)], some (58, true)⟩,
  ⟨some 62, .pick (.tmp 58) (.tmp 61) (.cst (.bool false)), none⟩,
  ⟨some 2, .move (.tmp 62), none⟩])
 (.ret)))))))))⟩
theorem c8 : compF Try.prog gl true [(7, none)] [([0, 3, 7, 8], false)] Try.f8 = some F8 := by kernel_rfl
/- tollhouse/tollhouselaw01.BigsizeDecodes -/
def F9 : AFn := ⟨62, true, 2, [.tmp 4], .seq
 (.reg [⟨some 4, .move (.cst (.bool false)), none⟩])
 (.seq
 (.reg [⟨some 11, .buildSlice none (.int .u8 0) 0 [], none⟩,
  ⟨some 12, .move (.tmp 0), none⟩,
  ⟨some 13, .append none 1 (.tmp 11) (.tmp 12), none⟩,
  ⟨some 5, .move (.tmp 13), none⟩])
 (.seq
 (.reg [⟨some 15, .move (.tmp 5), none⟩,
  ⟨some 16, .move (.tmp 1), none⟩,
  ⟨some 17, .call (.cst (.func (.func 20) [] [])) [(.tmp 15), (.tmp 16)], none⟩,
  ⟨some 14, .move (.tmp 17), none⟩,
  ⟨some 18, .extract (.tmp 14) 0, none⟩,
  ⟨some 19, .extract (.tmp 14) 1, none⟩,
  ⟨some 6, .move (.tmp 18), none⟩,
  ⟨some 7, .move (.tmp 19), none⟩])
 (.seq
 (.reg [⟨some 21, .move (.tmp 0), none⟩,
  ⟨some 22, .move (.tmp 1), none⟩,
  ⟨some 23, .call (.cst (.func (.func 22) [] [])) [(.tmp 21), (.tmp 22)], none⟩,
  ⟨some 20, .move (.tmp 23), none⟩,
  ⟨some 24, .extract (.tmp 20) 0, none⟩,
  ⟨some 25, .extract (.tmp 20) 1, none⟩,
  ⟨some 8, .move (.tmp 24), none⟩,
  ⟨some 9, .move (.tmp 25), none⟩])
 (.seq
 (.seq
 (.reg [⟨some 26, .call (.cst (.func (.func 13) [] [])) [], none⟩,
  ⟨some 27, .un .not (.tmp 26), none⟩,
  ⟨some 28, .move (.tmp 27), none⟩,
  ⟨some 29, .move (.tmp 6), some (28, false)⟩,
  ⟨some 30, .move (.tmp 8), some (28, false)⟩,
  ⟨some 31, .call (.cst (.func (.func 21) [] [])) [(.tmp 29), (.tmp 30)], some (28, false)⟩,
  ⟨some 32, .un .not (.tmp 31), some (28, false)⟩,
  ⟨some 33, .pick (.tmp 28) (.cst (.bool true)) (.tmp 32), none⟩,
  ⟨some 34, .move (.tmp 33), none⟩,
  ⟨some 35, .move (.tmp 7), some (34, false)⟩,
  ⟨some 36, .move (.tmp 9), some (34, false)⟩,
  ⟨some 37, .bin .neq (.tmp 35) (.tmp 36), some (34, false)⟩,
  ⟨some 38, .pick (.tmp 34) (.cst (.bool true)) (.tmp 37), none⟩,
  ⟨some 39, .move (.tmp 38), none⟩,
  ⟨some 40, .move (.tmp 5), some (39, false)⟩,
  ⟨some 41, .convStr (.tmp 40), some (39, false)⟩,
  ⟨some 42, .move (.tmp 0), some (39, false)⟩,
  ⟨some 43, .convStr (.tmp 42), some (39, false)⟩,
  ⟨some 44, .bin .neq (.tmp 41) (.tmp 43), some (39, false)⟩,
  ⟨some 45, .pick (.tmp 39) (.cst (.bool true)) (.tmp 44), none⟩])
 (.cond (.tmp 45)
 (.seq
 (.reg [⟨some 4, .move (.cst (.bool false)), none⟩])
 (.ret))
 (.skip)))
 (.seq
 (.seq
 (.reg [⟨some 46, .move (.tmp 9), none⟩,
  ⟨some 47, .bin .neq (.tmp 46) (.cst (.int .i64 0)), none⟩])
 (.cond (.tmp 47)
 (.seq
 (.reg [⟨some 4, .move (.cst (.bool true)), none⟩])
 (.ret))
 (.skip)))
 (.seq
 (.reg [⟨some 49, .move (.tmp 6), none⟩,
  ⟨some 50, .call (.cst (.func (.func 18) [] [])) [(.tmp 49)], none⟩,
  ⟨some 48, .move (.tmp 50), none⟩,
  ⟨some 51, .extract (.tmp 48) 0, none⟩,
  ⟨some 52, .extract (.tmp 48) 1, none⟩,
  ⟨some 10, .move (.tmp 51), none⟩,
  ⟨some 7, .move (.tmp 52), none⟩])
 (.seq
 (.reg [⟨some 53, .move (.tmp 7), none⟩,
  ⟨some 54, .bin .eql (.tmp 53) (.cst (.int .i64 0)), none⟩,
  ⟨some 55, .move (.tmp 54), none⟩,
  ⟨some 56, .move (.tmp 10), some (55, true)⟩,
  ⟨some 57, .convStr (.tmp 56), some (55, true)⟩,
  ⟨some 58, .move (.tmp 0), some (55, true)⟩,
  ⟨some 59, .convStr (.tmp 58), some (55, true)⟩,
  ⟨some 60, .bin .eql (.tmp 57) (.tmp 59), some (55, true)⟩,
  ⟨some 61, .pick (.tmp 55) (.tmp 60) (.cst (.bool false)), none⟩,
  ⟨some 4, .move (.tmp 61), none⟩])
 (.ret))))))))⟩
theorem c9 : compF Try.prog gl true [] [] Try.f9 = some F9 := by kernel_rfl
def L10_0 : AC := .seq
 (.seq
 (.reg [⟨some 21, .move (.tmp 11), none⟩,
  ⟨some 22, .move (.tmp 0), none⟩,
  ⟨some 23, .len (.tmp 22), none⟩,
  ⟨some 24, .bin .lss (.tmp 21) (.tmp 23), none⟩])
 (.cond (.tmp 24)
 (.skip)
 (.exit 0)))
 (.seq
 (.block 1
 (.seq
 (.seq
 (.regQ [⟨some 27, .move (.tmp 0), none⟩,
  ⟨some 28, .move (.tmp 11), none⟩,
  ⟨some 29, .indexAddr .slice (some 2) (.tmp 27) (.tmp 28), none⟩,
  ⟨some 30, .fieldAddr 0 1 (.tmp 29), none⟩,
  ⟨some 31, .load none (.tmp 30), none⟩,
  ⟨some 32, .move (.tmp 7), none⟩,
  ⟨some 33, .bin .eql (.tmp 31) (.tmp 32), none⟩,
  ⟨some 34, .move (.tmp 33), none⟩,
  ⟨some 35, .move (.tmp 11), some (34, false)⟩,
  ⟨some 36, .bin .gtr (.tmp 35) (.cst (.int .i64 0)), some (34, false)⟩,
  ⟨some 37, .move (.tmp 36), some (34, false)⟩,
  ⟨some 38, .move (.tmp 0), some (37, true)⟩,
  ⟨some 39, .move (.tmp 11), some (37, true)⟩,
  ⟨some 40, .indexAddr .slice (some 2) (.tmp 38) (.tmp 39), some (37, true)⟩,
  ⟨some 41, .fieldAddr 0 1 (.tmp 40), some (37, true)⟩,
  ⟨some 42, .load none (.tmp 41), some (37, true)⟩,
  ⟨some 43, .move (.tmp 0), some (37, true)⟩,
  ⟨some 44, .move (.tmp 11), some (37, true)⟩,
  ⟨some 45, .bin .sub (.tmp 44) (.cst (.int .i64 1)), some (37, true)⟩,
  ⟨some 46, .indexAddr .slice (some 2) (.tmp 43) (.tmp 45), some (37, true)⟩,
  ⟨some 47, .fieldAddr 0 1 (.tmp 46), some (37, true)⟩,
  ⟨some 48, .load none (.tmp 47), some (37, true)⟩,
  ⟨some 49, .bin .leq (.tmp 42) (.tmp 48), some (37, true)⟩,
  ⟨some 50, .pick (.tmp 37) (.tmp 49) (.cst (.bool false)), some (34, false)⟩,
  ⟨some 51, .pick (.tmp 34) (.cst (.bool true)) (.tmp 50), none⟩])
 (.cond (.tmp 51)
 (.seq
 (.reg [⟨some 6, .move (.cst (.bool true)), none⟩])
 (.ret))
 (.skip)))
 (.seq
 (.seq
 (.reg [⟨some 52, .move (.tmp 0), none⟩,
  ⟨some 53, .move (.tmp 11), none⟩,
  ⟨some 54, .indexAddr .slice (some 2) (.tmp 52) (.tmp 53), none⟩,
  ⟨some 55, .fieldAddr 0 1 (.tmp 54), none⟩,
  ⟨some 56, .load none (.tmp 55), none⟩,
  ⟨some 57, .move (.tmp 7), none⟩,
  ⟨some 58, .bin .gtr (.tmp 56) (.tmp 57), none⟩,
  ⟨some 59, .move (.tmp 58), none⟩,
  ⟨some 60, .move (.tmp 10), some (59, true)⟩,
  ⟨some 61, .un .not (.tmp 60), some (59, true)⟩,
  ⟨some 62, .pick (.tmp 59) (.tmp 61) (.cst (.bool false)), none⟩])
 (.cond (.tmp 62)
 (.seq
 (.reg [⟨some 63, .move (.tmp 8), none⟩,
  ⟨some 64, .move (.tmp 7), none⟩,
  ⟨some 65, .move (.tmp 2), none⟩,
  ⟨some 66, .build [(.int .u64 0), .nil] [(0, 1, (.tmp 64)), (1, 1, (.tmp 65))], none⟩,
  ⟨some 67, .buildSlice (some 2) (.agg [(.int .u64 0), .nil]) 1 [(0, (.tmp 66))], none⟩,
  ⟨some 68, .append (some 2) 32 (.tmp 63) (.tmp 67), none⟩,
  ⟨some 8, .move (.tmp 68), none⟩])
 (.reg [⟨some 10, .move (.cst (.bool true)), none⟩]))
 (.skip)))
 (.seq
 (.reg [⟨some 69, .move (.tmp 8), none⟩,
  ⟨some 70, .move (.tmp 0), none⟩,
  ⟨some 71, .move (.tmp 11), none⟩,
  ⟨some 72, .indexAddr .slice (some 2) (.tmp 70) (.tmp 71), none⟩,
  ⟨some 73, .load (some 2) (.tmp 72), none⟩,
  ⟨some 74, .buildSlice (some 2) (.agg [(.int .u64 0), .nil]) 1 [(0, (.tmp 73))], none⟩,
  ⟨some 75, .append (some 2) 32 (.tmp 69) (.tmp 74), none⟩,
  ⟨some 8, .move (.tmp 75), none⟩])
 (.reg [⟨some 76, .move (.tmp 9), none⟩,
  ⟨some 77, .move (.tmp 0), none⟩,
  ⟨some 78, .move (.tmp 11), none⟩,
  ⟨some 79, .indexAddr .slice (some 2) (.tmp 77) (.tmp 78), none⟩,
  ⟨some 80, .fieldAddr 0 1 (.tmp 79), none⟩,
  ⟨some 81, .load none (.tmp 80), none⟩,
  ⟨some 82, .buildSlice none (.int .u64 0) 1 [(0, (.tmp 81))], none⟩,
  ⟨some 83, .append none 8 (.tmp 76) (.tmp 82), none⟩,
  ⟨some 9, .move (.tmp 83), none⟩])))))
 (.reg [⟨some 25, .move (.tmp 11), none⟩,
  ⟨some 26, .bin .add (.tmp 25) (.cst (.int .i64 1)), none⟩,
  ⟨some 11, .move (.tmp 26), none⟩]))
/- tollhouse/tollhouselaw01.BigsizeOdd -/
def F10 : AFn := ⟨130, true, 3, [.tmp 6], .seq
 (.reg [⟨some 6, .move (.cst (.bool false)), none⟩])
 (.seq
 (.reg [⟨some 17, .move (.tmp 1), none⟩,
  ⟨some 18, .bin .or (.tmp 17) (.cst (.int .u64 1)), none⟩,
  ⟨some 7, .move (.tmp 18), none⟩])
 (.seq
 (.seq
 (.reg [⟨some 19, .call (.cst (.func (.func 13) [] [])) [], none⟩,
  ⟨some 20, .un .not (.tmp 19), none⟩])
 (.cond (.tmp 20)
 (.seq
 (.reg [⟨some 6, .move (.cst (.bool false)), none⟩])
 (.ret))
 (.skip)))
 (.seq
 (.reg [⟨some 8, .acc (some 2) (.cst .nil), none⟩])
 (.seq
 (.reg [⟨some 9, .acc none (.cst .nil), none⟩])
 (.seq
 (.reg [⟨some 10, .move (.cst (.bool false)), none⟩])
 (.seq
 (.seq
 (.reg [⟨some 11, .move (.cst (.int .i64 0)), none⟩])
 (.block 0
 (.loop [0, 2, 7, 8, 9, 10, 11] false L10_0)))
 (.seq
 (.seq
 (.reg [⟨some 84, .move (.tmp 10), none⟩,
  ⟨some 85, .un .not (.tmp 84), none⟩])
 (.cond (.tmp 85)
 (.reg [⟨some 86, .move (.tmp 8), none⟩,
  ⟨some 87, .move (.tmp 7), none⟩,
  ⟨some 88, .move (.tmp 2), none⟩,
  ⟨some 89, .build [(.int .u64 0), .nil] [(0, 1, (.tmp 87)), (1, 1, (.tmp 88))], none⟩,
  ⟨some 90, .buildSlice (some 2) (.agg [(.int .u64 0), .nil]) 1 [(0, (.tmp 89))], none⟩,
  ⟨some 91, .append (some 2) 32 (.tmp 86) (.tmp 90), none⟩,
  ⟨some 8, .move (.tmp 91), none⟩])
 (.skip)))
 (.seq
 (.reg [⟨some 93, .move (.tmp 8), none⟩,
  ⟨some 94, .call (.cst (.func (.func 18) [] [])) [(.tmp 93)], none⟩,
  ⟨some 92, .move (.tmp 94), none⟩,
  ⟨some 95, .extract (.tmp 92) 0, none⟩,
  ⟨some 96, .extract (.tmp 92) 1, none⟩,
  ⟨some 12, .move (.tmp 95), none⟩,
  ⟨some 13, .move (.tmp 96), none⟩])
 (.seq
 (.seq
 (.reg [⟨some 97, .move (.tmp 13), none⟩,
  ⟨some 98, .bin .neq (.tmp 97) (.cst (.int .i64 0)), none⟩])
 (.cond (.tmp 98)
 (.seq
 (.reg [⟨some 99, .move (.tmp 13), none⟩,
  ⟨some 100, .bin .eql (.tmp 99) (.cst (.int .i64 3)), none⟩,
  ⟨some 6, .move (.tmp 100), none⟩])
 (.ret))
 (.skip)))
 (.seq
 (.reg [⟨some 102, .move (.tmp 12), none⟩,
  ⟨some 103, .move (.tmp 9), none⟩,
  ⟨some 104, .call (.cst (.func (.func 20) [] [])) [(.tmp 102), (.tmp 103)], none⟩,
  ⟨some 101, .move (.tmp 104), none⟩,
  ⟨some 105, .extract (.tmp 101) 0, none⟩,
  ⟨some 106, .extract (.tmp 101) 1, none⟩,
  ⟨some 14, .move (.tmp 105), none⟩,
  ⟨some 13, .move (.tmp 106), none⟩])
 (.seq
 (.reg [⟨some 108, .move (.tmp 14), none⟩,
  ⟨some 109, .move (.tmp 7), none⟩,
  ⟨some 110, .call (.cst (.func (.func 17) [] [])) [(.tmp 108), (.tmp 109)], none⟩,
  ⟨some 107, .move (.tmp 110), none⟩,
  ⟨some 111, .extract (.tmp 107) 0, none⟩,
  ⟨some 112, .extract (.tmp 107) 1, none⟩,
  ⟨some 15, .move (.tmp 111), none⟩,
  ⟨some 16, .move (.tmp 112), none⟩])
 (.seq
 (.reg [⟨some 113, .move (.tmp 13), none⟩,
  ⟨some 114, .bin .eql (.tmp 113) (.cst (.int .i64 0)), none⟩,
  ⟨some 115, .move (.tmp 114), none⟩,
  ⟨some 116, .move (.tmp 14), some (115, true)⟩,
  ⟨some 117, .move (.tmp 8), some (115, true)⟩,
  ⟨some 118, .call (.cst (.func (.func 21) [] [])) [(.tmp 116), (.tmp 117)], some (115, true)⟩,
  ⟨some 119, .pick (.tmp 115) (.tmp 118) (.cst (.bool false)), none⟩,
  ⟨some 120, .move (.tmp 119), none⟩,
  ⟨some 121, .move (.tmp 16), some (120, true)⟩,
  ⟨some 122, .pick (.tmp 120) (.tmp 121) (.cst (.bool false)), none⟩,
  ⟨some 123, .move (.tmp 122), none⟩,
  ⟨some 124, .move (.tmp 15), some (123, true)⟩,
  ⟨some 125, .convStr (.tmp 124), some (123, true)⟩,
  ⟨some 126, .move (.tmp 2), some (123, true)⟩,
  ⟨some 127, .convStr (.tmp 126), some (123, true)⟩,
  ⟨some 128, .bin .eql (.tmp 125) (.tmp 127), some (123, true)⟩,
  ⟨some 129, .pick (.tmp 123) (.tmp 128) (.cst (.bool false)), none⟩,
  ⟨some 6, .move (.tmp 129), none⟩])
 (.ret)))))))))))))⟩
theorem c10 : compF Try.prog gl true [(9, none), (8, (some 2))] [([0, 2, 7, 8, 9, 10, 11], false)] Try.f10 = some F10 := by kernel_rfl
def L11_0 : AC := .seq
 (.seq
 (.reg [⟨some 31, .move (.tmp 7), none⟩,
  ⟨some 32, .bin .geq (.tmp 31) (.cst (.int .i64 0)), none⟩])
 (.cond (.tmp 32)
 (.skip)
 (.exit 0)))
 (.seq
 (.block 1
 (.reg [⟨some 35, .move (.tmp 5), none⟩,
  ⟨some 36, .move (.tmp 1), none⟩,
  ⟨some 37, .move (.tmp 7), none⟩,
  ⟨some 38, .bin .mul (.cst (.int .i64 8)) (.tmp 37), none⟩,
  ⟨some 39, .bin .shr (.tmp 36) (.tmp 38), none⟩,
  ⟨some 40, .convInt .u8 (.tmp 39), none⟩,
  ⟨some 41, .buildSlice none (.int .u8 0) 1 [(0, (.tmp 40))], none⟩,
  ⟨some 42, .append none 1 (.tmp 35) (.tmp 41), none⟩,
  ⟨some 5, .move (.tmp 42), none⟩]))
 (.reg [⟨some 33, .move (.tmp 7), none⟩,
  ⟨some 34, .bin .sub (.tmp 33) (.cst (.int .i64 1)), none⟩,
  ⟨some 7, .move (.tmp 34), none⟩]))
/- tollhouse/bigsize.Put -/
def F11 : AFn := ⟨44, true, 2, [.tmp 4], .seq
 (.reg [⟨some 4, .move (.cst .nil), none⟩])
 (.seq
 (.reg [⟨some 8, .move (.tmp 0), none⟩,
  ⟨some 9, .call (.cst (.func (.func 24) [] [])) [(.tmp 8)], none⟩,
  ⟨some 10, .move (.tmp 1), none⟩,
  ⟨some 11, .call (.cst (.func (.func 14) [] [])) [(.tmp 10)], none⟩,
  ⟨some 12, .call (.cst (.func (.func 23) [] [])) [(.tmp 9), (.tmp 11)], none⟩,
  ⟨some 5, .move (.tmp 12), none⟩])
 (.seq
 (.reg [⟨some 14, .move (.tmp 1), none⟩,
  ⟨some 15, .call (.cst (.func (.func 25) [] [])) [(.tmp 14)], none⟩,
  ⟨some 13, .move (.tmp 15), none⟩,
  ⟨some 16, .extract (.tmp 13) 0, none⟩,
  ⟨some 17, .extract (.tmp 13) 1, none⟩,
  ⟨some 6, .move (.tmp 16), none⟩,
  ⟨some 7, .move (.tmp 17), none⟩])
 (.seq
 (.seq
 (.reg [⟨some 18, .move (.tmp 7), none⟩,
  ⟨some 19, .bin .eql (.tmp 18) (.cst (.int .i64 0)), none⟩])
 (.cond (.tmp 19)
 (.seq
 (.reg [⟨some 20, .move (.tmp 5), none⟩,
  ⟨some 21, .move (.tmp 1), none⟩,
  ⟨some 22, .convInt .u8 (.tmp 21), none⟩,
  ⟨some 23, .buildSlice none (.int .u8 0) 1 [(0, (.tmp 22))], none⟩,
  ⟨some 24, .append none 1 (.tmp 20) (.tmp 23), none⟩,
  ⟨some 4, .move (.tmp 24), none⟩])
 (.ret))
 (.skip)))
 (.seq
 (.reg [⟨some 25, .move (.tmp 5), none⟩,
  ⟨some 26, .move (.tmp 6), none⟩,
  ⟨some 27, .buildSlice none (.int .u8 0) 1 [(0, (.tmp 26))], none⟩,
  ⟨some 28, .append none 1 (.tmp 25) (.tmp 27), none⟩,
  ⟨some 5, .move (.tmp 28), none⟩])
 (.seq
 (.seq
 (.reg [⟨some 29, .move (.tmp 7), none⟩,
  ⟨some 30, .bin .sub (.tmp 29) (.cst (.int .i64 1)), none⟩,
  ⟨some 7, .move (.tmp 30), none⟩])
 (.block 0
 (.loop [1, 5, 7] true L11_0)))
 (.seq
 (.reg [⟨some 43, .move (.tmp 5), none⟩,
  ⟨some 4, .move (.tmp 43), none⟩])
 (.ret)))))))⟩
theorem c11 : compF Try.prog gl true [] [([1, 5, 7], true)] Try.f11 = some F11 := by kernel_rfl
def L12_0 : AC := .seq
 (.seq
 (.reg [⟨some 23, .move (.tmp 5), none⟩,
  ⟨some 24, .bin .geq (.tmp 23) (.cst (.int .i64 0)), none⟩])
 (.cond (.tmp 24)
 (.skip)
 (.exit 1)))
 (.seq
 (.block 2
 (.reg [⟨some 27, .move (.tmp 4), none⟩,
  ⟨some 28, .move (.tmp 0), none⟩,
  ⟨some 29, .move (.tmp 5), none⟩,
  ⟨some 30, .bin .mul (.cst (.int .i64 8)) (.tmp 29), none⟩,
  ⟨some 31, .bin .shr (.tmp 28) (.tmp 30), none⟩,
  ⟨some 32, .convInt .u8 (.tmp 31), none⟩,
  ⟨some 33, .buildSlice none (.int .u8 0) 1 [(0, (.tmp 32))], none⟩,
  ⟨some 34, .append none 1 (.tmp 27) (.tmp 33), none⟩,
  ⟨some 4, .move (.tmp 34), none⟩]))
 (.reg [⟨some 25, .move (.tmp 5), none⟩,
  ⟨some 26, .bin .sub (.tmp 25) (.cst (.int .i64 1)), none⟩,
  ⟨some 5, .move (.tmp 26), none⟩]))
/- tollhouse/tollhouseref01.Number -/
def F12 : AFn := ⟨36, true, 1, [.tmp 2], .seq
 (.reg [⟨some 2, .move (.cst .nil), none⟩])
 (.seq
 (.reg [⟨some 3, .move (.cst (.int .i64 0)), none⟩])
 (.seq
 (.reg [⟨some 4, .acc none (.cst .nil), none⟩])
 (.seq
 (.block 0
 (.seq
 (.reg [⟨some 8, .move (.tmp 0), none⟩,
  ⟨some 9, .bin .lss (.tmp 8) (.cst (.int .u64 253)), none⟩,
  ⟨some 7, .move (.tmp 9), none⟩])
 (.cond (.tmp 7)
 (.seq
 (.reg [⟨some 10, .move (.tmp 0), none⟩,
  ⟨some 11, .convInt .u8 (.tmp 10), none⟩,
  ⟨some 12, .buildSlice none (.int .u8 0) 1 [(0, (.tmp 11))], none⟩,
  ⟨some 2, .move (.tmp 12), none⟩])
 (.ret))
 (.seq
 (.reg [⟨some 14, .move (.tmp 0), none⟩,
  ⟨some 15, .bin .leq (.tmp 14) (.cst (.int .u64 65535)), none⟩,
  ⟨some 13, .move (.tmp 15), none⟩])
 (.cond (.tmp 13)
 (.reg [⟨some 16, .buildSlice none (.int .u8 0) 1 [(0, (.cst (.int .u8 253)))], none⟩,
  ⟨some 4, .move (.tmp 16), none⟩,
  ⟨some 3, .move (.cst (.int .i64 2)), none⟩])
 (.seq
 (.reg [⟨some 18, .move (.tmp 0), none⟩,
  ⟨some 19, .bin .leq (.tmp 18) (.cst (.int .u64 4294967295)), none⟩,
  ⟨some 17, .move (.tmp 19), none⟩])
 (.cond (.tmp 17)
 (.reg [⟨some 20, .buildSlice none (.int .u8 0) 1 [(0, (.cst (.int .u8 254)))], none⟩,
  ⟨some 4, .move (.tmp 20), none⟩,
  ⟨some 3, .move (.cst (.int .i64 4)), none⟩])
 (.reg [⟨some 6, .buildSlice none (.int .u8 0) 1 [(0, (.cst (.int .u8 255)))], none⟩,
  ⟨some 4, .move (.tmp 6), none⟩,
  ⟨some 3, .move (.cst (.int .i64 8)), none⟩]))))))))
 (.seq
 (.seq
 (.reg [⟨some 21, .move (.tmp 3), none⟩,
  ⟨some 22, .bin .sub (.tmp 21) (.cst (.int .i64 1)), none⟩,
  ⟨some 5, .move (.tmp 22), none⟩])
 (.block 1
 (.loop [0, 4, 5] false L12_0)))
 (.seq
 (.reg [⟨some 35, .move (.tmp 4), none⟩,
  ⟨some 2, .move (.tmp 35), none⟩])
 (.ret))))))⟩
theorem c12 : compF Try.prog gl true [(4, none)] [([0, 4, 5], false)] Try.f12 = some F12 := by kernel_rfl
/- tollhouse/tollhouselaw01.lives -/
def F13 : AFn := ⟨39, true, 0, [.tmp 0], .seq
 (.reg [⟨some 0, .move (.cst (.bool false)), none⟩])
 (.seq
 (.reg [⟨some 8, .buildSlice none (.int .u8 0) 4 [(0, (.cst (.int .u8 253))), (1, (.cst (.int .u8 1))), (2, (.cst (.int .u8 0))), (3, (.cst (.int .u8 9)))], none⟩,
  ⟨some 9, .call (.cst (.func (.func 15) [] [])) [(.tmp 8)], none⟩,
  ⟨some 7, .move (.tmp 9), none⟩,
  ⟨some 10, .extract (.tmp 7) 0, none⟩,
  ⟨some 11, .extract (.tmp 7) 1, none⟩,
  ⟨some 12, .extract (.tmp 7) 2, none⟩,
  ⟨some 1, .move (.tmp 10), none⟩,
  ⟨some 2, .move (.tmp 11), none⟩,
  ⟨some 3, .move (.tmp 12), none⟩])
 (.seq
 (.reg [⟨some 14, .buildSlice none (.int .u8 0) 3 [(0, (.cst (.int .u8 253))), (1, (.cst (.int .u8 0))), (2, (.cst (.int .u8 16)))], none⟩,
  ⟨some 15, .call (.cst (.func (.func 15) [] [])) [(.tmp 14)], none⟩,
  ⟨some 13, .move (.tmp 15), none⟩,
  ⟨some 16, .extract (.tmp 13) 0, none⟩,
  ⟨some 17, .extract (.tmp 13) 1, none⟩,
  ⟨some 18, .extract (.tmp 13) 2, none⟩,
  ⟨some 4, .move (.tmp 16), none⟩,
  ⟨some 5, .move (.tmp 17), none⟩,
  ⟨some 6, .move (.tmp 18), none⟩])
 (.seq
 (.reg [⟨some 19, .buildSlice none (.int .u8 0) 1 [(0, (.cst (.int .u8 7)))], none⟩,
  ⟨some 20, .call (.cst (.func (.func 11) [] [])) [(.tmp 19), (.cst (.int .u64 253))], none⟩,
  ⟨some 21, .convStr (.tmp 20), none⟩,
  ⟨some 22, .bin .eql (.tmp 21) (.cst (.sc (.string (bs [7, 253, 0, 253])))), none⟩,
  ⟨some 23, .move (.tmp 22), none⟩,
  ⟨some 24, .move (.tmp 1), some (23, true)⟩,
  ⟨some 25, .bin .eql (.tmp 24) (.cst (.int .u64 256)), some (23, true)⟩,
  ⟨some 26, .pick (.tmp 23) (.tmp 25) (.cst (.bool false)), none⟩,
  ⟨some 27, .move (.tmp 26), none⟩,
  ⟨some 28, .move (.tmp 2), some (27, true)⟩,
  ⟨some 29, .bin .eql (.tmp 28) (.cst (.int .i64 3)), some (27, true)⟩,
  ⟨some 30, .pick (.tmp 27) (.tmp 29) (.cst (.bool false)), none⟩,
  ⟨some 31, .move (.tmp 30), none⟩,
  ⟨some 32, .move (.tmp 3), some (31, true)⟩,
  ⟨some 33, .bin .eql (.tmp 32) (.cst (.int .i64 0)), some (31, true)⟩,
  ⟨some 34, .pick (.tmp 31) (.tmp 33) (.cst (.bool false)), none⟩,
  ⟨some 35, .move (.tmp 34), none⟩,
  ⟨some 36, .move (.tmp 6), some (35, true)⟩,
  ⟨some 37, .bin .eql (.tmp 36) (.cst (.int .i64 10)), some (35, true)⟩,
  ⟨some 38, .pick (.tmp 35) (.tmp 37) (.cst (.bool false)), none⟩,
  ⟨some 0, .move (.tmp 38), none⟩])
 (.ret))))⟩
theorem c13 : compF Try.prog gl true [] [] Try.f13 = some F13 := by kernel_rfl
/- tollhouse/bigsize.Size -/
def F14 : AFn := ⟨12, true, 1, [.tmp 2], .seq
 (.reg [⟨some 2, .move (.cst (.int .i64 0)), none⟩])
 (.seq
 (.reg [⟨some 6, .move (.tmp 0), none⟩,
  ⟨some 7, .call (.cst (.func (.func 25) [] [])) [(.tmp 6)], none⟩,
  ⟨some 5, .move (.tmp 7), none⟩,
  ⟨some 8, .extract (.tmp 5) 0, none⟩,
  ⟨some 9, .extract (.tmp 5) 1, none⟩,
  ⟨some 3, .move (.tmp 8), none⟩,
  ⟨some 4, .move (.tmp 9), none⟩])
 (.seq
 (.reg [⟨some 10, .move (.tmp 4), none⟩,
  ⟨some 11, .bin .add (.tmp 10) (.cst (.int .i64 1)), none⟩,
  ⟨some 2, .move (.tmp 11), none⟩])
 (.ret)))⟩
theorem c14 : compF Try.prog gl true [] [] Try.f14 = some F14 := by kernel_rfl
def L15_0 : AC := .seq
 (.reg [⟨some 35, .bin .lss (.tmp 34) (.tmp 33), none⟩])
 (.seq
 (.cond (.tmp 35)
 (.skip)
 (.exit 0))
 (.seq
 (.block 1
 (.seq
 (.reg [⟨some 36, .indexAddr .slice none (.tmp 32) (.tmp 34), none⟩,
  ⟨some 37, .load none (.tmp 36), none⟩,
  ⟨some 8, .move (.tmp 37), none⟩])
 (.reg [⟨some 38, .move (.tmp 6), none⟩,
  ⟨some 39, .bin .shl (.tmp 38) (.cst (.int .u64 8)), none⟩,
  ⟨some 40, .move (.tmp 8), none⟩,
  ⟨some 41, .convInt .u64 (.tmp 40), none⟩,
  ⟨some 42, .bin .or (.tmp 39) (.tmp 41), none⟩,
  ⟨some 6, .move (.tmp 42), none⟩])))
 (.reg [⟨some 43, .bin .add (.tmp 34) (.cst (.int .i64 1)), none⟩,
  ⟨some 34, .move (.tmp 43), none⟩])))
/- tollhouse/bigsize.Read -/
def F15 : AFn := ⟨52, true, 1, [.tmp 2, .tmp 3, .tmp 4], .seq
 (.reg [⟨some 2, .move (.cst (.int .u64 0)), none⟩,
  ⟨some 3, .move (.cst (.int .i64 0)), none⟩,
  ⟨some 4, .move (.cst (.int .i64 0)), none⟩])
 (.seq
 (.seq
 (.reg [⟨some 9, .move (.tmp 0), none⟩,
  ⟨some 10, .len (.tmp 9), none⟩,
  ⟨some 11, .bin .eql (.tmp 10) (.cst (.int .i64 0)), none⟩])
 (.cond (.tmp 11)
 (.seq
 (.reg [⟨some 2, .move (.cst (.int .u64 0)), none⟩,
  ⟨some 3, .move (.cst (.int .i64 0)), none⟩,
  ⟨some 4, .move (.cst (.int .i64 10)), none⟩])
 (.ret))
 (.skip)))
 (.seq
 (.seq
 (.reg [⟨some 12, .move (.tmp 0), none⟩,
  ⟨some 13, .indexAddr .slice none (.tmp 12) (.cst (.int .i64 0)), none⟩,
  ⟨some 14, .load none (.tmp 13), none⟩,
  ⟨some 15, .bin .lss (.tmp 14) (.cst (.int .u8 253)), none⟩])
 (.cond (.tmp 15)
 (.seq
 (.reg [⟨some 16, .move (.tmp 0), none⟩,
  ⟨some 17, .indexAddr .slice none (.tmp 16) (.cst (.int .i64 0)), none⟩,
  ⟨some 18, .load none (.tmp 17), none⟩,
  ⟨some 19, .convInt .u64 (.tmp 18), none⟩,
  ⟨some 2, .move (.tmp 19), none⟩,
  ⟨some 3, .move (.cst (.int .i64 1)), none⟩,
  ⟨some 4, .move (.cst (.int .i64 0)), none⟩])
 (.ret))
 (.skip)))
 (.seq
 (.reg [⟨some 20, .move (.tmp 0), none⟩,
  ⟨some 21, .indexAddr .slice none (.tmp 20) (.cst (.int .i64 0)), none⟩,
  ⟨some 22, .load none (.tmp 21), none⟩,
  ⟨some 23, .bin .sub (.tmp 22) (.cst (.int .u8 253)), none⟩,
  ⟨some 24, .bin .shl (.cst (.int .i64 2)) (.tmp 23), none⟩,
  ⟨some 5, .move (.tmp 24), none⟩])
 (.seq
 (.seq
 (.reg [⟨some 25, .move (.tmp 0), none⟩,
  ⟨some 26, .len (.tmp 25), none⟩,
  ⟨some 27, .move (.tmp 5), none⟩,
  ⟨some 28, .bin .leq (.tmp 26) (.tmp 27), none⟩])
 (.cond (.tmp 28)
 (.seq
 (.reg [⟨some 2, .move (.cst (.int .u64 0)), none⟩,
  ⟨some 3, .move (.cst (.int .i64 0)), none⟩,
  ⟨some 4, .move (.cst (.int .i64 10)), none⟩])
 (.ret))
 (.skip)))
 (.seq
 (.reg [⟨some 6, .move (.cst (.int .u64 0)), none⟩])
 (.seq
 (.seq
 (.reg [⟨some 29, .move (.tmp 0), none⟩,
  ⟨some 30, .move (.tmp 5), none⟩,
  ⟨some 31, .bin .add (.tmp 30) (.cst (.int .i64 1)), none⟩,
  ⟨some 32, .slice .slice none (.tmp 29) (some (.cst (.int .i64 1))) (some (.tmp 31)) none, none⟩,
  ⟨some 33, .len (.tmp 32), none⟩,
  ⟨some 34, .move (.cst (.int .i64 0)), none⟩])
 (.block 0
 (.loop [5, 6, 32, 33, 34] true L15_0)))
 (.seq
 (.seq
 (.reg [⟨some 44, .move (.tmp 6), none⟩,
  ⟨some 45, .call (.cst (.func (.func 14) [] [])) [(.tmp 44)], none⟩,
  ⟨some 46, .move (.tmp 5), none⟩,
  ⟨some 47, .bin .add (.tmp 46) (.cst (.int .i64 1)), none⟩,
  ⟨some 48, .bin .neq (.tmp 45) (.tmp 47), none⟩])
 (.cond (.tmp 48)
 (.seq
 (.reg [⟨some 2, .move (.cst (.int .u64 0)), none⟩,
  ⟨some 3, .move (.cst (.int .i64 0)), none⟩,
  ⟨some 4, .move (.cst (.int .i64 10)), none⟩])
 (.ret))
 (.skip)))
 (.seq
 (.reg [⟨some 49, .move (.tmp 6), none⟩,
  ⟨some 50, .move (.tmp 5), none⟩,
  ⟨some 51, .bin .add (.tmp 50) (.cst (.int .i64 1)), none⟩,
  ⟨some 2, .move (.tmp 49), none⟩,
  ⟨some 3, .move (.tmp 51), none⟩,
  ⟨some 4, .move (.cst (.int .i64 0)), none⟩])
 (.ret)))))))))⟩
theorem c15 : compF Try.prog gl true [] [([5, 6, 32, 33, 34], true)] Try.f15 = some F15 := by kernel_rfl
def L16_0 : AC := .seq
 (.seq
 (.reg [⟨some 29, .move (.tmp 7), none⟩,
  ⟨some 30, .move (.tmp 5), none⟩,
  ⟨some 31, .bin .leq (.tmp 29) (.tmp 30), none⟩])
 (.cond (.tmp 31)
 (.skip)
 (.exit 1)))
 (.seq
 (.block 2
 (.reg [⟨some 34, .move (.tmp 6), none⟩,
  ⟨some 35, .bin .mul (.tmp 34) (.cst (.int .u64 256)), none⟩,
  ⟨some 36, .move (.tmp 0), none⟩,
  ⟨some 37, .move (.tmp 7), none⟩,
  ⟨some 38, .indexAddr .slice none (.tmp 36) (.tmp 37), none⟩,
  ⟨some 39, .load none (.tmp 38), none⟩,
  ⟨some 40, .convInt .u64 (.tmp 39), none⟩,
  ⟨some 41, .bin .add (.tmp 35) (.tmp 40), none⟩,
  ⟨some 6, .move (.tmp 41), none⟩]))
 (.reg [⟨some 32, .move (.tmp 7), none⟩,
  ⟨some 33, .bin .add (.tmp 32) (.cst (.int .i64 1)), none⟩,
  ⟨some 7, .move (.tmp 33), none⟩]))
/- tollhouse/tollhouseref01.Read -/
def F16 : AFn := ⟨51, true, 1, [.tmp 2, .tmp 3, .tmp 4], .seq
 (.reg [⟨some 2, .move (.cst (.int .u64 0)), none⟩,
  ⟨some 3, .move (.cst (.int .i64 0)), none⟩,
  ⟨some 4, .move (.cst (.int .i64 0)), none⟩])
 (.seq
 (.seq
 (.reg [⟨some 8, .move (.tmp 0), none⟩,
  ⟨some 9, .len (.tmp 8), none⟩,
  ⟨some 10, .bin .eql (.tmp 9) (.cst (.int .i64 0)), none⟩])
 (.cond (.tmp 10)
 (.seq
 (.reg [⟨some 2, .move (.cst (.int .u64 0)), none⟩,
  ⟨some 3, .move (.cst (.int .i64 0)), none⟩,
  ⟨some 4, .move (.cst (.int .i64 10)), none⟩])
 (.ret))
 (.skip)))
 (.seq
 (.reg [⟨some 5, .move (.cst (.int .i64 0)), none⟩])
 (.seq
 (.seq
 (.reg [⟨some 11, .move (.tmp 0), none⟩,
  ⟨some 12, .indexAddr .slice none (.tmp 11) (.cst (.int .i64 0)), none⟩,
  ⟨some 13, .load none (.tmp 12), none⟩])
 (.block 0
 (.seq
 (.reg [⟨some 19, .bin .eql (.tmp 13) (.cst (.int .u8 253)), none⟩,
  ⟨some 18, .move (.tmp 19), none⟩])
 (.cond (.tmp 18)
 (.reg [⟨some 5, .move (.cst (.int .i64 2)), none⟩])
 (.seq
 (.reg [⟨some 21, .bin .eql (.tmp 13) (.cst (.int .u8 254)), none⟩,
  ⟨some 20, .move (.tmp 21), none⟩])
 (.cond (.tmp 20)
 (.reg [⟨some 5, .move (.cst (.int .i64 4)), none⟩])
 (.seq
 (.reg [⟨some 23, .bin .eql (.tmp 13) (.cst (.int .u8 255)), none⟩,
  ⟨some 22, .move (.tmp 23), none⟩])
 (.cond (.tmp 22)
 (.reg [⟨some 5, .move (.cst (.int .i64 8)), none⟩])
 (.seq
 (.reg [⟨some 14, .move (.tmp 0), none⟩,
  ⟨some 15, .indexAddr .slice none (.tmp 14) (.cst (.int .i64 0)), none⟩,
  ⟨some 16, .load none (.tmp 15), none⟩,
  ⟨some 17, .convInt .u64 (.tmp 16), none⟩,
  ⟨some 2, .move (.tmp 17), none⟩,
  ⟨some 3, .move (.cst (.int .i64 1)), none⟩,
  ⟨some 4, .move (.cst (.int .i64 0)), none⟩])
 (.ret))))))))))
 (.seq
 (.seq
 (.reg [⟨some 24, .move (.tmp 0), none⟩,
  ⟨some 25, .len (.tmp 24), none⟩,
  ⟨some 26, .move (.tmp 5), none⟩,
  ⟨some 27, .bin .add (.tmp 26) (.cst (.int .i64 1)), none⟩,
  ⟨some 28, .bin .lss (.tmp 25) (.tmp 27), none⟩])
 (.cond (.tmp 28)
 (.seq
 (.reg [⟨some 2, .move (.cst (.int .u64 0)), none⟩,
  ⟨some 3, .move (.cst (.int .i64 0)), none⟩,
  ⟨some 4, .move (.cst (.int .i64 10)), none⟩])
 (.ret))
 (.skip)))
 (.seq
 (.reg [⟨some 6, .move (.cst (.int .u64 0)), none⟩])
 (.seq
 (.seq
 (.reg [⟨some 7, .move (.cst (.int .i64 1)), none⟩])
 (.block 1
 (.loop [0, 5, 6, 7] true L16_0)))
 (.seq
 (.seq
 (.reg [⟨some 42, .move (.tmp 6), none⟩,
  ⟨some 43, .call (.cst (.func (.func 12) [] [])) [(.tmp 42)], none⟩,
  ⟨some 44, .len (.tmp 43), none⟩,
  ⟨some 45, .move (.tmp 5), none⟩,
  ⟨some 46, .bin .add (.tmp 45) (.cst (.int .i64 1)), none⟩,
  ⟨some 47, .bin .neq (.tmp 44) (.tmp 46), none⟩])
 (.cond (.tmp 47)
 (.seq
 (.reg [⟨some 2, .move (.cst (.int .u64 0)), none⟩,
  ⟨some 3, .move (.cst (.int .i64 0)), none⟩,
  ⟨some 4, .move (.cst (.int .i64 10)), none⟩])
 (.ret))
 (.skip)))
 (.seq
 (.reg [⟨some 48, .move (.tmp 6), none⟩,
  ⟨some 49, .move (.tmp 5), none⟩,
  ⟨some 50, .bin .add (.tmp 49) (.cst (.int .i64 1)), none⟩,
  ⟨some 2, .move (.tmp 48), none⟩,
  ⟨some 3, .move (.tmp 50), none⟩,
  ⟨some 4, .move (.cst (.int .i64 0)), none⟩])
 (.ret)))))))))⟩
theorem c16 : compF Try.prog gl true [] [([0, 5, 6, 7], true)] Try.f16 = some F16 := by kernel_rfl
/- tollhouse/bigsize.Find -/
def F17 : AFn := ⟨18, true, 2, [.tmp 4, .tmp 5], .seq
 (.reg [⟨some 3, .box (.tmp 1), none⟩,
  ⟨some 4, .move (.cst .nil), none⟩,
  ⟨some 5, .move (.cst (.bool false)), none⟩])
 (.seq
 (.reg [⟨some 7, .move (.tmp 0), none⟩,
  ⟨some 8, .makeFunc (.func 27) [] [(.tmp 3)], none⟩,
  ⟨some 9, .call (.cst (.func (.func 26) [] [])) [(.tmp 7), (.tmp 8)], none⟩,
  ⟨some 6, .move (.tmp 9), none⟩])
 (.seq
 (.seq
 (.reg [⟨some 10, .move (.tmp 6), none⟩,
  ⟨some 11, .bin .lss (.tmp 10) (.cst (.int .i64 0)), none⟩])
 (.cond (.tmp 11)
 (.seq
 (.reg [⟨some 4, .move (.cst .nil), none⟩,
  ⟨some 5, .move (.cst (.bool false)), none⟩])
 (.ret))
 (.skip)))
 (.seq
 (.reg [⟨some 12, .move (.tmp 0), none⟩,
  ⟨some 13, .move (.tmp 6), none⟩,
  ⟨some 14, .indexAddr .slice (some 2) (.tmp 12) (.tmp 13), none⟩,
  ⟨some 15, .fieldAddr 1 1 (.tmp 14), none⟩,
  ⟨some 16, .load none (.tmp 15), none⟩,
  ⟨some 17, .call (.cst (.func (.func 24) [] [])) [(.tmp 16)], none⟩,
  ⟨some 4, .move (.tmp 17), none⟩,
  ⟨some 5, .move (.cst (.bool true)), none⟩])
 (.ret))))⟩
theorem c17 : compF Try.prog gl true [] [] Try.f17 = some F17 := by kernel_rfl
def L18_0 : AC := .seq
 (.reg [⟨some 56, .bin .lss (.tmp 55) (.tmp 54), none⟩])
 (.seq
 (.cond (.tmp 56)
 (.skip)
 (.exit 2))
 (.seq
 (.block 3
 (.seq
 (.reg [⟨some 57, .indexAddr .slice (some 2) (.tmp 53) (.tmp 55), none⟩,
  ⟨some 58, .load (some 2) (.tmp 57), none⟩,
  ⟨some 9, .alloc [(.int .u64 0), .nil], none⟩,
  ⟨none, .store 2 (.tmp 9) (.tmp 58), none⟩])
 (.regD [⟨some 59, .move (.tmp 7), none⟩,
  ⟨some 60, .fieldAddr 0 1 (.tmp 9), none⟩,
  ⟨some 61, .load none (.tmp 60), none⟩,
  ⟨some 62, .call (.cst (.func (.func 11) [] [])) [(.tmp 59), (.tmp 61)], none⟩,
  ⟨some 63, .fieldAddr 1 1 (.tmp 9), none⟩,
  ⟨some 64, .load none (.tmp 63), none⟩,
  ⟨some 65, .len (.tmp 64), none⟩,
  ⟨some 66, .convInt .u64 (.tmp 65), none⟩,
  ⟨some 67, .call (.cst (.func (.func 11) [] [])) [(.tmp 62), (.tmp 66)], none⟩,
  ⟨some 68, .fieldAddr 1 1 (.tmp 9), none⟩,
  ⟨some 69, .load none (.tmp 68), none⟩,
  ⟨some 70, .append none 1 (.tmp 67) (.tmp 69), none⟩,
  ⟨some 7, .move (.tmp 70), none⟩] [(0, 0), (0, 0), (0, 0), (0, 0), (0, 1), (0, 1), (0, 1), (0, 1), (1, 1), (0, 2), (0, 2), (2, 2), (3, 3)])))
 (.reg [⟨some 71, .bin .add (.tmp 55) (.cst (.int .i64 1)), none⟩,
  ⟨some 55, .move (.tmp 71), none⟩])))
def L18_1 : AC := .seq
 (.reg [⟨some 13, .bin .lss (.tmp 12) (.tmp 11), none⟩])
 (.seq
 (.cond (.tmp 13)
 (.skip)
 (.exit 0))
 (.seq
 (.block 1
 (.seq
 (.reg [⟨some 14, .move (.tmp 12), none⟩,
  ⟨some 15, .indexAddr .slice (some 2) (.tmp 10) (.tmp 12), none⟩,
  ⟨some 16, .load (some 2) (.tmp 15), none⟩,
  ⟨some 6, .alloc [(.int .u64 0), .nil], none⟩,
  ⟨some 5, .move (.tmp 14), none⟩,
  ⟨none, .store 2 (.tmp 6) (.tmp 16), none⟩])
 (.seq
 (.seq
 (.regQ [⟨some 17, .move (.tmp 5), none⟩,
  ⟨some 18, .bin .gtr (.tmp 17) (.cst (.int .i64 0)), none⟩,
  ⟨some 19, .move (.tmp 18), none⟩,
  ⟨some 20, .fieldAddr 0 1 (.tmp 6), some (19, true)⟩,
  ⟨some 21, .load none (.tmp 20), some (19, true)⟩,
  ⟨some 22, .move (.tmp 0), some (19, true)⟩,
  ⟨some 23, .move (.tmp 5), some (19, true)⟩,
  ⟨some 24, .bin .sub (.tmp 23) (.cst (.int .i64 1)), some (19, true)⟩,
  ⟨some 25, .indexAddr .slice (some 2) (.tmp 22) (.tmp 24), some (19, true)⟩,
  ⟨some 26, .fieldAddr 0 1 (.tmp 25), some (19, true)⟩,
  ⟨some 27, .load none (.tmp 26), some (19, true)⟩,
  ⟨some 28, .bin .leq (.tmp 21) (.tmp 27), some (19, true)⟩,
  ⟨some 29, .pick (.tmp 19) (.tmp 28) (.cst (.bool false)), none⟩])
 (.cond (.tmp 29)
 (.seq
 (.reg [⟨some 2, .move (.cst .nil), none⟩,
  ⟨some 3, .move (.cst (.int .i64 11)), none⟩])
 (.ret))
 (.skip)))
 (.regD [⟨some 30, .move (.tmp 4), none⟩,
  ⟨some 31, .fieldAddr 0 1 (.tmp 6), none⟩,
  ⟨some 32, .load none (.tmp 31), none⟩,
  ⟨some 33, .call (.cst (.func (.func 14) [] [])) [(.tmp 32)], none⟩,
  ⟨some 34, .fieldAddr 1 1 (.tmp 6), none⟩,
  ⟨some 35, .load none (.tmp 34), none⟩,
  ⟨some 36, .len (.tmp 35), none⟩,
  ⟨some 37, .convInt .u64 (.tmp 36), none⟩,
  ⟨some 38, .call (.cst (.func (.func 14) [] [])) [(.tmp 37)], none⟩,
  ⟨some 39, .bin .add (.tmp 33) (.tmp 38), none⟩,
  ⟨some 40, .fieldAddr 1 1 (.tmp 6), none⟩,
  ⟨some 41, .load none (.tmp 40), none⟩,
  ⟨some 42, .len (.tmp 41), none⟩,
  ⟨some 43, .bin .add (.tmp 39) (.tmp 42), none⟩,
  ⟨some 44, .bin .add (.tmp 30) (.tmp 43), none⟩,
  ⟨some 4, .move (.tmp 44), none⟩] [(0, 2), (0, 0), (0, 0), (0, 0), (0, 1), (0, 1), (0, 1), (0, 1), (1, 1), (2, 2), (0, 2), (0, 2), (0, 2), (2, 2), (2, 2), (2, 2)]))))
 (.reg [⟨some 45, .bin .add (.tmp 12) (.cst (.int .i64 1)), none⟩,
  ⟨some 12, .move (.tmp 45), none⟩])))
/- tollhouse/bigsize.Encode -/
def F18 : AFn := ⟨73, true, 1, [.tmp 2, .tmp 3], .seq
 (.reg [⟨some 2, .move (.cst .nil), none⟩,
  ⟨some 3, .move (.cst (.int .i64 0)), none⟩])
 (.seq
 (.reg [⟨some 4, .move (.cst (.int .i64 0)), none⟩])
 (.seq
 (.seq
 (.reg [⟨some 10, .move (.tmp 0), none⟩,
  ⟨some 11, .len (.tmp 10), none⟩,
  ⟨some 12, .move (.cst (.int .i64 0)), none⟩])
 (.block 0
 (.loop [0, 4, 10, 11, 12] false L18_1)))
 (.seq
 (.seq
 (.reg [⟨some 46, .move (.tmp 0), none⟩,
  ⟨some 47, .len (.tmp 46), none⟩,
  ⟨some 48, .bin .gtr (.tmp 47) (.cst (.int .i64 64)), none⟩,
  ⟨some 49, .move (.tmp 48), none⟩,
  ⟨some 50, .move (.tmp 4), some (49, false)⟩,
  ⟨some 51, .bin .gtr (.tmp 50) (.cst (.int .i64 65536)), some (49, false)⟩,
  ⟨some 52, .pick (.tmp 49) (.cst (.bool true)) (.tmp 51), none⟩])
 (.cond (.tmp 52)
 (.seq
 (.reg [⟨some 2, .move (.cst .nil), none⟩,
  ⟨some 3, .move (.cst (.int .i64 3)), none⟩])
 (.ret))
 (.skip)))
 (.seq
 (.reg [⟨some 7, .move (.cst .nil), none⟩])
 (.seq
 (.seq
 (.reg [⟨some 53, .move (.tmp 0), none⟩,
  ⟨some 54, .len (.tmp 53), none⟩,
  ⟨some 55, .move (.cst (.int .i64 0)), none⟩])
 (.block 2
 (.loop [7, 53, 54, 55] false L18_0)))
 (.seq
 (.reg [⟨some 72, .move (.tmp 7), none⟩,
  ⟨some 2, .move (.tmp 72), none⟩,
  ⟨some 3, .move (.cst (.int .i64 0)), none⟩])
 (.ret)))))))⟩
theorem c18 : compF Try.prog gl true [] [([0, 4, 10, 11, 12], false), ([7, 53, 54, 55], false)] Try.f18 = some F18 := by kernel_rfl
def L19_0 : AC := .seq
 (.seq
 (.reg [⟨some 28, .move (.tmp 6), none⟩,
  ⟨some 29, .move (.tmp 0), none⟩,
  ⟨some 30, .len (.tmp 29), none⟩,
  ⟨some 31, .bin .lss (.tmp 28) (.tmp 30), none⟩])
 (.cond (.tmp 31)
 (.skip)
 (.exit 2)))
 (.seq
 (.block 3
 (.seq
 (.regD [⟨some 34, .move (.tmp 5), none⟩,
  ⟨some 35, .move (.tmp 0), none⟩,
  ⟨some 36, .move (.tmp 6), none⟩,
  ⟨some 37, .indexAddr .slice (some 2) (.tmp 35) (.tmp 36), none⟩,
  ⟨some 38, .fieldAddr 0 1 (.tmp 37), none⟩,
  ⟨some 39, .load none (.tmp 38), none⟩,
  ⟨some 40, .call (.cst (.func (.func 12) [] [])) [(.tmp 39)], none⟩,
  ⟨some 41, .append none 1 (.tmp 34) (.tmp 40), none⟩,
  ⟨some 42, .move (.tmp 0), none⟩,
  ⟨some 43, .move (.tmp 6), none⟩,
  ⟨some 44, .indexAddr .slice (some 2) (.tmp 42) (.tmp 43), none⟩,
  ⟨some 45, .fieldAddr 1 1 (.tmp 44), none⟩,
  ⟨some 46, .load none (.tmp 45), none⟩,
  ⟨some 47, .len (.tmp 46), none⟩,
  ⟨some 48, .convInt .u64 (.tmp 47), none⟩,
  ⟨some 49, .call (.cst (.func (.func 12) [] [])) [(.tmp 48)], none⟩,
  ⟨some 50, .append none 1 (.tmp 41) (.tmp 49), none⟩,
  ⟨some 5, .move (.tmp 50), none⟩] [(0, 1), (0, 0), (0, 0), (0, 0), (0, 0), (0, 0), (0, 0), (1, 1), (0, 2), (0, 2), (0, 2), (0, 2), (0, 2), (0, 2), (0, 2), (2, 2), (3, 3), (4, 4)])
 (.seq
 (.reg [⟨some 51, .move (.tmp 5), none⟩,
  ⟨some 52, .move (.tmp 0), none⟩,
  ⟨some 53, .move (.tmp 6), none⟩,
  ⟨some 54, .indexAddr .slice (some 2) (.tmp 52) (.tmp 53), none⟩,
  ⟨some 55, .fieldAddr 1 1 (.tmp 54), none⟩,
  ⟨some 56, .load none (.tmp 55), none⟩,
  ⟨some 57, .append none 1 (.tmp 51) (.tmp 56), none⟩,
  ⟨some 5, .move (.tmp 57), none⟩])
 (.seq
 (.reg [⟨some 58, .move (.tmp 5), none⟩,
  ⟨some 59, .len (.tmp 58), none⟩,
  ⟨some 60, .bin .gtr (.tmp 59) (.cst (.int .i64 65536)), none⟩])
 (.cond (.tmp 60)
 (.seq
 (.reg [⟨some 2, .move (.cst .nil), none⟩,
  ⟨some 3, .move (.cst (.int .i64 3)), none⟩])
 (.ret))
 (.skip))))))
 (.reg [⟨some 32, .move (.tmp 6), none⟩,
  ⟨some 33, .bin .add (.tmp 32) (.cst (.int .i64 1)), none⟩,
  ⟨some 6, .move (.tmp 33), none⟩]))
def L19_1 : AC := .seq
 (.seq
 (.reg [⟨some 7, .move (.tmp 4), none⟩,
  ⟨some 8, .move (.tmp 0), none⟩,
  ⟨some 9, .len (.tmp 8), none⟩,
  ⟨some 10, .bin .lss (.tmp 7) (.tmp 9), none⟩])
 (.cond (.tmp 10)
 (.skip)
 (.exit 0)))
 (.seq
 (.block 1
 (.seq
 (.regQ [⟨some 13, .move (.tmp 0), none⟩,
  ⟨some 14, .move (.tmp 4), none⟩,
  ⟨some 15, .indexAddr .slice (some 2) (.tmp 13) (.tmp 14), none⟩,
  ⟨some 16, .fieldAddr 0 1 (.tmp 15), none⟩,
  ⟨some 17, .load none (.tmp 16), none⟩,
  ⟨some 18, .move (.tmp 0), none⟩,
  ⟨some 19, .move (.tmp 4), none⟩,
  ⟨some 20, .bin .sub (.tmp 19) (.cst (.int .i64 1)), none⟩,
  ⟨some 21, .indexAddr .slice (some 2) (.tmp 18) (.tmp 20), none⟩,
  ⟨some 22, .fieldAddr 0 1 (.tmp 21), none⟩,
  ⟨some 23, .load none (.tmp 22), none⟩,
  ⟨some 24, .bin .leq (.tmp 17) (.tmp 23), none⟩])
 (.cond (.tmp 24)
 (.seq
 (.reg [⟨some 2, .move (.cst .nil), none⟩,
  ⟨some 3, .move (.cst (.int .i64 11)), none⟩])
 (.ret))
 (.skip))))
 (.reg [⟨some 11, .move (.tmp 4), none⟩,
  ⟨some 12, .bin .add (.tmp 11) (.cst (.int .i64 1)), none⟩,
  ⟨some 4, .move (.tmp 12), none⟩]))
/- tollhouse/tollhouseref01.Encode -/
def F19 : AFn := ⟨62, true, 1, [.tmp 2, .tmp 3], .seq
 (.reg [⟨some 2, .move (.cst .nil), none⟩,
  ⟨some 3, .move (.cst (.int .i64 0)), none⟩])
 (.seq
 (.seq
 (.reg [⟨some 4, .move (.cst (.int .i64 1)), none⟩])
 (.block 0
 (.loop [0, 4] false L19_1)))
 (.seq
 (.seq
 (.reg [⟨some 25, .move (.tmp 0), none⟩,
  ⟨some 26, .len (.tmp 25), none⟩,
  ⟨some 27, .bin .gtr (.tmp 26) (.cst (.int .i64 64)), none⟩])
 (.cond (.tmp 27)
 (.seq
 (.reg [⟨some 2, .move (.cst .nil), none⟩,
  ⟨some 3, .move (.cst (.int .i64 3)), none⟩])
 (.ret))
 (.skip)))
 (.seq
 (.reg [⟨some 5, .acc none (.cst .nil), none⟩])
 (.seq
 (.seq
 (.reg [⟨some 6, .move (.cst (.int .i64 0)), none⟩])
 (.block 2
 (.loop [0, 5, 6] false L19_0)))
 (.seq
 (.reg [⟨some 61, .move (.tmp 5), none⟩,
  ⟨some 2, .move (.tmp 61), none⟩,
  ⟨some 3, .move (.cst (.int .i64 0)), none⟩])
 (.ret))))))⟩
theorem c19 : compF Try.prog gl true [(5, none)] [([0, 4], false), ([0, 5, 6], false)] Try.f19 = some F19 := by kernel_rfl
def L20_0 : AC := .seq
 (.reg [⟨some 26, .bin .lss (.tmp 25) (.cst (.int .i64 2)), none⟩])
 (.seq
 (.cond (.tmp 26)
 (.skip)
 (.exit 2))
 (.seq
 (.block 3
 (.seq
 (.reg [⟨some 27, .move (.tmp 25), none⟩,
  ⟨some 10, .move (.tmp 27), none⟩])
 (.seq
 (.reg [⟨some 29, .move (.tmp 0), none⟩,
  ⟨some 30, .move (.tmp 8), none⟩,
  ⟨some 31, .slice .slice none (.tmp 29) (some (.tmp 30)) none none, none⟩,
  ⟨some 32, .call (.cst (.func (.func 15) [] [])) [(.tmp 31)], none⟩,
  ⟨some 28, .move (.tmp 32), none⟩,
  ⟨some 33, .extract (.tmp 28) 0, none⟩,
  ⟨some 34, .extract (.tmp 28) 1, none⟩,
  ⟨some 35, .extract (.tmp 28) 2, none⟩,
  ⟨some 11, .move (.tmp 33), none⟩,
  ⟨some 12, .move (.tmp 34), none⟩,
  ⟨some 13, .move (.tmp 35), none⟩])
 (.seq
 (.block 4
 (.seq
 (.reg [⟨some 37, .move (.tmp 13), none⟩,
  ⟨some 38, .bin .neq (.tmp 37) (.cst (.int .i64 0)), none⟩,
  ⟨some 36, .move (.tmp 38), none⟩])
 (.cond (.tmp 36)
 (.seq
 (.reg [⟨some 39, .move (.tmp 13), none⟩,
  ⟨some 7, .move (.tmp 39), none⟩])
 (.exit 0))
 (.seq
 (.reg [⟨some 41, .move (.tmp 10), none⟩,
  ⟨some 42, .bin .eql (.tmp 41) (.cst (.int .i64 0)), none⟩,
  ⟨some 43, .move (.tmp 42), none⟩,
  ⟨some 44, .move (.tmp 6), some (43, true)⟩,
  ⟨some 45, .len (.tmp 44), some (43, true)⟩,
  ⟨some 46, .bin .gtr (.tmp 45) (.cst (.int .i64 0)), some (43, true)⟩,
  ⟨some 47, .pick (.tmp 43) (.tmp 46) (.cst (.bool false)), none⟩,
  ⟨some 48, .move (.tmp 47), none⟩,
  ⟨some 49, .move (.tmp 11), some (48, true)⟩,
  ⟨some 50, .move (.tmp 6), some (48, true)⟩,
  ⟨some 51, .move (.tmp 6), some (48, true)⟩,
  ⟨some 52, .len (.tmp 51), some (48, true)⟩,
  ⟨some 53, .bin .sub (.tmp 52) (.cst (.int .i64 1)), some (48, true)⟩,
  ⟨some 54, .indexAddr .slice (some 2) (.tmp 50) (.tmp 53), some (48, true)⟩,
  ⟨some 55, .fieldAddr 0 1 (.tmp 54), some (48, true)⟩,
  ⟨some 56, .load none (.tmp 55), some (48, true)⟩,
  ⟨some 57, .bin .leq (.tmp 49) (.tmp 56), some (48, true)⟩,
  ⟨some 58, .pick (.tmp 48) (.tmp 57) (.cst (.bool false)), none⟩,
  ⟨some 40, .move (.tmp 58), none⟩])
 (.cond (.tmp 40)
 (.seq
 (.reg [⟨some 7, .move (.cst (.int .i64 11)), none⟩])
 (.exit 0))
 (.skip))))))
 (.reg [⟨some 59, .move (.tmp 10), none⟩,
  ⟨some 60, .move (.tmp 11), none⟩,
  ⟨some 61, .move (.tmp 8), none⟩,
  ⟨some 62, .move (.tmp 12), none⟩,
  ⟨some 63, .bin .add (.tmp 61) (.tmp 62), none⟩,
  ⟨some 64, .indexAddr (.arr 2) none (.tmp 9) (.tmp 59), none⟩,
  ⟨none, .store 1 (.tmp 64) (.tmp 60), none⟩,
  ⟨some 8, .move (.tmp 63), none⟩])))))
 (.reg [⟨some 65, .bin .add (.tmp 25) (.cst (.int .i64 1)), none⟩,
  ⟨some 25, .move (.tmp 65), none⟩])))
def L20_1 : AC := .seq
 (.seq
 (.reg [⟨some 18, .move (.tmp 8), none⟩,
  ⟨some 19, .move (.tmp 0), none⟩,
  ⟨some 20, .len (.tmp 19), none⟩,
  ⟨some 21, .bin .lss (.tmp 18) (.tmp 20), none⟩])
 (.cond (.tmp 21)
 (.skip)
 (.exit 0)))
 (.block 1
 (.seq
 (.seq
 (.reg [⟨some 22, .move (.tmp 6), none⟩,
  ⟨some 23, .len (.tmp 22), none⟩,
  ⟨some 24, .bin .geq (.tmp 23) (.cst (.int .i64 64)), none⟩])
 (.cond (.tmp 24)
 (.seq
 (.reg [⟨some 7, .move (.cst (.int .i64 3)), none⟩])
 (.exit 0))
 (.skip)))
 (.seq
 (.reg [⟨some 9, .alloc [(.int .u64 0), (.int .u64 0)], none⟩])
 (.seq
 (.seq
 (.reg [⟨some 25, .move (.cst (.int .i64 0)), none⟩])
 (.block 2
 (.loop [0, 1, 6, 7, 8, 9, 25] false L20_0)))
 (.seq
 (.block 5
 (.seq
 (.reg [⟨some 67, .indexAddr (.arr 2) none (.tmp 9) (.cst (.int .i64 1)), none⟩,
  ⟨some 68, .load none (.tmp 67), none⟩,
  ⟨some 69, .move (.tmp 0), none⟩,
  ⟨some 70, .len (.tmp 69), none⟩,
  ⟨some 71, .move (.tmp 8), none⟩,
  ⟨some 72, .bin .sub (.tmp 70) (.tmp 71), none⟩,
  ⟨some 73, .convInt .u64 (.tmp 72), none⟩,
  ⟨some 74, .bin .gtr (.tmp 68) (.tmp 73), none⟩,
  ⟨some 66, .move (.tmp 74), none⟩])
 (.cond (.tmp 66)
 (.seq
 (.reg [⟨some 7, .move (.cst (.int .i64 10)), none⟩])
 (.exit 0))
 (.seq
 (.reg [⟨some 76, .indexAddr (.arr 2) none (.tmp 9) (.cst (.int .i64 0)), none⟩,
  ⟨some 77, .load none (.tmp 76), none⟩,
  ⟨some 78, .bin .rem (.tmp 77) (.cst (.int .u64 2)), none⟩,
  ⟨some 79, .bin .eql (.tmp 78) (.cst (.int .u64 0)), none⟩,
  ⟨some 80, .move (.tmp 79), none⟩,
  ⟨some 81, .move (.tmp 1), some (80, true)⟩,
  ⟨some 82, .indexAddr (.arr 2) none (.tmp 9) (.cst (.int .i64 0)), some (80, true)⟩,
  ⟨some 83, .load none (.tmp 82), some (80, true)⟩,
  ⟨some 84, .call (.cst (.func (.func 28) [] [])) [(.tmp 81), (.tmp 83)], some (80, true)⟩,
  ⟨some 85, .un .not (.tmp 84), some (80, true)⟩,
  ⟨some 86, .pick (.tmp 80) (.tmp 85) (.cst (.bool false)), none⟩,
  ⟨some 75, .move (.tmp 86), none⟩])
 (.cond (.tmp 75)
 (.seq
 (.reg [⟨some 7, .move (.cst (.int .i64 12)), none⟩])
 (.exit 0))
 (.skip))))))
 (.seq
 (.reg [⟨some 87, .move (.tmp 8), none⟩,
  ⟨some 88, .indexAddr (.arr 2) none (.tmp 9) (.cst (.int .i64 1)), none⟩,
  ⟨some 89, .load none (.tmp 88), none⟩,
  ⟨some 90, .convInt .i64 (.tmp 89), none⟩,
  ⟨some 91, .bin .add (.tmp 87) (.tmp 90), none⟩,
  ⟨some 14, .move (.tmp 91), none⟩])
 (.seq
 (.regD [⟨some 92, .move (.tmp 6), none⟩,
  ⟨some 93, .indexAddr (.arr 2) none (.tmp 9) (.cst (.int .i64 0)), none⟩,
  ⟨some 94, .load none (.tmp 93), none⟩,
  ⟨some 95, .move (.tmp 0), none⟩,
  ⟨some 96, .move (.tmp 8), none⟩,
  ⟨some 97, .move (.tmp 14), none⟩,
  ⟨some 98, .slice .slice none (.tmp 95) (some (.tmp 96)) (some (.tmp 97)) none, none⟩,
  ⟨some 99, .call (.cst (.func (.func 24) [] [])) [(.tmp 98)], none⟩,
  ⟨some 100, .build [(.int .u64 0), .nil] [(0, 1, (.tmp 94)), (1, 1, (.tmp 99))], none⟩,
  ⟨some 101, .buildSlice (some 2) (.agg [(.int .u64 0), .nil]) 1 [(0, (.tmp 100))], none⟩,
  ⟨some 102, .append (some 2) 32 (.tmp 92) (.tmp 101), none⟩,
  ⟨some 6, .move (.tmp 102), none⟩] [(0, 1), (0, 1), (0, 1), (0, 0), (0, 0), (0, 0), (0, 0), (0, 0), (1, 1), (1, 1), (1, 1), (2, 2)])
 (.reg [⟨some 103, .move (.tmp 14), none⟩,
  ⟨some 8, .move (.tmp 103), none⟩]))))))))
/- tollhouse/bigsize.Decode -/
def F20 : AFn := ⟨108, true, 2, [.tmp 4, .tmp 5], .seq
 (.reg [⟨some 4, .move (.cst .nil), none⟩,
  ⟨some 5, .move (.cst (.int .i64 0)), none⟩])
 (.scope
 (.seq
 (.seq
 (.reg [⟨some 15, .move (.tmp 0), none⟩,
  ⟨some 16, .len (.tmp 15), none⟩,
  ⟨some 17, .bin .gtr (.tmp 16) (.cst (.int .i64 65536)), none⟩])
 (.cond (.tmp 17)
 (.seq
 (.reg [⟨some 4, .move (.cst .nil), none⟩,
  ⟨some 5, .move (.cst (.int .i64 3)), none⟩])
 (.ret))
 (.skip)))
 (.seq
 (.reg [⟨some 6, .acc (some 2) (.cst .nil), none⟩])
 (.seq
 (.reg [⟨some 7, .move (.cst (.int .i64 0)), none⟩])
 (.seq
 (.reg [⟨some 8, .move (.cst (.int .i64 0)), none⟩])
 (.seq
 (.skip)
 (.seq
 (.block 0
 (.loop [0, 1, 6, 7, 8] false L20_1))
 (.seq
 (.seq
 (.reg [⟨some 104, .move (.tmp 7), none⟩,
  ⟨some 105, .bin .neq (.tmp 104) (.cst (.int .i64 0)), none⟩])
 (.cond (.tmp 105)
 (.seq
 (.reg [⟨some 106, .move (.tmp 7), none⟩,
  ⟨some 4, .move (.cst .nil), none⟩,
  ⟨some 5, .move (.tmp 106), none⟩])
 (.ret))
 (.skip)))
 (.seq
 (.reg [⟨some 107, .move (.tmp 6), none⟩,
  ⟨some 4, .move (.tmp 107), none⟩,
  ⟨some 5, .move (.cst (.int .i64 0)), none⟩])
 (.ret))))))))))⟩
theorem c20 : compF Try.prog gl true [(6, (some 2))] [([0, 1, 6, 7, 8], false), ([0, 1, 6, 7, 8, 9, 25], false)] Try.f20 = some F20 := by kernel_rfl
def L21_0 : AC := .seq
 (.seq
 (.reg [⟨some 11, .move (.tmp 5), none⟩,
  ⟨some 12, .move (.tmp 0), none⟩,
  ⟨some 13, .len (.tmp 12), none⟩,
  ⟨some 14, .bin .lss (.tmp 11) (.tmp 13), none⟩])
 (.cond (.tmp 14)
 (.skip)
 (.exit 0)))
 (.seq
 (.block 1
 (.seq
 (.regD [⟨some 17, .move (.tmp 0), none⟩,
  ⟨some 18, .move (.tmp 5), none⟩,
  ⟨some 19, .indexAddr .slice (some 2) (.tmp 17) (.tmp 18), none⟩,
  ⟨some 20, .fieldAddr 0 1 (.tmp 19), none⟩,
  ⟨some 21, .load none (.tmp 20), none⟩,
  ⟨some 22, .move (.tmp 1), none⟩,
  ⟨some 23, .move (.tmp 5), none⟩,
  ⟨some 24, .indexAddr .slice (some 2) (.tmp 22) (.tmp 23), none⟩,
  ⟨some 25, .fieldAddr 0 1 (.tmp 24), none⟩,
  ⟨some 26, .load none (.tmp 25), none⟩,
  ⟨some 27, .bin .neq (.tmp 21) (.tmp 26), none⟩,
  ⟨some 28, .move (.tmp 27), none⟩,
  ⟨some 29, .move (.tmp 0), some (28, false)⟩,
  ⟨some 30, .move (.tmp 5), some (28, false)⟩,
  ⟨some 31, .indexAddr .slice (some 2) (.tmp 29) (.tmp 30), some (28, false)⟩,
  ⟨some 32, .fieldAddr 1 1 (.tmp 31), some (28, false)⟩,
  ⟨some 33, .load none (.tmp 32), some (28, false)⟩,
  ⟨some 34, .convStr (.tmp 33), some (28, false)⟩,
  ⟨some 35, .move (.tmp 1), some (28, false)⟩,
  ⟨some 36, .move (.tmp 5), some (28, false)⟩,
  ⟨some 37, .indexAddr .slice (some 2) (.tmp 35) (.tmp 36), some (28, false)⟩,
  ⟨some 38, .fieldAddr 1 1 (.tmp 37), some (28, false)⟩,
  ⟨some 39, .load none (.tmp 38), some (28, false)⟩,
  ⟨some 40, .convStr (.tmp 39), some (28, false)⟩,
  ⟨some 41, .bin .neq (.tmp 34) (.tmp 40), some (28, false)⟩,
  ⟨some 42, .pick (.tmp 28) (.cst (.bool true)) (.tmp 41), none⟩] [(0, 0), (0, 0), (0, 0), (0, 0), (0, 0), (0, 0), (0, 0), (0, 0), (0, 0), (0, 0), (0, 0), (0, 0), (0, 0), (0, 0), (0, 0), (0, 0), (0, 0), (0, 0), (0, 0), (0, 0), (0, 0), (0, 0), (0, 0), (0, 0), (0, 0), (0, 0)])
 (.cond (.tmp 42)
 (.seq
 (.reg [⟨some 4, .move (.cst (.bool false)), none⟩])
 (.ret))
 (.skip))))
 (.reg [⟨some 15, .move (.tmp 5), none⟩,
  ⟨some 16, .bin .add (.tmp 15) (.cst (.int .i64 1)), none⟩,
  ⟨some 5, .move (.tmp 16), none⟩]))
/- tollhouse/tollhouselaw01.SameRecords -/
def F21 : AFn := ⟨43, true, 2, [.tmp 4], .seq
 (.reg [⟨some 4, .move (.cst (.bool false)), none⟩])
 (.seq
 (.seq
 (.reg [⟨some 6, .move (.tmp 0), none⟩,
  ⟨some 7, .len (.tmp 6), none⟩,
  ⟨some 8, .move (.tmp 1), none⟩,
  ⟨some 9, .len (.tmp 8), none⟩,
  ⟨some 10, .bin .neq (.tmp 7) (.tmp 9), none⟩])
 (.cond (.tmp 10)
 (.seq
 (.reg [⟨some 4, .move (.cst (.bool false)), none⟩])
 (.ret))
 (.skip)))
 (.seq
 (.seq
 (.reg [⟨some 5, .move (.cst (.int .i64 0)), none⟩])
 (.block 0
 (.loop [0, 1, 5] true L21_0)))
 (.seq
 (.reg [⟨some 4, .move (.cst (.bool true)), none⟩])
 (.ret))))⟩
theorem c21 : compF Try.prog gl true [] [([0, 1, 5], true)] Try.f21 = some F21 := by kernel_rfl
def L22_0 : AC := .seq
 (.seq
 (.reg [⟨some 14, .move (.tmp 0), none⟩,
  ⟨some 15, .len (.tmp 14), none⟩,
  ⟨some 16, .bin .gtr (.tmp 15) (.cst (.int .i64 0)), none⟩])
 (.cond (.tmp 16)
 (.skip)
 (.exit 0)))
 (.block 1
 (.seq
 (.seq
 (.reg [⟨some 17, .move (.tmp 6), none⟩,
  ⟨some 18, .len (.tmp 17), none⟩,
  ⟨some 19, .bin .eql (.tmp 18) (.cst (.int .i64 64)), none⟩])
 (.cond (.tmp 19)
 (.seq
 (.reg [⟨some 4, .move (.cst .nil), none⟩,
  ⟨some 5, .move (.cst (.int .i64 3)), none⟩])
 (.ret))
 (.skip)))
 (.seq
 (.reg [⟨some 21, .move (.tmp 0), none⟩,
  ⟨some 22, .call (.cst (.func (.func 16) [] [])) [(.tmp 21)], none⟩,
  ⟨some 20, .move (.tmp 22), none⟩,
  ⟨some 23, .extract (.tmp 20) 0, none⟩,
  ⟨some 24, .extract (.tmp 20) 1, none⟩,
  ⟨some 25, .extract (.tmp 20) 2, none⟩,
  ⟨some 7, .move (.tmp 23), none⟩,
  ⟨some 8, .move (.tmp 24), none⟩,
  ⟨some 9, .move (.tmp 25), none⟩])
 (.seq
 (.seq
 (.reg [⟨some 26, .move (.tmp 9), none⟩,
  ⟨some 27, .bin .neq (.tmp 26) (.cst (.int .i64 0)), none⟩])
 (.cond (.tmp 27)
 (.seq
 (.reg [⟨some 28, .move (.tmp 9), none⟩,
  ⟨some 4, .move (.cst .nil), none⟩,
  ⟨some 5, .move (.tmp 28), none⟩])
 (.ret))
 (.skip)))
 (.seq
 (.seq
 (.reg [⟨some 29, .move (.tmp 6), none⟩,
  ⟨some 30, .len (.tmp 29), none⟩,
  ⟨some 31, .bin .gtr (.tmp 30) (.cst (.int .i64 0)), none⟩,
  ⟨some 32, .move (.tmp 31), none⟩,
  ⟨some 33, .move (.tmp 7), some (32, true)⟩,
  ⟨some 34, .move (.tmp 6), some (32, true)⟩,
  ⟨some 35, .move (.tmp 6), some (32, true)⟩,
  ⟨some 36, .len (.tmp 35), some (32, true)⟩,
  ⟨some 37, .bin .sub (.tmp 36) (.cst (.int .i64 1)), some (32, true)⟩,
  ⟨some 38, .indexAddr .slice (some 2) (.tmp 34) (.tmp 37), some (32, true)⟩,
  ⟨some 39, .fieldAddr 0 1 (.tmp 38), some (32, true)⟩,
  ⟨some 40, .load none (.tmp 39), some (32, true)⟩,
  ⟨some 41, .bin .leq (.tmp 33) (.tmp 40), some (32, true)⟩,
  ⟨some 42, .pick (.tmp 32) (.tmp 41) (.cst (.bool false)), none⟩])
 (.cond (.tmp 42)
 (.seq
 (.reg [⟨some 4, .move (.cst .nil), none⟩,
  ⟨some 5, .move (.cst (.int .i64 11)), none⟩])
 (.ret))
 (.skip)))
 (.seq
 (.reg [⟨some 43, .move (.tmp 0), none⟩,
  ⟨some 44, .move (.tmp 8), none⟩,
  ⟨some 45, .slice .slice none (.tmp 43) (some (.tmp 44)) none none, none⟩,
  ⟨some 0, .move (.tmp 45), none⟩])
 (.seq
 (.reg [⟨some 47, .move (.tmp 0), none⟩,
  ⟨some 48, .call (.cst (.func (.func 16) [] [])) [(.tmp 47)], none⟩,
  ⟨some 46, .move (.tmp 48), none⟩,
  ⟨some 49, .extract (.tmp 46) 0, none⟩,
  ⟨some 50, .extract (.tmp 46) 1, none⟩,
  ⟨some 51, .extract (.tmp 46) 2, none⟩,
  ⟨some 10, .move (.tmp 49), none⟩,
  ⟨some 8, .move (.tmp 50), none⟩,
  ⟨some 9, .move (.tmp 51), none⟩])
 (.seq
 (.seq
 (.reg [⟨some 52, .move (.tmp 9), none⟩,
  ⟨some 53, .bin .neq (.tmp 52) (.cst (.int .i64 0)), none⟩])
 (.cond (.tmp 53)
 (.seq
 (.reg [⟨some 54, .move (.tmp 9), none⟩,
  ⟨some 4, .move (.cst .nil), none⟩,
  ⟨some 5, .move (.tmp 54), none⟩])
 (.ret))
 (.skip)))
 (.seq
 (.reg [⟨some 55, .move (.tmp 0), none⟩,
  ⟨some 56, .move (.tmp 8), none⟩,
  ⟨some 57, .slice .slice none (.tmp 55) (some (.tmp 56)) none none, none⟩,
  ⟨some 0, .move (.tmp 57), none⟩])
 (.seq
 (.seq
 (.reg [⟨some 58, .move (.tmp 10), none⟩,
  ⟨some 59, .move (.tmp 0), none⟩,
  ⟨some 60, .len (.tmp 59), none⟩,
  ⟨some 61, .convInt .u64 (.tmp 60), none⟩,
  ⟨some 62, .bin .gtr (.tmp 58) (.tmp 61), none⟩])
 (.cond (.tmp 62)
 (.seq
 (.reg [⟨some 4, .move (.cst .nil), none⟩,
  ⟨some 5, .move (.cst (.int .i64 10)), none⟩])
 (.ret))
 (.skip)))
 (.seq
 (.seq
 (.reg [⟨some 63, .move (.tmp 7), none⟩,
  ⟨some 64, .bin .rem (.tmp 63) (.cst (.int .u64 2)), none⟩,
  ⟨some 65, .bin .eql (.tmp 64) (.cst (.int .u64 0)), none⟩,
  ⟨some 66, .move (.tmp 65), none⟩,
  ⟨some 67, .move (.tmp 1), some (66, true)⟩,
  ⟨some 68, .move (.tmp 7), some (66, true)⟩,
  ⟨some 69, .call (.cst (.func (.func 29) [] [])) [(.tmp 67), (.tmp 68)], some (66, true)⟩,
  ⟨some 70, .un .not (.tmp 69), some (66, true)⟩,
  ⟨some 71, .pick (.tmp 66) (.tmp 70) (.cst (.bool false)), none⟩])
 (.cond (.tmp 71)
 (.seq
 (.reg [⟨some 4, .move (.cst .nil), none⟩,
  ⟨some 5, .move (.cst (.int .i64 12)), none⟩])
 (.ret))
 (.skip)))
 (.seq
 (.reg [⟨some 72, .move (.tmp 6), none⟩,
  ⟨some 73, .move (.tmp 7), none⟩,
  ⟨some 74, .buildSlice none (.int .u8 0) 0 [], none⟩,
  ⟨some 75, .move (.tmp 0), none⟩,
  ⟨some 76, .move (.tmp 10), none⟩,
  ⟨some 77, .slice .slice none (.tmp 75) none (some (.tmp 76)) none, none⟩,
  ⟨some 78, .append none 1 (.tmp 74) (.tmp 77), none⟩,
  ⟨some 79, .build [(.int .u64 0), .nil] [(0, 1, (.tmp 73)), (1, 1, (.tmp 78))], none⟩,
  ⟨some 80, .buildSlice (some 2) (.agg [(.int .u64 0), .nil]) 1 [(0, (.tmp 79))], none⟩,
  ⟨some 81, .append (some 2) 32 (.tmp 72) (.tmp 80), none⟩,
  ⟨some 6, .move (.tmp 81), none⟩])
 (.reg [⟨some 82, .move (.tmp 0), none⟩,
  ⟨some 83, .move (.tmp 10), none⟩,
  ⟨some 84, .slice .slice none (.tmp 82) (some (.tmp 83)) none none, none⟩,
  ⟨some 0, .move (.tmp 84), none⟩])))))))))))))
/- tollhouse/tollhouseref01.Decode -/
def F22 : AFn := ⟨86, true, 2, [.tmp 4, .tmp 5], .seq
 (.reg [⟨some 4, .move (.cst .nil), none⟩,
  ⟨some 5, .move (.cst (.int .i64 0)), none⟩])
 (.seq
 (.seq
 (.reg [⟨some 11, .move (.tmp 0), none⟩,
  ⟨some 12, .len (.tmp 11), none⟩,
  ⟨some 13, .bin .gtr (.tmp 12) (.cst (.int .i64 65536)), none⟩])
 (.cond (.tmp 13)
 (.seq
 (.reg [⟨some 4, .move (.cst .nil), none⟩,
  ⟨some 5, .move (.cst (.int .i64 3)), none⟩])
 (.ret))
 (.skip)))
 (.seq
 (.reg [⟨some 6, .acc (some 2) (.cst .nil), none⟩])
 (.seq
 (.block 0
 (.loop [0, 1, 6] false L22_0))
 (.seq
 (.reg [⟨some 85, .move (.tmp 6), none⟩,
  ⟨some 4, .move (.tmp 85), none⟩,
  ⟨some 5, .move (.cst (.int .i64 0)), none⟩])
 (.ret)))))⟩
theorem c22 : compF Try.prog gl true [(6, (some 2))] [([0, 1, 6], false)] Try.f22 = some F22 := by kernel_rfl
/- slices.Clone[[]byte,byte] -/
def F24 : AFn := ⟨8, true, 1, [.tmp 2], .seq
 (.reg [⟨some 2, .move (.cst .nil), none⟩])
 (.seq
 (.seq
 (.reg [⟨some 3, .move (.tmp 0), none⟩,
  ⟨some 4, .eqNil false .slice (.tmp 3), none⟩])
 (.cond (.tmp 4)
 (.seq
 (.reg [⟨some 2, .move (.cst .nil), none⟩])
 (.ret))
 (.skip)))
 (.seq
 (.reg [⟨some 5, .buildSlice none (.int .u8 0) 0 [], none⟩,
  ⟨some 6, .move (.tmp 0), none⟩,
  ⟨some 7, .append none 1 (.tmp 5) (.tmp 6), none⟩,
  ⟨some 2, .move (.tmp 7), none⟩])
 (.ret)))⟩
theorem c24 : compF Try.prog gl true [] [] Try.f24 = some F24 := by kernel_rfl
/- tollhouse/bigsize.width -/
def F25 : AFn := ⟨13, true, 1, [.tmp 2, .tmp 3], .seq
 (.reg [⟨some 2, .move (.cst (.int .u8 0)), none⟩,
  ⟨some 3, .move (.cst (.int .i64 0)), none⟩])
 (.seq
 (.block 0
 (.seq
 (.reg [⟨some 5, .move (.tmp 0), none⟩,
  ⟨some 6, .bin .lss (.tmp 5) (.cst (.int .u64 253)), none⟩,
  ⟨some 4, .move (.tmp 6), none⟩])
 (.cond (.tmp 4)
 (.seq
 (.reg [⟨some 2, .move (.cst (.int .u8 0)), none⟩,
  ⟨some 3, .move (.cst (.int .i64 0)), none⟩])
 (.ret))
 (.seq
 (.reg [⟨some 8, .move (.tmp 0), none⟩,
  ⟨some 9, .bin .leq (.tmp 8) (.cst (.int .u64 65535)), none⟩,
  ⟨some 7, .move (.tmp 9), none⟩])
 (.cond (.tmp 7)
 (.seq
 (.reg [⟨some 2, .move (.cst (.int .u8 253)), none⟩,
  ⟨some 3, .move (.cst (.int .i64 2)), none⟩])
 (.ret))
 (.seq
 (.reg [⟨some 11, .move (.tmp 0), none⟩,
  ⟨some 12, .bin .leq (.tmp 11) (.cst (.int .u64 4294967295)), none⟩,
  ⟨some 10, .move (.tmp 12), none⟩])
 (.cond (.tmp 10)
 (.seq
 (.reg [⟨some 2, .move (.cst (.int .u8 254)), none⟩,
  ⟨some 3, .move (.cst (.int .i64 4)), none⟩])
 (.ret))
 (.skip))))))))
 (.seq
 (.reg [⟨some 2, .move (.cst (.int .u8 255)), none⟩,
  ⟨some 3, .move (.cst (.int .i64 8)), none⟩])
 (.ret)))⟩
theorem c25 : compF Try.prog gl true [] [] Try.f25 = some F25 := by kernel_rfl
def L26_0 : AC := .seq
 (.reg [⟨some 9, .bin .lss (.tmp 8) (.tmp 7), none⟩])
 (.seq
 (.cond (.tmp 9)
 (.skip)
 (.exit 0))
 (.seq
 (.block 1
 (.seq
 (.reg [⟨some 10, .move (.tmp 8), none⟩,
  ⟨some 5, .move (.tmp 10), none⟩])
 (.seq
 (.reg [⟨some 11, .move (.tmp 1), none⟩,
  ⟨some 12, .move (.tmp 0), none⟩,
  ⟨some 13, .move (.tmp 5), none⟩,
  ⟨some 14, .indexAddr .slice (some 2) (.tmp 12) (.tmp 13), none⟩,
  ⟨some 15, .load (some 2) (.tmp 14), none⟩,
  ⟨some 16, .call (.tmp 11) [(.tmp 15)], none⟩])
 (.cond (.tmp 16)
 (.seq
 (.reg [⟨some 17, .move (.tmp 5), none⟩,
  ⟨some 4, .move (.tmp 17), none⟩])
 (.ret))
 (.skip)))))
 (.reg [⟨some 18, .bin .add (.tmp 8) (.cst (.int .i64 1)), none⟩,
  ⟨some 8, .move (.tmp 18), none⟩])))
/- slices.IndexFunc[[]tollhouse/api.Record,tollhouse/api.Record] -/
def F26 : AFn := ⟨19, false, 2, [.tmp 4], .seq
 (.reg [⟨some 4, .move (.cst (.int .i64 0)), none⟩])
 (.seq
 (.seq
 (.reg [⟨some 6, .move (.tmp 0), none⟩,
  ⟨some 7, .len (.tmp 6), none⟩,
  ⟨some 8, .move (.cst (.int .i64 0)), none⟩])
 (.block 0
 (.loop [0, 1, 7, 8] true L26_0)))
 (.seq
 (.reg [⟨some 4, .move (.cst (.int .i64 (-1))), none⟩])
 (.ret)))⟩
theorem c26 : compF Try.prog gl false [] [([0, 1, 7, 8], true)] Try.f26 = some F26 := by kernel_rfl
/- tollhouse/bigsize.Find$1 -/
def F27 : AFn := ⟨8, false, 2, [.tmp 3], .seq
 (.reg [⟨some 2, .box (.tmp 0), none⟩,
  ⟨some 3, .move (.cst (.bool false)), none⟩])
 (.seq
 (.reg [⟨some 4, .fieldAddr 0 1 (.tmp 2), none⟩,
  ⟨some 5, .load none (.tmp 4), none⟩,
  ⟨some 6, .load none (.tmp 1), none⟩,
  ⟨some 7, .bin .eql (.tmp 5) (.tmp 6), none⟩,
  ⟨some 3, .move (.tmp 7), none⟩])
 (.ret))⟩
theorem c27 : compF Try.prog gl false [] [] Try.f27 = some F27 := by kernel_rfl
/- slices.Contains[[]uint64,uint64] -/
def F28 : AFn := ⟨9, true, 2, [.tmp 4], .seq
 (.reg [⟨some 4, .move (.cst (.bool false)), none⟩])
 (.seq
 (.reg [⟨some 5, .move (.tmp 0), none⟩,
  ⟨some 6, .move (.tmp 1), none⟩,
  ⟨some 7, .call (.cst (.func (.func 30) [] [])) [(.tmp 5), (.tmp 6)], none⟩,
  ⟨some 8, .bin .geq (.tmp 7) (.cst (.int .i64 0)), none⟩,
  ⟨some 4, .move (.tmp 8), none⟩])
 (.ret))⟩
theorem c28 : compF Try.prog gl true [] [] Try.f28 = some F28 := by kernel_rfl
def L29_0 : AC := .seq
 (.seq
 (.reg [⟨some 6, .move (.tmp 5), none⟩,
  ⟨some 7, .move (.tmp 0), none⟩,
  ⟨some 8, .len (.tmp 7), none⟩,
  ⟨some 9, .bin .lss (.tmp 6) (.tmp 8), none⟩])
 (.cond (.tmp 9)
 (.skip)
 (.exit 0)))
 (.seq
 (.block 1
 (.seq
 (.reg [⟨some 12, .move (.tmp 0), none⟩,
  ⟨some 13, .move (.tmp 5), none⟩,
  ⟨some 14, .indexAddr .slice none (.tmp 12) (.tmp 13), none⟩,
  ⟨some 15, .load none (.tmp 14), none⟩,
  ⟨some 16, .move (.tmp 1), none⟩,
  ⟨some 17, .bin .eql (.tmp 15) (.tmp 16), none⟩])
 (.cond (.tmp 17)
 (.seq
 (.reg [⟨some 4, .move (.cst (.bool true)), none⟩])
 (.ret))
 (.skip))))
 (.reg [⟨some 10, .move (.tmp 5), none⟩,
  ⟨some 11, .bin .add (.tmp 10) (.cst (.int .i64 1)), none⟩,
  ⟨some 5, .move (.tmp 11), none⟩]))
/- tollhouse/tollhouseref01.has -/
def F29 : AFn := ⟨18, true, 2, [.tmp 4], .seq
 (.reg [⟨some 4, .move (.cst (.bool false)), none⟩])
 (.seq
 (.seq
 (.reg [⟨some 5, .move (.cst (.int .i64 0)), none⟩])
 (.block 0
 (.loop [0, 1, 5] true L29_0)))
 (.seq
 (.reg [⟨some 4, .move (.cst (.bool false)), none⟩])
 (.ret)))⟩
theorem c29 : compF Try.prog gl true [] [([0, 1, 5], true)] Try.f29 = some F29 := by kernel_rfl
def L30_0 : AC := .seq
 (.reg [⟨some 9, .bin .lss (.tmp 8) (.tmp 7), none⟩])
 (.seq
 (.cond (.tmp 9)
 (.skip)
 (.exit 0))
 (.seq
 (.block 1
 (.seq
 (.reg [⟨some 10, .move (.tmp 8), none⟩,
  ⟨some 5, .move (.tmp 10), none⟩])
 (.seq
 (.reg [⟨some 11, .move (.tmp 1), none⟩,
  ⟨some 12, .move (.tmp 0), none⟩,
  ⟨some 13, .move (.tmp 5), none⟩,
  ⟨some 14, .indexAddr .slice none (.tmp 12) (.tmp 13), none⟩,
  ⟨some 15, .load none (.tmp 14), none⟩,
  ⟨some 16, .bin .eql (.tmp 11) (.tmp 15), none⟩])
 (.cond (.tmp 16)
 (.seq
 (.reg [⟨some 17, .move (.tmp 5), none⟩,
  ⟨some 4, .move (.tmp 17), none⟩])
 (.ret))
 (.skip)))))
 (.reg [⟨some 18, .bin .add (.tmp 8) (.cst (.int .i64 1)), none⟩,
  ⟨some 8, .move (.tmp 18), none⟩])))
/- slices.Index[[]uint64,uint64] -/
def F30 : AFn := ⟨19, true, 2, [.tmp 4], .seq
 (.reg [⟨some 4, .move (.cst (.int .i64 0)), none⟩])
 (.seq
 (.seq
 (.reg [⟨some 6, .move (.tmp 0), none⟩,
  ⟨some 7, .len (.tmp 6), none⟩,
  ⟨some 8, .move (.cst (.int .i64 0)), none⟩])
 (.block 0
 (.loop [0, 1, 7, 8] true L30_0)))
 (.seq
 (.reg [⟨some 4, .move (.cst (.int .i64 (-1))), none⟩])
 (.ret)))⟩
theorem c30 : compF Try.prog gl true [] [([0, 1, 7, 8], true)] Try.f30 = some F30 := by kernel_rfl
def fns : List (Nat × AFn) := [(3, F3), (4, F4), (5, F5), (6, F6), (7, F7), (8, F8), (9, F9), (10, F10), (11, F11), (12, F12), (13, F13), (14, F14), (15, F15), (16, F16), (17, F17), (18, F18), (19, F19), (20, F20), (21, F21), (22, F22), (24, F24), (25, F25), (26, F26), (27, F27), (28, F28), (29, F29), (30, F30)]
def nats : List (Nat × (List AV → Heap → Option (AV × Heap))) := [(23, growG)]
def exts : List (Nat × (List AV → Option AV)) := [(24, cloneE none 1)]
def T : Tab := ⟨fun n => exts.lookup n, fun n => fns.lookup n, fun n => nats.lookup n⟩
theorem lookup_mem {α : Type} {f : Nat} {F : α} : ∀ {l : List (Nat × α)}, l.lookup f = some F → (f, F) ∈ l
  | [], h => by cases h
  | (g, G) :: r, h => by
    rw [List.lookup_cons] at h
    split at h
    · rename_i hb; cases h; rw [eq_of_beq hb]; exact List.mem_cons_self
    · exact List.mem_cons_of_mem _ (lookup_mem h)
theorem fnsOK : ∀ p ∈ fns, FnOK Try.prog gl p.1 p.2 := by
  intro p hp
  simp only [fns, List.mem_cons, List.not_mem_nil, or_false] at hp
  rcases hp with rfl | rfl | rfl | rfl | rfl | rfl | rfl | rfl | rfl | rfl | rfl | rfl | rfl | rfl | rfl | rfl | rfl | rfl | rfl | rfl | rfl | rfl | rfl | rfl | rfl | rfl | rfl
  · exact ⟨_, _, _, _, Try.func3, c3⟩
  · exact ⟨_, _, _, _, Try.func4, c4⟩
  · exact ⟨_, _, _, _, Try.func5, c5⟩
  · exact ⟨_, _, _, _, Try.func6, c6⟩
  · exact ⟨_, _, _, _, Try.func7, c7⟩
  · exact ⟨_, _, _, _, Try.func8, c8⟩
  · exact ⟨_, _, _, _, Try.func9, c9⟩
  · exact ⟨_, _, _, _, Try.func10, c10⟩
  · exact ⟨_, _, _, _, Try.func11, c11⟩
  · exact ⟨_, _, _, _, Try.func12, c12⟩
  · exact ⟨_, _, _, _, Try.func13, c13⟩
  · exact ⟨_, _, _, _, Try.func14, c14⟩
  · exact ⟨_, _, _, _, Try.func15, c15⟩
  · exact ⟨_, _, _, _, Try.func16, c16⟩
  · exact ⟨_, _, _, _, Try.func17, c17⟩
  · exact ⟨_, _, _, _, Try.func18, c18⟩
  · exact ⟨_, _, _, _, Try.func19, c19⟩
  · exact ⟨_, _, _, _, Try.func20, c20⟩
  · exact ⟨_, _, _, _, Try.func21, c21⟩
  · exact ⟨_, _, _, _, Try.func22, c22⟩
  · exact ⟨_, _, _, _, Try.func24, c24⟩
  · exact ⟨_, _, _, _, Try.func25, c25⟩
  · exact ⟨_, _, _, _, Try.func26, c26⟩
  · exact ⟨_, _, _, _, Try.func27, c27⟩
  · exact ⟨_, _, _, _, Try.func28, c28⟩
  · exact ⟨_, _, _, _, Try.func29, c29⟩
  · exact ⟨_, _, _, _, Try.func30, c30⟩
theorem natsOK : ∀ p ∈ nats, Callable Try.prog p.1 ∧ ∀ (args : List AV) (h : Heap) (v : AV) (h2 : Heap), p.2 args h = some (v, h2) → ∀ (S : St) (B : Nat) (W : World) (cargs : Array Value), Rel S h B W → VL S args cargs.toList → GlobOK gl S.imm → Calls Try.prog p.1 cargs W (GPost S h2 v B W) := by
  intro p hp
  simp only [nats, List.mem_cons, List.not_mem_nil, or_false] at hp
  rcases hp with rfl
  · exact ⟨grow_nat.1, fun args h v h2 hx S B W cargs r hv hg => grow_nat.2 args h v h2 hx gl S B W cargs r hv hg⟩
theorem mixed : Try.prog.follows .mixedOrders = true := by kernel_rfl
theorem x24 : PSound Try.prog gl 24 (cloneE none 1) := by
  refine clone_PSound mixed ⟨_, _, _, _, Try.func24, c24⟩ rfl (fun o els ho he hc hf => ?_) (fun a cap => ?_) (fun cap => ?_)
  · obtain ⟨y, ys, rfl⟩ := List.exists_cons_of_ne_nil he
    have hf' : fitsB (0 + (y :: ys).length) 1 = true := by rw [Nat.zero_add]; exact hf
    rcases ho with rfl | rfl
    all_goals
      refine WP_eq (prun_wp ?_)
      simp -implicitDefEqProofs (disch := omega) only [F24, isNil, elemsOf, setEls, aappend, List.replicate_zero, hf', initE, ax_seq, ax_skip, ax_ret, ax_exit, ax_scope, ax_regK, ax_regQK, ax_condK, ax_blockK, condK_t, condK_f, blkR_normal, blkR_ret, blkR_if, norR_eq, norQ_eq, nextR_normal, nextR_ret, nextR_exit, aops_nil, aops_none, aops_some, opsK_some, opsG_tt, opsG_ft, opsG_tf, opsG_ff, aopsQ_nil, aopsQ_none, aopsQ_some, quiK_some, quiG_tt, quiG_ft, quiG_tf, quiG_ff, aop, evO_tmp, evO_cst, getE_cons, setE_some, setE_none, bin_leq, bin_geq, bin_lss, bin_gtr, bin_eql, bin_neq, bin_add, bin_sub, bin_mul, Option.bind_some, Option.map_some, Option.bind_none, Option.map_none, Nat.reduceEqDiff, ↓reduceIte, Nat.reduceAdd, finish, resOf, tupOf, frz_eq, AM.freeze, freezeL, closed, nam, namL, if_true, if_false, Bool.false_eq_true, Bool.true_and, Bool.false_and, Bool.and_true, Bool.and_false, cellsOf, deref, boxAt, ldCells, oneL, oneCell, one, List.length_nil, List.nil_append, List.cons_append, List.getElem?_cons_zero, List.getElem?_cons_succ, List.drop_zero, List.drop_succ_cons, List.take_succ_cons, List.take_zero, Nat.reduceLeDiff, Nat.le_refl, evL, List.map_cons, List.map_nil, List.append_nil, adopt, bin_quo, bin_rem, rigK_sc, rigK_agg, rigK_tup, fstV_eq, quiet_load, quiet_convStr, quiet_call, rigid, rigidL, trim, Nat.lt_irrefl, and_false, false_and, Int.reduceEq, decide_true, decide_false, Int.reduceMod, Int.reduceDiv, Int.mul_zero, Int.add_zero, ax_loop, quiet_move, quiet_pick, quiet_build, quiet_nilCheck, quiet_bin, quiet_eqBool, quiet_eqArr, quiet_eqNil, quiet_un, quiet_convInt, quiet_makeFunc, quiet_slice, quiet_toArr, quiet_fieldAddr, quiet_field, quiet_indexAddr, quiet_index, quiet_indexStr, quiet_extract, quiet_len, quiet_lenT, quiet_convSS, quiet_minmax, opsG_undef, quiG_undef, fin_ret, fin_normal, WP_some, WP_bind, WP_map, WP_ite, WP_opsK_ite, WP_quiK_ite, BQ_eq, MQ_eq, LQ_normal, LQ_exit, LQ_ret, if_pos, if_neg, Bool.not_true, Bool.not_false, asI, elCells, kz_some, kz_none, Nat.mul_one, Nat.zero_add, Int.toNat_natCast, lenOf, List.length_map, true_and, and_true, trim_off, forall_const, implies_true, and_self, aun_not, decide_eq_true, decide_eq_false, IntWalk.i64_in, IntWalk.u64_in, cast_succ', List.set_cons_zero, List.set_cons_succ, List.length_set, List.length_append, List.length_replicate, Int.natCast_nonneg, flat_one', List.getElem?_drop, Nat.add_zero, ax_regD, runD_nil, runD_none, runD_some, dK_some, dG_tt, dG_ft, dG_tf, dG_ff, dG_undef, WP_dK_ite, chkR_eq, chkD, chkO, chkW, chkV_some, chkV_off, grow_eq, effB, reB, beqV, beqVL, vEq, wantE_none, wantE_some, beq_self_eq_true, Nat.reduceSub, Nat.reduceLT, strip, stripO, storeB_K, stB_eq, splice_nil, splice_one, splice_more, setParts_nil, setParts_K, spK_eq, nxE_some, nxE_none, bne_ff, bne_tf, bne_ft, bne_tt, beq_ff, beq_tf, beq_ft, beq_tt, bne_f, bne_t, fits_of, Int.reduceSub, Int.reduceAdd, Int.reduceMul, Int.reduceLT, Int.reduceLE, Int.reduceToNat, optI, aslice, cutSl, cutMs, cutStr, cutOwn, Option.getD_some, Option.getD_none, get_app, get_app0, set_app, set_app0, tn_pred]
      simp [freeze1, hc, WP]
  · refine WP_eq (prun_wp ?_)
    simp -implicitDefEqProofs (disch := omega) only [F24, isNil, elemsOf, setEls, aappend, List.replicate_zero, show fitsB 0 1 = true from rfl, initE, ax_seq, ax_skip, ax_ret, ax_exit, ax_scope, ax_regK, ax_regQK, ax_condK, ax_blockK, condK_t, condK_f, blkR_normal, blkR_ret, blkR_if, norR_eq, norQ_eq, nextR_normal, nextR_ret, nextR_exit, aops_nil, aops_none, aops_some, opsK_some, opsG_tt, opsG_ft, opsG_tf, opsG_ff, aopsQ_nil, aopsQ_none, aopsQ_some, quiK_some, quiG_tt, quiG_ft, quiG_tf, quiG_ff, aop, evO_tmp, evO_cst, getE_cons, setE_some, setE_none, bin_leq, bin_geq, bin_lss, bin_gtr, bin_eql, bin_neq, bin_add, bin_sub, bin_mul, Option.bind_some, Option.map_some, Option.bind_none, Option.map_none, Nat.reduceEqDiff, ↓reduceIte, Nat.reduceAdd, finish, resOf, tupOf, frz_eq, AM.freeze, freezeL, closed, nam, namL, if_true, if_false, Bool.false_eq_true, Bool.true_and, Bool.false_and, Bool.and_true, Bool.and_false, cellsOf, deref, boxAt, ldCells, oneL, oneCell, one, List.length_cons, List.length_nil, List.nil_append, List.cons_append, List.getElem?_cons_zero, List.getElem?_cons_succ, List.drop_zero, List.drop_succ_cons, List.take_succ_cons, List.take_zero, Nat.reduceLeDiff, Nat.le_refl, evL, List.map_cons, List.map_nil, List.append_nil, adopt, bin_quo, bin_rem, rigK_sc, rigK_agg, rigK_tup, fstV_eq, quiet_load, quiet_convStr, quiet_call, rigid, rigidL, trim, Nat.lt_irrefl, and_false, false_and, Int.reduceEq, decide_true, decide_false, Int.reduceMod, Int.reduceDiv, Int.mul_zero, Int.add_zero, ax_loop, quiet_move, quiet_pick, quiet_build, quiet_nilCheck, quiet_bin, quiet_eqBool, quiet_eqArr, quiet_eqNil, quiet_un, quiet_convInt, quiet_makeFunc, quiet_slice, quiet_toArr, quiet_fieldAddr, quiet_field, quiet_indexAddr, quiet_index, quiet_indexStr, quiet_extract, quiet_len, quiet_lenT, quiet_convSS, quiet_minmax, opsG_undef, quiG_undef, fin_ret, fin_normal, WP_some, WP_bind, WP_map, WP_ite, WP_opsK_ite, WP_quiK_ite, BQ_eq, MQ_eq, LQ_normal, LQ_exit, LQ_ret, if_pos, if_neg, Bool.not_true, Bool.not_false, asI, elCells, kz_some, kz_none, Nat.mul_one, Nat.zero_add, Int.toNat_natCast, lenOf, List.length_map, true_and, and_true, trim_off, forall_const, implies_true, and_self, aun_not, decide_eq_true, decide_eq_false, IntWalk.i64_in, IntWalk.u64_in, cast_succ', List.set_cons_zero, List.set_cons_succ, List.length_set, List.length_append, List.length_replicate, Int.natCast_nonneg, flat_one', List.getElem?_drop, Nat.add_zero, ax_regD, runD_nil, runD_none, runD_some, dK_some, dG_tt, dG_ft, dG_tf, dG_ff, dG_undef, WP_dK_ite, chkR_eq, chkD, chkO, chkW, chkV_some, chkV_off, grow_eq, effB, reB, beqV, beqVL, vEq, wantE_none, wantE_some, beq_self_eq_true, Nat.reduceSub, Nat.reduceLT, strip, stripO, storeB_K, stB_eq, splice_nil, splice_one, splice_more, setParts_nil, setParts_K, spK_eq, nxE_some, nxE_none, bne_ff, bne_tf, bne_ft, bne_tt, beq_ff, beq_tf, beq_ft, beq_tt, bne_f, bne_t, fits_of, Int.reduceSub, Int.reduceAdd, Int.reduceMul, Int.reduceLT, Int.reduceLE, Int.reduceToNat, optI, aslice, cutSl, cutMs, cutStr, cutOwn, Option.getD_some, Option.getD_none, get_app, get_app0, set_app, set_app0, tn_pred]
    simp [freeze1, closed, closedL, namL, WP]
  · refine WP_eq (prun_wp ?_)
    simp -implicitDefEqProofs (disch := omega) only [F24, isNil, initE, ax_seq, ax_skip, ax_ret, ax_exit, ax_scope, ax_regK, ax_regQK, ax_condK, ax_blockK, condK_t, condK_f, blkR_normal, blkR_ret, blkR_if, norR_eq, norQ_eq, nextR_normal, nextR_ret, nextR_exit, aops_nil, aops_none, aops_some, opsK_some, opsG_tt, opsG_ft, opsG_tf, opsG_ff, aopsQ_nil, aopsQ_none, aopsQ_some, quiK_some, quiG_tt, quiG_ft, quiG_tf, quiG_ff, aop, evO_tmp, evO_cst, getE_cons, setE_some, setE_none, bin_leq, bin_geq, bin_lss, bin_gtr, bin_eql, bin_neq, bin_add, bin_sub, bin_mul, Option.bind_some, Option.map_some, Option.bind_none, Option.map_none, Nat.reduceEqDiff, ↓reduceIte, Nat.reduceAdd, finish, resOf, tupOf, frz_eq, AM.freeze, freeze1, freezeL, closed, nam, namL, if_true, if_false, Bool.false_eq_true, Bool.true_and, Bool.false_and, Bool.and_true, Bool.and_false, cellsOf, deref, boxAt, ldCells, oneL, oneCell, one, List.length_cons, List.length_nil, List.nil_append, List.cons_append, List.getElem?_cons_zero, List.getElem?_cons_succ, List.drop_zero, List.drop_succ_cons, List.take_succ_cons, List.take_zero, Nat.reduceLeDiff, Nat.le_refl, evL, List.map_cons, List.map_nil, List.append_nil, adopt, bin_quo, bin_rem, rigK_sc, rigK_agg, rigK_tup, fstV_eq, quiet_load, quiet_convStr, quiet_call, rigid, rigidL, trim, Nat.lt_irrefl, and_false, false_and, Int.reduceEq, decide_true, decide_false, Int.reduceMod, Int.reduceDiv, Int.mul_zero, Int.add_zero, ax_loop, quiet_move, quiet_pick, quiet_build, quiet_nilCheck, quiet_bin, quiet_eqBool, quiet_eqArr, quiet_eqNil, quiet_un, quiet_convInt, quiet_makeFunc, quiet_slice, quiet_toArr, quiet_fieldAddr, quiet_field, quiet_indexAddr, quiet_index, quiet_indexStr, quiet_extract, quiet_len, quiet_lenT, quiet_convSS, quiet_minmax, opsG_undef, quiG_undef, fin_ret, fin_normal, WP_some, WP_bind, WP_map, WP_ite, WP_opsK_ite, WP_quiK_ite, BQ_eq, MQ_eq, LQ_normal, LQ_exit, LQ_ret, if_pos, if_neg, Bool.not_true, Bool.not_false, asI, elCells, kz_some, kz_none, Nat.mul_one, Nat.zero_add, Int.toNat_natCast, lenOf, List.length_map, true_and, and_true, trim_off, forall_const, implies_true, and_self, aun_not, decide_eq_true, decide_eq_false, IntWalk.i64_in, IntWalk.u64_in, cast_succ', List.set_cons_zero, List.set_cons_succ, List.length_set, List.length_append, List.length_replicate, Int.natCast_nonneg, flat_one', List.getElem?_drop, Nat.add_zero, ax_regD, runD_nil, runD_none, runD_some, dK_some, dG_tt, dG_ft, dG_tf, dG_ff, dG_undef, WP_dK_ite, chkR_eq, chkD, chkO, chkW, chkV_some, chkV_off, grow_eq, effB, reB, beqV, beqVL, vEq, wantE_none, wantE_some, beq_self_eq_true, Nat.reduceSub, Nat.reduceLT, strip, stripO, storeB_K, stB_eq, splice_nil, splice_one, splice_more, setParts_nil, setParts_K, spK_eq, nxE_some, nxE_none, bne_ff, bne_tf, bne_ft, bne_tt, beq_ff, beq_tf, beq_ft, beq_tt, bne_f, bne_t, fits_of, Int.reduceSub, Int.reduceAdd, Int.reduceMul, Int.reduceLT, Int.reduceLE, Int.reduceToNat, optI, aslice, cutSl, cutMs, cutStr, cutOwn, Option.getD_some, Option.getD_none, get_app, get_app0, set_app, set_app0, tn_pred]
theorem extsOK : ∀ p ∈ exts, Callable Try.prog p.1 ∧ PSound Try.prog gl p.1 p.2 := by
  intro p hp
  simp only [exts, List.mem_cons, List.not_mem_nil, or_false] at hp
  rcases hp with rfl
  · exact ⟨(fnsOK (24, F24) (lookup_mem (l := fns) (f := 24) rfl)).callable, x24⟩
theorem e24 : T.ext 24 = some (cloneE none 1) := rfl
theorem tabOK : TabOK Try.prog gl T := ⟨fun f g h => extsOK (f, g) (lookup_mem h), fun f F h => fnsOK (f, F) (lookup_mem h), fun f g h => natsOK (f, g) (lookup_mem h)⟩
theorem n23 : T.nat 23 = some growG := rfl
theorem nf23 : T.fn 23 = none := rfl
theorem t3 : T.fn 3 = some F3 := rfl
theorem t4 : T.fn 4 = some F4 := rfl
theorem t5 : T.fn 5 = some F5 := rfl
theorem t6 : T.fn 6 = some F6 := rfl
theorem t7 : T.fn 7 = some F7 := rfl
theorem t8 : T.fn 8 = some F8 := rfl
theorem t9 : T.fn 9 = some F9 := rfl
theorem t10 : T.fn 10 = some F10 := rfl
theorem t11 : T.fn 11 = some F11 := rfl
theorem t12 : T.fn 12 = some F12 := rfl
theorem t13 : T.fn 13 = some F13 := rfl
theorem t14 : T.fn 14 = some F14 := rfl
theorem t15 : T.fn 15 = some F15 := rfl
theorem t16 : T.fn 16 = some F16 := rfl
theorem t17 : T.fn 17 = some F17 := rfl
theorem t18 : T.fn 18 = some F18 := rfl
theorem t19 : T.fn 19 = some F19 := rfl
theorem t20 : T.fn 20 = some F20 := rfl
theorem t21 : T.fn 21 = some F21 := rfl
theorem t22 : T.fn 22 = some F22 := rfl
theorem t24 : T.fn 24 = some F24 := rfl
theorem t25 : T.fn 25 = some F25 := rfl
theorem t26 : T.fn 26 = some F26 := rfl
theorem t27 : T.fn 27 = some F27 := rfl
theorem t28 : T.fn 28 = some F28 := rfl
theorem t29 : T.fn 29 = some F29 := rfl
theorem t30 : T.fn 30 = some F30 := rfl
theorem p3 : T.pure 3 = true := rfl
theorem p4 : T.pure 4 = true := rfl
theorem p5 : T.pure 5 = true := rfl
theorem p6 : T.pure 6 = true := rfl
theorem p7 : T.pure 7 = true := rfl
theorem p8 : T.pure 8 = true := rfl
theorem p9 : T.pure 9 = true := rfl
theorem p10 : T.pure 10 = true := rfl
theorem p11 : T.pure 11 = true := rfl
theorem p12 : T.pure 12 = true := rfl
theorem p13 : T.pure 13 = true := rfl
theorem p14 : T.pure 14 = true := rfl
theorem p15 : T.pure 15 = true := rfl
theorem p16 : T.pure 16 = true := rfl
theorem p17 : T.pure 17 = true := rfl
theorem p18 : T.pure 18 = true := rfl
theorem p19 : T.pure 19 = true := rfl
theorem p20 : T.pure 20 = true := rfl
theorem p21 : T.pure 21 = true := rfl
theorem p22 : T.pure 22 = true := rfl
theorem p24 : T.pure 24 = true := rfl
theorem p25 : T.pure 25 = true := rfl
theorem p28 : T.pure 28 = true := rfl
theorem p29 : T.pure 29 = true := rfl
theorem p30 : T.pure 30 = true := rfl
end Go.Proofs.Ytpnkldjbiinnpaa.AM
