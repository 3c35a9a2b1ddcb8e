import Derived.Test.YtejnficfhoekiaaMc
/- The functions for the plain machine (printed by gen2.py). -/
namespace Go.Proofs.Ytejnficfhoekiaa.AM
open Go
set_option maxRecDepth 100000
set_option linter.unusedSimpArgs false
set_option linter.unusedVariables false
def bs (l : List Nat) : ByteArray := ⟨(l.map UInt8.ofNat).toArray⟩
def gl : Nat → Option (List Value) := fun _ => none
/- tollhouse/tollhouselaw09.InvoiceEncodes -/
def F3 : AFn := ⟨51, true, 1, [.tmp 2], .seq
 (.reg [⟨some 1, .box (.tmp 0), none⟩,
  ⟨some 2, .move (.cst (.bool false)), none⟩])
 (.seq
 (.reg [⟨some 9, .load (some 69) (.tmp 1), none⟩,
  ⟨some 10, .call (.cst (.func (.func 6) [] [])) [(.tmp 9)], none⟩,
  ⟨some 8, .move (.tmp 10), none⟩,
  ⟨some 11, .extract (.tmp 8) 0, none⟩,
  ⟨some 12, .extract (.tmp 8) 1, none⟩,
  ⟨some 3, .move (.tmp 11), none⟩,
  ⟨some 4, .move (.tmp 12), none⟩])
 (.seq
 (.reg [⟨some 14, .load (some 69) (.tmp 1), none⟩,
  ⟨some 15, .call (.cst (.func (.func 7) [] [])) [(.tmp 14)], none⟩,
  ⟨some 13, .move (.tmp 15), none⟩,
  ⟨some 16, .extract (.tmp 13) 0, none⟩,
  ⟨some 17, .extract (.tmp 13) 1, none⟩,
  ⟨some 5, .move (.tmp 16), none⟩,
  ⟨some 6, .move (.tmp 17), none⟩])
 (.seq
 (.seq
 (.regQ [⟨some 18, .call (.cst (.func (.func 8) [] [])) [], none⟩,
  ⟨some 19, .un .not (.tmp 18), none⟩,
  ⟨some 20, .move (.tmp 19), none⟩,
  ⟨some 21, .move (.tmp 3), some (20, false)⟩,
  ⟨some 22, .move (.tmp 5), some (20, false)⟩,
  ⟨some 23, .bin .neq (.tmp 21) (.tmp 22), some (20, false)⟩,
  ⟨some 24, .pick (.tmp 20) (.cst (.bool true)) (.tmp 23), none⟩,
  ⟨some 25, .move (.tmp 24), none⟩,
  ⟨some 26, .move (.tmp 4), some (25, false)⟩,
  ⟨some 27, .move (.tmp 6), some (25, false)⟩,
  ⟨some 28, .bin .neq (.tmp 26) (.tmp 27), some (25, false)⟩,
  ⟨some 29, .pick (.tmp 25) (.cst (.bool true)) (.tmp 28), none⟩,
  ⟨some 30, .move (.tmp 29), none⟩,
  ⟨some 31, .load (some 69) (.tmp 1), some (30, false)⟩,
  ⟨some 32, .call (.cst (.func (.func 9) [] [])) [(.tmp 31)], some (30, false)⟩,
  ⟨some 33, .load (some 69) (.tmp 1), some (30, false)⟩,
  ⟨some 34, .call (.cst (.func (.func 10) [] [])) [(.tmp 33)], some (30, false)⟩,
  ⟨some 35, .eqBool true (.tmp 32) (.tmp 34), some (30, false)⟩,
  ⟨some 36, .pick (.tmp 30) (.cst (.bool true)) (.tmp 35), none⟩])
 (.cond (.tmp 36)
 (.seq
 (.reg [⟨some 2, .move (.cst (.bool false)), none⟩])
 (.ret))
 (.skip)))
 (.seq
 (.seq
 (.reg [⟨some 37, .move (.tmp 6), none⟩,
  ⟨some 38, .bin .neq (.tmp 37) (.cst (.int .i64 0)), none⟩])
 (.cond (.tmp 38)
 (.seq
 (.reg [⟨some 2, .move (.cst (.bool true)), none⟩])
 (.ret))
 (.skip)))
 (.seq
 (.reg [⟨some 40, .move (.tmp 3), none⟩,
  ⟨some 41, .call (.cst (.func (.func 11) [] [])) [(.tmp 40)], none⟩,
  ⟨some 39, .move (.tmp 41), none⟩,
  ⟨some 42, .extract (.tmp 39) 0, none⟩,
  ⟨some 43, .extract (.tmp 39) 1, none⟩,
  ⟨some 7, .alloc [(.int .i64 0), (.int .i64 0), (.int .u8 0), (.int .u8 0), (.int .u8 0), (.int .u8 0), (.int .u8 0), (.int .u8 0), (.int .u8 0), (.int .u8 0), (.int .u8 0), (.int .u8 0), (.int .u8 0), (.int .u8 0), (.int .u8 0), (.int .u8 0), (.int .u8 0), (.int .u8 0), (.int .u8 0), (.int .u8 0), (.int .u8 0), (.int .u8 0), (.int .u8 0), (.int .u8 0), (.int .u8 0), (.int .u8 0), (.int .u8 0), (.int .u8 0), (.int .u8 0), (.int .u8 0), (.int .u8 0), (.int .u8 0), (.int .u8 0), (.int .u8 0), (.int .u8 0), (.int .u8 0), (.int .u8 0), (.int .u8 0), (.int .u8 0), (.int .u8 0), (.int .u8 0), (.int .u8 0), (.int .u8 0), (.int .u8 0), (.int .u8 0), (.int .u8 0), (.int .u8 0), (.int .u8 0), (.int .u8 0), (.int .u8 0), (.int .u8 0), (.int .u8 0), (.int .u8 0), (.int .u8 0), (.int .u8 0), (.int .u8 0), (.int .u8 0), (.int .u8 0), (.int .u8 0), (.int .u8 0), (.int .u8 0), (.int .u8 0), (.int .u8 0), (.int .u8 0), (.int .u8 0), (.int .u8 0), (.int .i64 0), (.int .i64 0), (.sc (.string (bs [])))], none⟩,
  ⟨none, .store 69 (.tmp 7) (.tmp 42), none⟩,
  ⟨some 4, .move (.tmp 43), none⟩])
 (.seq
 (.reg [⟨some 44, .move (.tmp 4), none⟩,
  ⟨some 45, .bin .eql (.tmp 44) (.cst (.int .i64 0)), none⟩,
  ⟨some 46, .move (.tmp 45), none⟩,
  ⟨some 47, .load (some 69) (.tmp 7), some (46, true)⟩,
  ⟨some 48, .load (some 69) (.tmp 1), some (46, true)⟩,
  ⟨some 49, .eqAgg false [.int, .int, .int, .int, .int, .int, .int, .int, .int, .int, .int, .int, .int, .int, .int, .int, .int, .int, .int, .int, .int, .int, .int, .int, .int, .int, .int, .int, .int, .int, .int, .int, .int, .int, .int, .int, .int, .int, .int, .int, .int, .int, .int, .int, .int, .int, .int, .int, .int, .int, .int, .int, .int, .int, .int, .int, .int, .int, .int, .int, .int, .int, .int, .int, .int, .int, .int, .int, .str] (.tmp 47) (.tmp 48), some (46, true)⟩,
  ⟨some 50, .pick (.tmp 46) (.tmp 49) (.cst (.bool false)), none⟩,
  ⟨some 2, .move (.tmp 50), none⟩])
 (.ret)))))))⟩
theorem c3 : compF Try.prog gl true [] [] Try.f3 = some F3 := by kernel_rfl
/- tollhouse/invoice.Encode -/
def F6 : AFn := ⟨59, true, 1, [.tmp 2, .tmp 3], .seq
 (.reg [⟨some 1, .boxI (.tmp 0), none⟩,
  ⟨some 2, .move (.cst (.sc (.string (bs [])))), none⟩,
  ⟨some 3, .move (.cst (.int .i64 0)), none⟩])
 (.seq
 (.seq
 (.reg [⟨some 7, .load (some 69) (.tmp 1), none⟩,
  ⟨some 8, .call (.cst (.func (.func 9) [] [])) [(.tmp 7)], none⟩,
  ⟨some 9, .un .not (.tmp 8), none⟩])
 (.cond (.tmp 9)
 (.seq
 (.reg [⟨some 2, .move (.cst (.sc (.string (bs [])))), none⟩,
  ⟨some 3, .move (.cst (.int .i64 1)), none⟩])
 (.ret))
 (.skip)))
 (.seq
 (.regD [⟨some 10, .fieldAddr 0 1 (.tmp 1), none⟩,
  ⟨some 11, .load none (.tmp 10), none⟩,
  ⟨some 12, .call (.cst (.func (.func 17) [] [])) [(.cst (.int .i64 1)), (.tmp 11)], none⟩,
  ⟨some 13, .build [(.int .u64 0), .nil] [(0, 1, (.cst (.int .u64 1))), (1, 1, (.tmp 12))], none⟩,
  ⟨some 14, .fieldAddr 1 1 (.tmp 1), none⟩,
  ⟨some 15, .load none (.tmp 14), none⟩,
  ⟨some 16, .call (.cst (.func (.func 17) [] [])) [(.cst (.int .i64 1)), (.tmp 15)], none⟩,
  ⟨some 17, .build [(.int .u64 0), .nil] [(0, 1, (.cst (.int .u64 3))), (1, 1, (.tmp 16))], none⟩,
  ⟨some 18, .fieldAddr 2 32 (.tmp 1), none⟩,
  ⟨some 19, .slice (.arr 32) none (.tmp 18) none none none, none⟩,
  ⟨some 20, .build [(.int .u64 0), .nil] [(0, 1, (.cst (.int .u64 5))), (1, 1, (.tmp 19))], none⟩,
  ⟨some 21, .fieldAddr 34 32 (.tmp 1), none⟩,
  ⟨some 22, .slice (.arr 32) none (.tmp 21) none none none, none⟩,
  ⟨some 23, .build [(.int .u64 0), .nil] [(0, 1, (.cst (.int .u64 7))), (1, 1, (.tmp 22))], none⟩,
  ⟨some 24, .fieldAddr 66 1 (.tmp 1), none⟩,
  ⟨some 25, .load none (.tmp 24), none⟩,
  ⟨some 26, .call (.cst (.func (.func 17) [] [])) [(.cst (.int .i64 8)), (.tmp 25)], none⟩,
  ⟨some 27, .build [(.int .u64 0), .nil] [(0, 1, (.cst (.int .u64 9))), (1, 1, (.tmp 26))], none⟩,
  ⟨some 28, .fieldAddr 67 1 (.tmp 1), none⟩,
  ⟨some 29, .load none (.tmp 28), none⟩,
  ⟨some 30, .call (.cst (.func (.func 17) [] [])) [(.cst (.int .i64 4)), (.tmp 29)], none⟩,
  ⟨some 31, .build [(.int .u64 0), .nil] [(0, 1, (.cst (.int .u64 11))), (1, 1, (.tmp 30))], none⟩,
  ⟨some 32, .fieldAddr 68 1 (.tmp 1), none⟩,
  ⟨some 33, .load none (.tmp 32), none⟩,
  ⟨some 34, .convBytesI (.tmp 33), none⟩,
  ⟨some 35, .build [(.int .u64 0), .nil] [(0, 1, (.cst (.int .u64 13))), (1, 1, (.tmp 34))], none⟩,
  ⟨some 36, .buildSliceV (some 2) (.agg [(.int .u64 0), .nil]) 7 [(0, (.tmp 13)), (1, (.tmp 17)), (2, (.tmp 20)), (3, (.tmp 23)), (4, (.tmp 27)), (5, (.tmp 31)), (6, (.tmp 35))], none⟩,
  ⟨some 4, .move (.tmp 36), none⟩] [(0, 0), (0, 0), (0, 0), (1, 4), (0, 1), (0, 1), (1, 1), (2, 4), (0, 4), (0, 4), (0, 4), (0, 4), (0, 4), (0, 4), (0, 2), (0, 2), (2, 2), (3, 4), (0, 3), (0, 3), (3, 3), (4, 4), (0, 4), (0, 4), (0, 4), (0, 4), (4, 4), (5, 5)])
 (.seq
 (.seq
 (.reg [⟨some 37, .fieldAddr 1 1 (.tmp 1), none⟩,
  ⟨some 38, .load none (.tmp 37), none⟩,
  ⟨some 39, .bin .eql (.tmp 38) (.cst (.int .i64 3)), none⟩])
 (.cond (.tmp 39)
 (.regD [⟨some 40, .move (.tmp 4), none⟩,
  ⟨some 41, .slice .slice (some 2) (.tmp 40) none (some (.cst (.int .i64 2))) none, none⟩,
  ⟨some 42, .move (.tmp 4), none⟩,
  ⟨some 43, .slice .slice (some 2) (.tmp 42) (some (.cst (.int .i64 3))) none none, none⟩,
  ⟨some 44, .appendV (some 2) 32 (.tmp 41) (.tmp 43), none⟩,
  ⟨some 4, .move (.tmp 44), none⟩] [(0, 0), (0, 0), (0, 0), (0, 0), (0, 0), (1, 1)])
 (.skip)))
 (.seq
 (.reg [⟨some 46, .letgo (.tmp 4), none⟩,
  ⟨some 47, .call (.cst (.func (.func 18) [] [])) [(.tmp 46)], none⟩,
  ⟨some 45, .move (.tmp 47), none⟩,
  ⟨some 48, .extract (.tmp 45) 0, none⟩,
  ⟨some 49, .extract (.tmp 45) 1, none⟩,
  ⟨some 5, .move (.tmp 48), none⟩,
  ⟨some 6, .move (.tmp 49), none⟩])
 (.seq
 (.seq
 (.reg [⟨some 50, .move (.tmp 6), none⟩,
  ⟨some 51, .bin .neq (.tmp 50) (.cst (.int .i64 0)), none⟩])
 (.cond (.tmp 51)
 (.seq
 (.reg [⟨some 52, .move (.tmp 6), none⟩,
  ⟨some 2, .move (.cst (.sc (.string (bs [])))), none⟩,
  ⟨some 3, .move (.tmp 52), none⟩])
 (.ret))
 (.skip)))
 (.seq
 (.reg [⟨some 53, .move (.tmp 5), none⟩,
  ⟨some 54, .move (.tmp 5), none⟩,
  ⟨some 55, .call (.cst (.func (.func 19) [] [])) [(.tmp 54)], none⟩,
  ⟨some 56, .append none 1 (.tmp 53) (.tmp 55), none⟩,
  ⟨some 57, .call (.cst (.func (.func 12) [] [])) [(.tmp 56)], none⟩,
  ⟨some 58, .bin .add (.cst (.sc (.string (bs [116, 104, 49])))) (.tmp 57), none⟩,
  ⟨some 2, .move (.tmp 58), none⟩,
  ⟨some 3, .move (.cst (.int .i64 0)), none⟩])
 (.ret)))))))⟩
theorem c6 : compF Try.prog gl true [(1, (some 0)), (34, (some 0)), (36, (some 0)), (44, (some 0)), (46, (some 1))] [] Try.f6 = some F6 := by kernel_rfl
/- tollhouse/tollhouseref09.Encode -/
def F7 : AFn := ⟨59, true, 1, [.tmp 2, .tmp 3], .seq
 (.reg [⟨some 1, .boxI (.tmp 0), none⟩,
  ⟨some 2, .move (.cst (.sc (.string (bs [])))), none⟩,
  ⟨some 3, .move (.cst (.int .i64 0)), none⟩])
 (.seq
 (.seq
 (.reg [⟨some 7, .load (some 69) (.tmp 1), none⟩,
  ⟨some 8, .call (.cst (.func (.func 10) [] [])) [(.tmp 7)], none⟩,
  ⟨some 9, .un .not (.tmp 8), none⟩])
 (.cond (.tmp 9)
 (.seq
 (.reg [⟨some 2, .move (.cst (.sc (.string (bs [])))), none⟩,
  ⟨some 3, .move (.cst (.int .i64 1)), none⟩])
 (.ret))
 (.skip)))
 (.seq
 (.regD [⟨some 10, .fieldAddr 0 1 (.tmp 1), none⟩,
  ⟨some 11, .load none (.tmp 10), none⟩,
  ⟨some 12, .call (.cst (.func (.func 20) [] [])) [(.cst (.int .i64 1)), (.tmp 11)], none⟩,
  ⟨some 13, .build [(.int .u64 0), .nil] [(0, 1, (.cst (.int .u64 1))), (1, 1, (.tmp 12))], none⟩,
  ⟨some 14, .fieldAddr 1 1 (.tmp 1), none⟩,
  ⟨some 15, .load none (.tmp 14), none⟩,
  ⟨some 16, .call (.cst (.func (.func 20) [] [])) [(.cst (.int .i64 1)), (.tmp 15)], none⟩,
  ⟨some 17, .build [(.int .u64 0), .nil] [(0, 1, (.cst (.int .u64 3))), (1, 1, (.tmp 16))], none⟩,
  ⟨some 18, .buildSlice (some 2) (.agg [(.int .u64 0), .nil]) 2 [(0, (.tmp 13)), (1, (.tmp 17))], none⟩,
  ⟨some 4, .move (.tmp 18), none⟩] [(0, 0), (0, 0), (0, 0), (1, 2), (0, 1), (0, 1), (1, 1), (2, 2), (2, 2), (2, 2)])
 (.seq
 (.seq
 (.reg [⟨some 19, .fieldAddr 1 1 (.tmp 1), none⟩,
  ⟨some 20, .load none (.tmp 19), none⟩,
  ⟨some 21, .bin .neq (.tmp 20) (.cst (.int .i64 3)), none⟩])
 (.cond (.tmp 21)
 (.reg [⟨some 22, .move (.tmp 4), none⟩,
  ⟨some 23, .fieldAddr 2 32 (.tmp 1), none⟩,
  ⟨some 24, .slice (.arr 32) none (.tmp 23) none none none, none⟩,
  ⟨some 25, .build [(.int .u64 0), .nil] [(0, 1, (.cst (.int .u64 5))), (1, 1, (.tmp 24))], none⟩,
  ⟨some 26, .buildSlice (some 2) (.agg [(.int .u64 0), .nil]) 1 [(0, (.tmp 25))], none⟩,
  ⟨some 27, .append (some 2) 32 (.tmp 22) (.tmp 26), none⟩,
  ⟨some 4, .move (.tmp 27), none⟩])
 (.skip)))
 (.seq
 (.regD [⟨some 28, .move (.tmp 4), none⟩,
  ⟨some 29, .fieldAddr 34 32 (.tmp 1), none⟩,
  ⟨some 30, .slice (.arr 32) none (.tmp 29) none none none, none⟩,
  ⟨some 31, .build [(.int .u64 0), .nil] [(0, 1, (.cst (.int .u64 7))), (1, 1, (.tmp 30))], none⟩,
  ⟨some 32, .fieldAddr 66 1 (.tmp 1), none⟩,
  ⟨some 33, .load none (.tmp 32), none⟩,
  ⟨some 34, .call (.cst (.func (.func 20) [] [])) [(.cst (.int .i64 8)), (.tmp 33)], none⟩,
  ⟨some 35, .build [(.int .u64 0), .nil] [(0, 1, (.cst (.int .u64 9))), (1, 1, (.tmp 34))], none⟩,
  ⟨some 36, .fieldAddr 67 1 (.tmp 1), none⟩,
  ⟨some 37, .load none (.tmp 36), none⟩,
  ⟨some 38, .call (.cst (.func (.func 20) [] [])) [(.cst (.int .i64 4)), (.tmp 37)], none⟩,
  ⟨some 39, .build [(.int .u64 0), .nil] [(0, 1, (.cst (.int .u64 11))), (1, 1, (.tmp 38))], none⟩,
  ⟨some 40, .fieldAddr 68 1 (.tmp 1), none⟩,
  ⟨some 41, .load none (.tmp 40), none⟩,
  ⟨some 42, .convBytesI (.tmp 41), none⟩,
  ⟨some 43, .build [(.int .u64 0), .nil] [(0, 1, (.cst (.int .u64 13))), (1, 1, (.tmp 42))], none⟩,
  ⟨some 44, .buildSlice (some 2) (.agg [(.int .u64 0), .nil]) 4 [(0, (.tmp 31)), (1, (.tmp 35)), (2, (.tmp 39)), (3, (.tmp 43))], none⟩,
  ⟨some 45, .append (some 2) 32 (.tmp 28) (.tmp 44), none⟩,
  ⟨some 4, .move (.tmp 45), none⟩] [(0, 2), (0, 2), (0, 2), (0, 2), (0, 0), (0, 0), (0, 0), (1, 2), (0, 1), (0, 1), (1, 1), (2, 2), (0, 2), (0, 2), (0, 2), (0, 2), (2, 2), (2, 2), (3, 3)])
 (.seq
 (.reg [⟨some 47, .move (.tmp 4), none⟩,
  ⟨some 48, .call (.cst (.func (.func 21) [] [])) [(.tmp 47)], none⟩,
  ⟨some 46, .move (.tmp 48), none⟩,
  ⟨some 49, .extract (.tmp 46) 0, none⟩,
  ⟨some 50, .extract (.tmp 46) 1, none⟩,
  ⟨some 5, .move (.tmp 49), none⟩,
  ⟨some 6, .move (.tmp 50), none⟩])
 (.seq
 (.reg [⟨some 51, .buildSlice none (.int .u8 0) 0 [], none⟩,
  ⟨some 52, .move (.tmp 5), none⟩,
  ⟨some 53, .append none 1 (.tmp 51) (.tmp 52), none⟩,
  ⟨some 54, .move (.tmp 5), none⟩,
  ⟨some 55, .call (.cst (.func (.func 22) [] [])) [(.tmp 54)], none⟩,
  ⟨some 56, .append none 1 (.tmp 53) (.tmp 55), none⟩,
  ⟨some 57, .call (.cst (.func (.func 15) [] [])) [(.tmp 56)], none⟩,
  ⟨some 58, .bin .add (.cst (.sc (.string (bs [116, 104, 49])))) (.tmp 57), none⟩,
  ⟨some 2, .move (.tmp 58), none⟩,
  ⟨some 3, .move (.cst (.int .i64 0)), none⟩])
 (.ret)))))))⟩
theorem c7 : compF Try.prog gl true [(1, (some 0)), (42, (some 0))] [] Try.f7 = some F7 := by kernel_rfl
/- tollhouse/tollhouselaw09.lives -/
def F8 : AFn := ⟨56, true, 0, [.tmp 0], .seq
 (.reg [⟨some 0, .move (.cst (.bool false)), none⟩])
 (.seq
 (.reg [⟨some 8, .call (.cst (.func (.func 23) [] [])) [], none⟩,
  ⟨some 9, .call (.cst (.func (.func 6) [] [])) [(.tmp 8)], none⟩,
  ⟨some 7, .move (.tmp 9), none⟩,
  ⟨some 10, .extract (.tmp 7) 0, none⟩,
  ⟨some 11, .extract (.tmp 7) 1, none⟩,
  ⟨some 1, .move (.tmp 10), none⟩,
  ⟨some 2, .move (.tmp 11), none⟩])
 (.seq
 (.reg [⟨some 13, .move (.tmp 1), none⟩,
  ⟨some 14, .call (.cst (.func (.func 11) [] [])) [(.tmp 13)], none⟩,
  ⟨some 12, .move (.tmp 14), none⟩,
  ⟨some 15, .extract (.tmp 12) 0, none⟩,
  ⟨some 16, .extract (.tmp 12) 1, none⟩,
  ⟨some 3, .alloc [(.int .i64 0), (.int .i64 0), (.int .u8 0), (.int .u8 0), (.int .u8 0), (.int .u8 0), (.int .u8 0), (.int .u8 0), (.int .u8 0), (.int .u8 0), (.int .u8 0), (.int .u8 0), (.int .u8 0), (.int .u8 0), (.int .u8 0), (.int .u8 0), (.int .u8 0), (.int .u8 0), (.int .u8 0), (.int .u8 0), (.int .u8 0), (.int .u8 0), (.int .u8 0), (.int .u8 0), (.int .u8 0), (.int .u8 0), (.int .u8 0), (.int .u8 0), (.int .u8 0), (.int .u8 0), (.int .u8 0), (.int .u8 0), (.int .u8 0), (.int .u8 0), (.int .u8 0), (.int .u8 0), (.int .u8 0), (.int .u8 0), (.int .u8 0), (.int .u8 0), (.int .u8 0), (.int .u8 0), (.int .u8 0), (.int .u8 0), (.int .u8 0), (.int .u8 0), (.int .u8 0), (.int .u8 0), (.int .u8 0), (.int .u8 0), (.int .u8 0), (.int .u8 0), (.int .u8 0), (.int .u8 0), (.int .u8 0), (.int .u8 0), (.int .u8 0), (.int .u8 0), (.int .u8 0), (.int .u8 0), (.int .u8 0), (.int .u8 0), (.int .u8 0), (.int .u8 0), (.int .u8 0), (.int .u8 0), (.int .i64 0), (.int .i64 0), (.sc (.string (bs [])))], none⟩,
  ⟨none, .store 69 (.tmp 3) (.tmp 15), none⟩,
  ⟨some 4, .move (.tmp 16), none⟩])
 (.seq
 (.reg [⟨some 18, .build [(.int .i64 0), (.int .i64 0), (.int .u8 0), (.int .u8 0), (.int .u8 0), (.int .u8 0), (.int .u8 0), (.int .u8 0), (.int .u8 0), (.int .u8 0), (.int .u8 0), (.int .u8 0), (.int .u8 0), (.int .u8 0), (.int .u8 0), (.int .u8 0), (.int .u8 0), (.int .u8 0), (.int .u8 0), (.int .u8 0), (.int .u8 0), (.int .u8 0), (.int .u8 0), (.int .u8 0), (.int .u8 0), (.int .u8 0), (.int .u8 0), (.int .u8 0), (.int .u8 0), (.int .u8 0), (.int .u8 0), (.int .u8 0), (.int .u8 0), (.int .u8 0), (.int .u8 0), (.int .u8 0), (.int .u8 0), (.int .u8 0), (.int .u8 0), (.int .u8 0), (.int .u8 0), (.int .u8 0), (.int .u8 0), (.int .u8 0), (.int .u8 0), (.int .u8 0), (.int .u8 0), (.int .u8 0), (.int .u8 0), (.int .u8 0), (.int .u8 0), (.int .u8 0), (.int .u8 0), (.int .u8 0), (.int .u8 0), (.int .u8 0), (.int .u8 0), (.int .u8 0), (.int .u8 0), (.int .u8 0), (.int .u8 0), (.int .u8 0), (.int .u8 0), (.int .u8 0), (.int .u8 0), (.int .u8 0), (.int .i64 0), (.int .i64 0), (.sc (.string (bs [])))] [], none⟩,
  ⟨some 19, .call (.cst (.func (.func 6) [] [])) [(.tmp 18)], none⟩,
  ⟨some 17, .move (.tmp 19), none⟩,
  ⟨some 20, .extract (.tmp 17) 0, none⟩,
  ⟨some 21, .extract (.tmp 17) 1, none⟩,
  ⟨some 5, .move (.tmp 20), none⟩,
  ⟨some 6, .move (.tmp 21), none⟩])
 (.seq
 (.regD [⟨some 22, .move (.tmp 2), none⟩,
  ⟨some 23, .bin .eql (.tmp 22) (.cst (.int .i64 0)), none⟩,
  ⟨some 24, .move (.tmp 23), none⟩,
  ⟨some 25, .move (.tmp 4), some (24, true)⟩,
  ⟨some 26, .bin .eql (.tmp 25) (.cst (.int .i64 0)), some (24, true)⟩,
  ⟨some 27, .pick (.tmp 24) (.tmp 26) (.cst (.bool false)), none⟩,
  ⟨some 28, .move (.tmp 27), none⟩,
  ⟨some 29, .move (.tmp 6), some (28, true)⟩,
  ⟨some 30, .bin .eql (.tmp 29) (.cst (.int .i64 1)), some (28, true)⟩,
  ⟨some 31, .pick (.tmp 28) (.tmp 30) (.cst (.bool false)), none⟩,
  ⟨some 32, .move (.tmp 31), none⟩,
  ⟨some 33, .load (some 69) (.tmp 3), some (32, true)⟩,
  ⟨some 34, .call (.cst (.func (.func 23) [] [])) [], some (32, true)⟩,
  ⟨some 35, .eqAgg false [.int, .int, .int, .int, .int, .int, .int, .int, .int, .int, .int, .int, .int, .int, .int, .int, .int, .int, .int, .int, .int, .int, .int, .int, .int, .int, .int, .int, .int, .int, .int, .int, .int, .int, .int, .int, .int, .int, .int, .int, .int, .int, .int, .int, .int, .int, .int, .int, .int, .int, .int, .int, .int, .int, .int, .int, .int, .int, .int, .int, .int, .int, .int, .int, .int, .int, .int, .int, .str] (.tmp 33) (.tmp 34), some (32, true)⟩,
  ⟨some 36, .pick (.tmp 32) (.tmp 35) (.cst (.bool false)), none⟩,
  ⟨some 37, .move (.tmp 36), none⟩,
  ⟨some 38, .move (.tmp 1), some (37, true)⟩,
  ⟨some 39, .lenT (.tmp 38), some (37, true)⟩,
  ⟨some 40, .bin .gtr (.tmp 39) (.cst (.int .i64 3)), some (37, true)⟩,
  ⟨some 41, .pick (.tmp 37) (.tmp 40) (.cst (.bool false)), none⟩,
  ⟨some 42, .move (.tmp 41), none⟩,
  ⟨some 43, .move (.tmp 1), some (42, true)⟩,
  ⟨some 44, .slice .str none (.tmp 43) none (some (.cst (.int .i64 3))) none, some (42, true)⟩,
  ⟨some 45, .bin .eql (.tmp 44) (.cst (.sc (.string (bs [116, 104, 49])))), some (42, true)⟩,
  ⟨some 46, .pick (.tmp 42) (.tmp 45) (.cst (.bool false)), none⟩,
  ⟨some 47, .move (.tmp 46), none⟩,
  ⟨some 48, .buildSlice none (.int .u8 0) 2 [(0, (.cst (.int .u8 0))), (1, (.cst (.int .u8 68)))], some (47, true)⟩,
  ⟨some 49, .call (.cst (.func (.func 12) [] [])) [(.tmp 48)], some (47, true)⟩,
  ⟨some 50, .bin .eql (.tmp 49) (.cst (.sc (.string (bs [113, 112, 122, 113])))), some (47, true)⟩,
  ⟨some 51, .pick (.tmp 47) (.tmp 50) (.cst (.bool false)), none⟩,
  ⟨some 52, .move (.tmp 51), none⟩,
  ⟨some 53, .call (.cst (.func (.func 23) [] [])) [], some (52, true)⟩,
  ⟨some 54, .call (.cst (.func (.func 9) [] [])) [(.tmp 53)], some (52, true)⟩,
  ⟨some 55, .pick (.tmp 52) (.tmp 54) (.cst (.bool false)), none⟩,
  ⟨some 0, .move (.tmp 55), none⟩] [(0, 0), (0, 0), (0, 0), (0, 0), (0, 0), (0, 0), (0, 0), (0, 0), (0, 0), (0, 0), (0, 0), (0, 1), (0, 0), (1, 1), (1, 1), (1, 1), (1, 1), (1, 1), (1, 1), (1, 1), (1, 1), (1, 1), (1, 1), (1, 1), (1, 1), (1, 1), (1, 1), (1, 1), (2, 2), (2, 2), (2, 2), (2, 2), (3, 3), (4, 4), (4, 4)])
 (.ret)))))⟩
theorem c8 : compF Try.prog gl true [] [] Try.f8 = some F8 := by kernel_rfl
def L9_0 : AC := .seq
 (.reg [⟨some 37, .bin .lss (.tmp 36) (.tmp 35), none⟩])
 (.seq
 (.cond (.tmp 37)
 (.skip)
 (.exit 0))
 (.seq
 (.block 1
 (.seq
 (.reg [⟨some 38, .indexAddr .slice none (.tmp 34) (.tmp 36), none⟩,
  ⟨some 39, .load none (.tmp 38), none⟩,
  ⟨some 4, .move (.tmp 39), none⟩])
 (.seq
 (.reg [⟨some 40, .move (.tmp 4), none⟩,
  ⟨some 41, .bin .lss (.tmp 40) (.cst (.int .u8 32)), none⟩,
  ⟨some 42, .move (.tmp 41), none⟩,
  ⟨some 43, .move (.tmp 4), some (42, false)⟩,
  ⟨some 44, .bin .gtr (.tmp 43) (.cst (.int .u8 126)), some (42, false)⟩,
  ⟨some 45, .pick (.tmp 42) (.cst (.bool true)) (.tmp 44), none⟩])
 (.cond (.tmp 45)
 (.seq
 (.reg [⟨some 2, .move (.cst (.bool false)), none⟩])
 (.ret))
 (.skip)))))
 (.reg [⟨some 46, .bin .add (.tmp 36) (.cst (.int .i64 1)), none⟩,
  ⟨some 36, .move (.tmp 46), none⟩])))
/- tollhouse/invoice.May -/
def F9 : AFn := ⟨55, true, 1, [.tmp 2], .seq
 (.reg [⟨some 1, .boxI (.tmp 0), none⟩,
  ⟨some 2, .move (.cst (.bool false)), none⟩])
 (.seq
 (.seq
 (.reg [⟨some 5, .fieldAddr 0 1 (.tmp 1), none⟩,
  ⟨some 6, .load none (.tmp 5), none⟩,
  ⟨some 7, .call (.cst (.func (.func 24) [] [])) [(.tmp 6), (.cst (.int .i64 0)), (.cst (.int .i64 7))], none⟩,
  ⟨some 8, .un .not (.tmp 7), none⟩,
  ⟨some 9, .move (.tmp 8), none⟩,
  ⟨some 10, .fieldAddr 1 1 (.tmp 1), some (9, false)⟩,
  ⟨some 11, .load none (.tmp 10), some (9, false)⟩,
  ⟨some 12, .call (.cst (.func (.func 24) [] [])) [(.tmp 11), (.cst (.int .i64 1)), (.cst (.int .i64 3))], some (9, false)⟩,
  ⟨some 13, .un .not (.tmp 12), some (9, false)⟩,
  ⟨some 14, .pick (.tmp 9) (.cst (.bool true)) (.tmp 13), none⟩,
  ⟨some 15, .move (.tmp 14), none⟩,
  ⟨some 16, .fieldAddr 66 1 (.tmp 1), some (15, false)⟩,
  ⟨some 17, .load none (.tmp 16), some (15, false)⟩,
  ⟨some 18, .bin .lss (.tmp 17) (.cst (.int .i64 1)), some (15, false)⟩,
  ⟨some 19, .pick (.tmp 15) (.cst (.bool true)) (.tmp 18), none⟩,
  ⟨some 20, .move (.tmp 19), none⟩,
  ⟨some 21, .fieldAddr 67 1 (.tmp 1), some (20, false)⟩,
  ⟨some 22, .load none (.tmp 21), some (20, false)⟩,
  ⟨some 23, .call (.cst (.func (.func 24) [] [])) [(.tmp 22), (.cst (.int .i64 0)), (.cst (.int .i64 2147483647))], some (20, false)⟩,
  ⟨some 24, .un .not (.tmp 23), some (20, false)⟩,
  ⟨some 25, .pick (.tmp 20) (.cst (.bool true)) (.tmp 24), none⟩,
  ⟨some 26, .move (.tmp 25), none⟩,
  ⟨some 27, .fieldAddr 68 1 (.tmp 1), some (26, false)⟩,
  ⟨some 28, .load none (.tmp 27), some (26, false)⟩,
  ⟨some 29, .lenT (.tmp 28), some (26, false)⟩,
  ⟨some 30, .bin .gtr (.tmp 29) (.cst (.int .i64 64)), some (26, false)⟩,
  ⟨some 31, .pick (.tmp 26) (.cst (.bool true)) (.tmp 30), none⟩])
 (.cond (.tmp 31)
 (.seq
 (.reg [⟨some 2, .move (.cst (.bool false)), none⟩])
 (.ret))
 (.skip)))
 (.seq
 (.seq
 (.reg [⟨some 32, .fieldAddr 68 1 (.tmp 1), none⟩,
  ⟨some 33, .load none (.tmp 32), none⟩,
  ⟨some 34, .convBytes (.tmp 33), none⟩,
  ⟨some 35, .len (.tmp 34), none⟩,
  ⟨some 36, .move (.cst (.int .i64 0)), none⟩])
 (.block 0
 (.loop [1, 34, 35, 36] true L9_0)))
 (.seq
 (.regQ [⟨some 47, .fieldAddr 2 32 (.tmp 1), none⟩,
  ⟨some 48, .load (some 32) (.tmp 47), none⟩,
  ⟨some 49, .build [(.int .u8 0), (.int .u8 0), (.int .u8 0), (.int .u8 0), (.int .u8 0), (.int .u8 0), (.int .u8 0), (.int .u8 0), (.int .u8 0), (.int .u8 0), (.int .u8 0), (.int .u8 0), (.int .u8 0), (.int .u8 0), (.int .u8 0), (.int .u8 0), (.int .u8 0), (.int .u8 0), (.int .u8 0), (.int .u8 0), (.int .u8 0), (.int .u8 0), (.int .u8 0), (.int .u8 0), (.int .u8 0), (.int .u8 0), (.int .u8 0), (.int .u8 0), (.int .u8 0), (.int .u8 0), (.int .u8 0), (.int .u8 0)] [], none⟩,
  ⟨some 50, .eqArr false 32 (.tmp 48) (.tmp 49), none⟩,
  ⟨some 51, .fieldAddr 1 1 (.tmp 1), none⟩,
  ⟨some 52, .load none (.tmp 51), none⟩,
  ⟨some 53, .bin .eql (.tmp 52) (.cst (.int .i64 3)), none⟩,
  ⟨some 54, .eqBool false (.tmp 50) (.tmp 53), none⟩,
  ⟨some 2, .move (.tmp 54), none⟩])
 (.ret))))⟩
theorem c9 : compF Try.prog gl true [(1, (some 0))] [([1, 34, 35, 36], true)] Try.f9 = some F9 := by kernel_rfl
def L10_0 : AC := .seq
 (.seq
 (.reg [⟨some 53, .move (.tmp 3), none⟩,
  ⟨some 54, .fieldAddr 68 1 (.tmp 1), none⟩,
  ⟨some 55, .load none (.tmp 54), none⟩,
  ⟨some 56, .lenT (.tmp 55), none⟩,
  ⟨some 57, .bin .lss (.tmp 53) (.tmp 56), none⟩])
 (.cond (.tmp 57)
 (.skip)
 (.exit 0)))
 (.seq
 (.block 1
 (.seq
 (.reg [⟨some 60, .fieldAddr 68 1 (.tmp 1), none⟩,
  ⟨some 61, .load none (.tmp 60), none⟩,
  ⟨some 62, .move (.tmp 3), none⟩,
  ⟨some 63, .indexStr (.tmp 61) (.tmp 62), none⟩,
  ⟨some 64, .bin .lss (.tmp 63) (.cst (.int .u8 32)), none⟩,
  ⟨some 65, .move (.tmp 64), none⟩,
  ⟨some 66, .fieldAddr 68 1 (.tmp 1), some (65, false)⟩,
  ⟨some 67, .load none (.tmp 66), some (65, false)⟩,
  ⟨some 68, .move (.tmp 3), some (65, false)⟩,
  ⟨some 69, .indexStr (.tmp 67) (.tmp 68), some (65, false)⟩,
  ⟨some 70, .bin .gtr (.tmp 69) (.cst (.int .u8 126)), some (65, false)⟩,
  ⟨some 71, .pick (.tmp 65) (.cst (.bool true)) (.tmp 70), none⟩])
 (.cond (.tmp 71)
 (.seq
 (.reg [⟨some 2, .move (.cst (.bool false)), none⟩])
 (.ret))
 (.skip))))
 (.reg [⟨some 58, .move (.tmp 3), none⟩,
  ⟨some 59, .bin .add (.tmp 58) (.cst (.int .i64 1)), none⟩,
  ⟨some 3, .move (.tmp 59), none⟩]))
/- tollhouse/tollhouseref09.May -/
def F10 : AFn := ⟨72, true, 1, [.tmp 2], .seq
 (.reg [⟨some 1, .boxI (.tmp 0), none⟩,
  ⟨some 2, .move (.cst (.bool false)), none⟩])
 (.seq
 (.seq
 (.regQ [⟨some 4, .fieldAddr 0 1 (.tmp 1), none⟩,
  ⟨some 5, .load none (.tmp 4), none⟩,
  ⟨some 6, .bin .lss (.tmp 5) (.cst (.int .i64 0)), none⟩,
  ⟨some 7, .move (.tmp 6), none⟩,
  ⟨some 8, .fieldAddr 0 1 (.tmp 1), some (7, false)⟩,
  ⟨some 9, .load none (.tmp 8), some (7, false)⟩,
  ⟨some 10, .bin .gtr (.tmp 9) (.cst (.int .i64 7)), some (7, false)⟩,
  ⟨some 11, .pick (.tmp 7) (.cst (.bool true)) (.tmp 10), none⟩,
  ⟨some 12, .move (.tmp 11), none⟩,
  ⟨some 13, .fieldAddr 1 1 (.tmp 1), some (12, false)⟩,
  ⟨some 14, .load none (.tmp 13), some (12, false)⟩,
  ⟨some 15, .bin .lss (.tmp 14) (.cst (.int .i64 1)), some (12, false)⟩,
  ⟨some 16, .pick (.tmp 12) (.cst (.bool true)) (.tmp 15), none⟩,
  ⟨some 17, .move (.tmp 16), none⟩,
  ⟨some 18, .fieldAddr 1 1 (.tmp 1), some (17, false)⟩,
  ⟨some 19, .load none (.tmp 18), some (17, false)⟩,
  ⟨some 20, .bin .gtr (.tmp 19) (.cst (.int .i64 3)), some (17, false)⟩,
  ⟨some 21, .pick (.tmp 17) (.cst (.bool true)) (.tmp 20), none⟩,
  ⟨some 22, .move (.tmp 21), none⟩,
  ⟨some 23, .fieldAddr 66 1 (.tmp 1), some (22, false)⟩,
  ⟨some 24, .load none (.tmp 23), some (22, false)⟩,
  ⟨some 25, .bin .lss (.tmp 24) (.cst (.int .i64 1)), some (22, false)⟩,
  ⟨some 26, .pick (.tmp 22) (.cst (.bool true)) (.tmp 25), none⟩,
  ⟨some 27, .move (.tmp 26), none⟩,
  ⟨some 28, .fieldAddr 67 1 (.tmp 1), some (27, false)⟩,
  ⟨some 29, .load none (.tmp 28), some (27, false)⟩,
  ⟨some 30, .bin .lss (.tmp 29) (.cst (.int .i64 0)), some (27, false)⟩,
  ⟨some 31, .pick (.tmp 27) (.cst (.bool true)) (.tmp 30), none⟩,
  ⟨some 32, .move (.tmp 31), none⟩,
  ⟨some 33, .fieldAddr 67 1 (.tmp 1), some (32, false)⟩,
  ⟨some 34, .load none (.tmp 33), some (32, false)⟩,
  ⟨some 35, .bin .gtr (.tmp 34) (.cst (.int .i64 2147483647)), some (32, false)⟩,
  ⟨some 36, .pick (.tmp 32) (.cst (.bool true)) (.tmp 35), none⟩,
  ⟨some 37, .move (.tmp 36), none⟩,
  ⟨some 38, .fieldAddr 2 32 (.tmp 1), some (37, false)⟩,
  ⟨some 39, .load (some 32) (.tmp 38), some (37, false)⟩,
  ⟨some 40, .build [(.int .u8 0), (.int .u8 0), (.int .u8 0), (.int .u8 0), (.int .u8 0), (.int .u8 0), (.int .u8 0), (.int .u8 0), (.int .u8 0), (.int .u8 0), (.int .u8 0), (.int .u8 0), (.int .u8 0), (.int .u8 0), (.int .u8 0), (.int .u8 0), (.int .u8 0), (.int .u8 0), (.int .u8 0), (.int .u8 0), (.int .u8 0), (.int .u8 0), (.int .u8 0), (.int .u8 0), (.int .u8 0), (.int .u8 0), (.int .u8 0), (.int .u8 0), (.int .u8 0), (.int .u8 0), (.int .u8 0), (.int .u8 0)] [], some (37, false)⟩,
  ⟨some 41, .eqArr false 32 (.tmp 39) (.tmp 40), some (37, false)⟩,
  ⟨some 42, .fieldAddr 1 1 (.tmp 1), some (37, false)⟩,
  ⟨some 43, .load none (.tmp 42), some (37, false)⟩,
  ⟨some 44, .bin .eql (.tmp 43) (.cst (.int .i64 3)), some (37, false)⟩,
  ⟨some 45, .eqBool true (.tmp 41) (.tmp 44), some (37, false)⟩,
  ⟨some 46, .pick (.tmp 37) (.cst (.bool true)) (.tmp 45), none⟩,
  ⟨some 47, .move (.tmp 46), none⟩,
  ⟨some 48, .fieldAddr 68 1 (.tmp 1), some (47, false)⟩,
  ⟨some 49, .load none (.tmp 48), some (47, false)⟩,
  ⟨some 50, .lenT (.tmp 49), some (47, false)⟩,
  ⟨some 51, .bin .gtr (.tmp 50) (.cst (.int .i64 64)), some (47, false)⟩,
  ⟨some 52, .pick (.tmp 47) (.cst (.bool true)) (.tmp 51), none⟩])
 (.cond (.tmp 52)
 (.seq
 (.reg [⟨some 2, .move (.cst (.bool false)), none⟩])
 (.ret))
 (.skip)))
 (.seq
 (.seq
 (.reg [⟨some 3, .move (.cst (.int .i64 0)), none⟩])
 (.block 0
 (.loop [1, 3] true L10_0)))
 (.seq
 (.reg [⟨some 2, .move (.cst (.bool true)), none⟩])
 (.ret))))⟩
theorem c10 : compF Try.prog gl true [(1, (some 0))] [([1, 3], true)] Try.f10 = some F10 := by kernel_rfl
/- tollhouse/invoice.Decode -/
def F11 : AFn := ⟨67, true, 1, [.cell 2 (some 69), .tmp 3], .seq
 (.reg [⟨some 2, .alloc [(.int .i64 0), (.int .i64 0), (.int .u8 0), (.int .u8 0), (.int .u8 0), (.int .u8 0), (.int .u8 0), (.int .u8 0), (.int .u8 0), (.int .u8 0), (.int .u8 0), (.int .u8 0), (.int .u8 0), (.int .u8 0), (.int .u8 0), (.int .u8 0), (.int .u8 0), (.int .u8 0), (.int .u8 0), (.int .u8 0), (.int .u8 0), (.int .u8 0), (.int .u8 0), (.int .u8 0), (.int .u8 0), (.int .u8 0), (.int .u8 0), (.int .u8 0), (.int .u8 0), (.int .u8 0), (.int .u8 0), (.int .u8 0), (.int .u8 0), (.int .u8 0), (.int .u8 0), (.int .u8 0), (.int .u8 0), (.int .u8 0), (.int .u8 0), (.int .u8 0), (.int .u8 0), (.int .u8 0), (.int .u8 0), (.int .u8 0), (.int .u8 0), (.int .u8 0), (.int .u8 0), (.int .u8 0), (.int .u8 0), (.int .u8 0), (.int .u8 0), (.int .u8 0), (.int .u8 0), (.int .u8 0), (.int .u8 0), (.int .u8 0), (.int .u8 0), (.int .u8 0), (.int .u8 0), (.int .u8 0), (.int .u8 0), (.int .u8 0), (.int .u8 0), (.int .u8 0), (.int .u8 0), (.int .u8 0), (.int .i64 0), (.int .i64 0), (.sc (.string (bs [])))], none⟩,
  ⟨some 3, .move (.cst (.int .i64 0)), none⟩])
 (.seq
 (.reg [⟨some 13, .move (.tmp 0), none⟩,
  ⟨some 14, .call (.cst (.func (.func 25) [] [])) [(.tmp 13), (.cst (.sc (.string (bs [116, 104, 49]))))], none⟩,
  ⟨some 12, .move (.tmp 14), none⟩,
  ⟨some 15, .extract (.tmp 12) 0, none⟩,
  ⟨some 16, .extract (.tmp 12) 1, none⟩,
  ⟨some 4, .move (.tmp 15), none⟩,
  ⟨some 5, .move (.tmp 16), none⟩])
 (.seq
 (.reg [⟨some 18, .move (.tmp 4), none⟩,
  ⟨some 19, .call (.cst (.func (.func 13) [] [])) [(.tmp 18)], none⟩,
  ⟨some 17, .move (.tmp 19), none⟩,
  ⟨some 20, .extract (.tmp 17) 0, none⟩,
  ⟨some 21, .extract (.tmp 17) 1, none⟩,
  ⟨some 6, .move (.tmp 20), none⟩,
  ⟨some 7, .move (.tmp 21), none⟩])
 (.seq
 (.reg [⟨some 22, .move (.tmp 6), none⟩,
  ⟨some 23, .len (.tmp 22), none⟩,
  ⟨some 24, .bin .sub (.tmp 23) (.cst (.int .i64 4)), none⟩,
  ⟨some 8, .move (.tmp 24), none⟩])
 (.seq
 (.block 0
 (.seq
 (.reg [⟨some 26, .move (.tmp 5), none⟩,
  ⟨some 27, .un .not (.tmp 26), none⟩,
  ⟨some 28, .move (.tmp 27), none⟩,
  ⟨some 29, .move (.tmp 7), some (28, false)⟩,
  ⟨some 30, .bin .neq (.tmp 29) (.cst (.int .i64 0)), some (28, false)⟩,
  ⟨some 31, .pick (.tmp 28) (.cst (.bool true)) (.tmp 30), none⟩,
  ⟨some 32, .move (.tmp 31), none⟩,
  ⟨some 33, .move (.tmp 8), some (32, false)⟩,
  ⟨some 34, .bin .lss (.tmp 33) (.cst (.int .i64 0)), some (32, false)⟩,
  ⟨some 35, .pick (.tmp 32) (.cst (.bool true)) (.tmp 34), none⟩,
  ⟨some 25, .move (.tmp 35), none⟩])
 (.cond (.tmp 25)
 (.seq
 (.reg [⟨some 36, .build [(.int .i64 0), (.int .i64 0), (.int .u8 0), (.int .u8 0), (.int .u8 0), (.int .u8 0), (.int .u8 0), (.int .u8 0), (.int .u8 0), (.int .u8 0), (.int .u8 0), (.int .u8 0), (.int .u8 0), (.int .u8 0), (.int .u8 0), (.int .u8 0), (.int .u8 0), (.int .u8 0), (.int .u8 0), (.int .u8 0), (.int .u8 0), (.int .u8 0), (.int .u8 0), (.int .u8 0), (.int .u8 0), (.int .u8 0), (.int .u8 0), (.int .u8 0), (.int .u8 0), (.int .u8 0), (.int .u8 0), (.int .u8 0), (.int .u8 0), (.int .u8 0), (.int .u8 0), (.int .u8 0), (.int .u8 0), (.int .u8 0), (.int .u8 0), (.int .u8 0), (.int .u8 0), (.int .u8 0), (.int .u8 0), (.int .u8 0), (.int .u8 0), (.int .u8 0), (.int .u8 0), (.int .u8 0), (.int .u8 0), (.int .u8 0), (.int .u8 0), (.int .u8 0), (.int .u8 0), (.int .u8 0), (.int .u8 0), (.int .u8 0), (.int .u8 0), (.int .u8 0), (.int .u8 0), (.int .u8 0), (.int .u8 0), (.int .u8 0), (.int .u8 0), (.int .u8 0), (.int .u8 0), (.int .u8 0), (.int .i64 0), (.int .i64 0), (.sc (.string (bs [])))] [], none⟩,
  ⟨none, .store 69 (.tmp 2) (.tmp 36), none⟩,
  ⟨some 3, .move (.cst (.int .i64 10)), none⟩])
 (.ret))
 (.seq
 (.regD [⟨some 38, .move (.tmp 6), none⟩,
  ⟨some 39, .move (.tmp 8), none⟩,
  ⟨some 40, .slice .slice none (.tmp 38) none (some (.tmp 39)) none, none⟩,
  ⟨some 41, .call (.cst (.func (.func 19) [] [])) [(.tmp 40)], none⟩,
  ⟨some 42, .move (.tmp 6), none⟩,
  ⟨some 43, .move (.tmp 8), none⟩,
  ⟨some 44, .slice .slice none (.tmp 42) (some (.tmp 43)) none none, none⟩,
  ⟨some 45, .call (.cst (.func (.func 26) [] [])) [(.tmp 41), (.tmp 44)], none⟩,
  ⟨some 46, .un .not (.tmp 45), none⟩,
  ⟨some 37, .move (.tmp 46), none⟩] [(0, 0), (0, 0), (0, 0), (0, 0), (0, 1), (0, 1), (0, 1), (1, 1), (2, 2), (2, 2)])
 (.cond (.tmp 37)
 (.seq
 (.reg [⟨some 47, .build [(.int .i64 0), (.int .i64 0), (.int .u8 0), (.int .u8 0), (.int .u8 0), (.int .u8 0), (.int .u8 0), (.int .u8 0), (.int .u8 0), (.int .u8 0), (.int .u8 0), (.int .u8 0), (.int .u8 0), (.int .u8 0), (.int .u8 0), (.int .u8 0), (.int .u8 0), (.int .u8 0), (.int .u8 0), (.int .u8 0), (.int .u8 0), (.int .u8 0), (.int .u8 0), (.int .u8 0), (.int .u8 0), (.int .u8 0), (.int .u8 0), (.int .u8 0), (.int .u8 0), (.int .u8 0), (.int .u8 0), (.int .u8 0), (.int .u8 0), (.int .u8 0), (.int .u8 0), (.int .u8 0), (.int .u8 0), (.int .u8 0), (.int .u8 0), (.int .u8 0), (.int .u8 0), (.int .u8 0), (.int .u8 0), (.int .u8 0), (.int .u8 0), (.int .u8 0), (.int .u8 0), (.int .u8 0), (.int .u8 0), (.int .u8 0), (.int .u8 0), (.int .u8 0), (.int .u8 0), (.int .u8 0), (.int .u8 0), (.int .u8 0), (.int .u8 0), (.int .u8 0), (.int .u8 0), (.int .u8 0), (.int .u8 0), (.int .u8 0), (.int .u8 0), (.int .u8 0), (.int .u8 0), (.int .u8 0), (.int .i64 0), (.int .i64 0), (.sc (.string (bs [])))] [], none⟩,
  ⟨none, .store 69 (.tmp 2) (.tmp 47), none⟩,
  ⟨some 3, .move (.cst (.int .i64 90)), none⟩])
 (.ret))
 (.skip))))))
 (.seq
 (.reg [⟨some 49, .move (.tmp 6), none⟩,
  ⟨some 50, .move (.tmp 8), none⟩,
  ⟨some 51, .slice .slice none (.tmp 49) none (some (.tmp 50)) none, none⟩,
  ⟨some 52, .call (.cst (.func (.func 27) [] [])) [(.tmp 51), (.cst .nil)], none⟩,
  ⟨some 48, .move (.tmp 52), none⟩,
  ⟨some 53, .extract (.tmp 48) 0, none⟩,
  ⟨some 54, .extract (.tmp 48) 1, none⟩,
  ⟨some 9, .move (.tmp 53), none⟩,
  ⟨some 7, .move (.tmp 54), none⟩])
 (.seq
 (.seq
 (.reg [⟨some 55, .move (.tmp 7), none⟩,
  ⟨some 56, .bin .neq (.tmp 55) (.cst (.int .i64 0)), none⟩])
 (.cond (.tmp 56)
 (.seq
 (.reg [⟨some 57, .build [(.int .i64 0), (.int .i64 0), (.int .u8 0), (.int .u8 0), (.int .u8 0), (.int .u8 0), (.int .u8 0), (.int .u8 0), (.int .u8 0), (.int .u8 0), (.int .u8 0), (.int .u8 0), (.int .u8 0), (.int .u8 0), (.int .u8 0), (.int .u8 0), (.int .u8 0), (.int .u8 0), (.int .u8 0), (.int .u8 0), (.int .u8 0), (.int .u8 0), (.int .u8 0), (.int .u8 0), (.int .u8 0), (.int .u8 0), (.int .u8 0), (.int .u8 0), (.int .u8 0), (.int .u8 0), (.int .u8 0), (.int .u8 0), (.int .u8 0), (.int .u8 0), (.int .u8 0), (.int .u8 0), (.int .u8 0), (.int .u8 0), (.int .u8 0), (.int .u8 0), (.int .u8 0), (.int .u8 0), (.int .u8 0), (.int .u8 0), (.int .u8 0), (.int .u8 0), (.int .u8 0), (.int .u8 0), (.int .u8 0), (.int .u8 0), (.int .u8 0), (.int .u8 0), (.int .u8 0), (.int .u8 0), (.int .u8 0), (.int .u8 0), (.int .u8 0), (.int .u8 0), (.int .u8 0), (.int .u8 0), (.int .u8 0), (.int .u8 0), (.int .u8 0), (.int .u8 0), (.int .u8 0), (.int .u8 0), (.int .i64 0), (.int .i64 0), (.sc (.string (bs [])))] [], none⟩,
  ⟨none, .store 69 (.tmp 2) (.tmp 57), none⟩,
  ⟨some 3, .move (.cst (.int .i64 10)), none⟩])
 (.ret))
 (.skip)))
 (.seq
 (.reg [⟨some 59, .move (.tmp 9), none⟩,
  ⟨some 60, .call (.cst (.func (.func 28) [] [])) [(.tmp 59)], none⟩,
  ⟨some 58, .move (.tmp 60), none⟩,
  ⟨some 61, .extract (.tmp 58) 0, none⟩,
  ⟨some 62, .extract (.tmp 58) 1, none⟩,
  ⟨some 10, .alloc [(.int .i64 0), (.int .i64 0), (.int .u8 0), (.int .u8 0), (.int .u8 0), (.int .u8 0), (.int .u8 0), (.int .u8 0), (.int .u8 0), (.int .u8 0), (.int .u8 0), (.int .u8 0), (.int .u8 0), (.int .u8 0), (.int .u8 0), (.int .u8 0), (.int .u8 0), (.int .u8 0), (.int .u8 0), (.int .u8 0), (.int .u8 0), (.int .u8 0), (.int .u8 0), (.int .u8 0), (.int .u8 0), (.int .u8 0), (.int .u8 0), (.int .u8 0), (.int .u8 0), (.int .u8 0), (.int .u8 0), (.int .u8 0), (.int .u8 0), (.int .u8 0), (.int .u8 0), (.int .u8 0), (.int .u8 0), (.int .u8 0), (.int .u8 0), (.int .u8 0), (.int .u8 0), (.int .u8 0), (.int .u8 0), (.int .u8 0), (.int .u8 0), (.int .u8 0), (.int .u8 0), (.int .u8 0), (.int .u8 0), (.int .u8 0), (.int .u8 0), (.int .u8 0), (.int .u8 0), (.int .u8 0), (.int .u8 0), (.int .u8 0), (.int .u8 0), (.int .u8 0), (.int .u8 0), (.int .u8 0), (.int .u8 0), (.int .u8 0), (.int .u8 0), (.int .u8 0), (.int .u8 0), (.int .u8 0), (.int .i64 0), (.int .i64 0), (.sc (.string (bs [])))], none⟩,
  ⟨none, .store 69 (.tmp 10) (.tmp 61), none⟩,
  ⟨some 11, .move (.tmp 62), none⟩])
 (.seq
 (.seq
 (.reg [⟨some 63, .move (.tmp 11), none⟩,
  ⟨some 64, .un .not (.tmp 63), none⟩])
 (.cond (.tmp 64)
 (.seq
 (.reg [⟨some 65, .build [(.int .i64 0), (.int .i64 0), (.int .u8 0), (.int .u8 0), (.int .u8 0), (.int .u8 0), (.int .u8 0), (.int .u8 0), (.int .u8 0), (.int .u8 0), (.int .u8 0), (.int .u8 0), (.int .u8 0), (.int .u8 0), (.int .u8 0), (.int .u8 0), (.int .u8 0), (.int .u8 0), (.int .u8 0), (.int .u8 0), (.int .u8 0), (.int .u8 0), (.int .u8 0), (.int .u8 0), (.int .u8 0), (.int .u8 0), (.int .u8 0), (.int .u8 0), (.int .u8 0), (.int .u8 0), (.int .u8 0), (.int .u8 0), (.int .u8 0), (.int .u8 0), (.int .u8 0), (.int .u8 0), (.int .u8 0), (.int .u8 0), (.int .u8 0), (.int .u8 0), (.int .u8 0), (.int .u8 0), (.int .u8 0), (.int .u8 0), (.int .u8 0), (.int .u8 0), (.int .u8 0), (.int .u8 0), (.int .u8 0), (.int .u8 0), (.int .u8 0), (.int .u8 0), (.int .u8 0), (.int .u8 0), (.int .u8 0), (.int .u8 0), (.int .u8 0), (.int .u8 0), (.int .u8 0), (.int .u8 0), (.int .u8 0), (.int .u8 0), (.int .u8 0), (.int .u8 0), (.int .u8 0), (.int .u8 0), (.int .i64 0), (.int .i64 0), (.sc (.string (bs [])))] [], none⟩,
  ⟨none, .store 69 (.tmp 2) (.tmp 65), none⟩,
  ⟨some 3, .move (.cst (.int .i64 10)), none⟩])
 (.ret))
 (.skip)))
 (.seq
 (.reg [⟨some 66, .load (some 69) (.tmp 10), none⟩,
  ⟨none, .store 69 (.tmp 2) (.tmp 66), none⟩,
  ⟨some 3, .move (.cst (.int .i64 0)), none⟩])
 (.ret))))))))))⟩
theorem c11 : compF Try.prog gl true [] [] Try.f11 = some F11 := by kernel_rfl
def L12_0 : AC := .seq
 (.seq
 (.reg [⟨some 27, .move (.tmp 5), none⟩,
  ⟨some 28, .bin .geq (.tmp 27) (.cst (.int .i64 5)), none⟩])
 (.cond (.tmp 28)
 (.skip)
 (.exit 2)))
 (.seq
 (.block 3
 (.reg [⟨some 31, .move (.tmp 3), none⟩,
  ⟨some 32, .move (.tmp 4), none⟩,
  ⟨some 33, .move (.tmp 5), none⟩,
  ⟨some 34, .bin .sub (.tmp 33) (.cst (.int .i64 5)), none⟩,
  ⟨some 35, .bin .shr (.tmp 32) (.tmp 34), none⟩,
  ⟨some 36, .bin .and (.tmp 35) (.cst (.int .u64 31)), none⟩,
  ⟨some 37, .indexStr (.cst (.sc (.string (bs [113, 112, 122, 114, 121, 57, 120, 56, 103, 102, 50, 116, 118, 100, 119, 48, 115, 51, 106, 110, 53, 52, 107, 104, 99, 101, 54, 109, 117, 97, 55, 108])))) (.tmp 36), none⟩,
  ⟨some 38, .buildSlice none (.int .u8 0) 1 [(0, (.tmp 37))], none⟩,
  ⟨some 39, .append none 1 (.tmp 31) (.tmp 38), none⟩,
  ⟨some 3, .move (.tmp 39), none⟩]))
 (.reg [⟨some 29, .move (.tmp 5), none⟩,
  ⟨some 30, .bin .sub (.tmp 29) (.cst (.int .i64 5)), none⟩,
  ⟨some 5, .move (.tmp 30), none⟩]))
def L12_1 : AC := .seq
 (.reg [⟨some 17, .bin .lss (.tmp 16) (.tmp 15), none⟩])
 (.seq
 (.cond (.tmp 17)
 (.skip)
 (.exit 0))
 (.seq
 (.block 1
 (.seq
 (.reg [⟨some 18, .indexAddr .slice none (.tmp 14) (.tmp 16), none⟩,
  ⟨some 19, .load none (.tmp 18), none⟩,
  ⟨some 7, .move (.tmp 19), none⟩])
 (.seq
 (.reg [⟨some 20, .move (.tmp 4), none⟩,
  ⟨some 21, .bin .shl (.tmp 20) (.cst (.int .u64 8)), none⟩,
  ⟨some 22, .move (.tmp 7), none⟩,
  ⟨some 23, .convInt .u64 (.tmp 22), none⟩,
  ⟨some 24, .bin .or (.tmp 21) (.tmp 23), none⟩,
  ⟨some 25, .move (.tmp 5), none⟩,
  ⟨some 26, .bin .add (.tmp 25) (.cst (.int .i64 8)), none⟩,
  ⟨some 4, .move (.tmp 24), none⟩,
  ⟨some 5, .move (.tmp 26), none⟩])
 (.seq
 (.block 2
 (.loop [3, 4, 5, 14, 15, 16] true L12_0))
 (.reg [⟨some 40, .move (.tmp 4), none⟩,
  ⟨some 41, .move (.tmp 5), none⟩,
  ⟨some 42, .bin .shl (.cst (.int .u64 1)) (.tmp 41), none⟩,
  ⟨some 43, .bin .sub (.tmp 42) (.cst (.int .u64 1)), none⟩,
  ⟨some 44, .bin .and (.tmp 40) (.tmp 43), none⟩,
  ⟨some 4, .move (.tmp 44), none⟩])))))
 (.reg [⟨some 45, .bin .add (.tmp 16) (.cst (.int .i64 1)), none⟩,
  ⟨some 16, .move (.tmp 45), none⟩])))
/- tollhouse/invoice.Digits -/
def F12 : AFn := ⟨58, true, 1, [.tmp 2], .seq
 (.reg [⟨some 2, .move (.cst (.sc (.string (bs [])))), none⟩])
 (.seq
 (.reg [⟨some 8, .move (.tmp 0), none⟩,
  ⟨some 9, .len (.tmp 8), none⟩,
  ⟨some 10, .bin .mul (.tmp 9) (.cst (.int .i64 8)), none⟩,
  ⟨some 11, .bin .quo (.tmp 10) (.cst (.int .i64 5)), none⟩,
  ⟨some 12, .bin .add (.tmp 11) (.cst (.int .i64 1)), none⟩,
  ⟨some 13, .makeSlice none [(.int .u8 0)] 1 (.cst (.int .i64 0)) (.tmp 12), none⟩,
  ⟨some 3, .move (.tmp 13), none⟩])
 (.seq
 (.reg [⟨some 4, .move (.cst (.int .u64 0)), none⟩,
  ⟨some 5, .move (.cst (.int .i64 0)), none⟩])
 (.seq
 (.seq
 (.reg [⟨some 14, .move (.tmp 0), none⟩,
  ⟨some 15, .len (.tmp 14), none⟩,
  ⟨some 16, .move (.cst (.int .i64 0)), none⟩])
 (.block 0
 (.loop [3, 4, 5, 14, 15, 16] true L12_1)))
 (.seq
 (.seq
 (.reg [⟨some 46, .move (.tmp 5), none⟩,
  ⟨some 47, .bin .gtr (.tmp 46) (.cst (.int .i64 0)), none⟩])
 (.cond (.tmp 47)
 (.reg [⟨some 48, .move (.tmp 3), none⟩,
  ⟨some 49, .move (.tmp 4), none⟩,
  ⟨some 50, .move (.tmp 5), none⟩,
  ⟨some 51, .bin .sub (.cst (.int .i64 5)) (.tmp 50), none⟩,
  ⟨some 52, .bin .shl (.tmp 49) (.tmp 51), none⟩,
  ⟨some 53, .indexStr (.cst (.sc (.string (bs [113, 112, 122, 114, 121, 57, 120, 56, 103, 102, 50, 116, 118, 100, 119, 48, 115, 51, 106, 110, 53, 52, 107, 104, 99, 101, 54, 109, 117, 97, 55, 108])))) (.tmp 52), none⟩,
  ⟨some 54, .buildSlice none (.int .u8 0) 1 [(0, (.tmp 53))], none⟩,
  ⟨some 55, .append none 1 (.tmp 48) (.tmp 54), none⟩,
  ⟨some 3, .move (.tmp 55), none⟩])
 (.skip)))
 (.seq
 (.reg [⟨some 56, .move (.tmp 3), none⟩,
  ⟨some 57, .convStr (.tmp 56), none⟩,
  ⟨some 2, .move (.tmp 57), none⟩])
 (.ret))))))⟩
theorem c12 : compF Try.prog gl true [] [([3, 4, 5, 14, 15, 16], true), ([3, 4, 5, 14, 15, 16], true)] Try.f12 = some F12 := by kernel_rfl
def L13_0 : AC := .seq
 (.reg [⟨some 12, .bin .lss (.tmp 11) (.tmp 10), none⟩])
 (.seq
 (.cond (.tmp 12)
 (.skip)
 (.exit 0))
 (.seq
 (.block 1
 (.seq
 (.reg [⟨some 13, .move (.tmp 11), none⟩,
  ⟨some 7, .move (.tmp 13), none⟩])
 (.seq
 (.reg [⟨some 14, .move (.tmp 0), none⟩,
  ⟨some 15, .move (.tmp 7), none⟩,
  ⟨some 16, .indexStr (.tmp 14) (.tmp 15), none⟩,
  ⟨some 17, .call (.cst (.func (.func 29) [] [])) [(.cst (.sc (.string (bs [113, 112, 122, 114, 121, 57, 120, 56, 103, 102, 50, 116, 118, 100, 119, 48, 115, 51, 106, 110, 53, 52, 107, 104, 99, 101, 54, 109, 117, 97, 55, 108])))), (.tmp 16)], none⟩,
  ⟨some 8, .move (.tmp 17), none⟩])
 (.seq
 (.seq
 (.reg [⟨some 18, .move (.tmp 8), none⟩,
  ⟨some 19, .bin .lss (.tmp 18) (.cst (.int .i64 0)), none⟩])
 (.cond (.tmp 19)
 (.seq
 (.reg [⟨some 2, .move (.cst .nil), none⟩,
  ⟨some 3, .move (.cst (.int .i64 10)), none⟩])
 (.ret))
 (.skip)))
 (.seq
 (.reg [⟨some 20, .move (.tmp 5), none⟩,
  ⟨some 21, .bin .shl (.tmp 20) (.cst (.int .u64 5)), none⟩,
  ⟨some 22, .move (.tmp 8), none⟩,
  ⟨some 23, .convInt .u64 (.tmp 22), none⟩,
  ⟨some 24, .bin .or (.tmp 21) (.tmp 23), none⟩,
  ⟨some 25, .move (.tmp 6), none⟩,
  ⟨some 26, .bin .add (.tmp 25) (.cst (.int .i64 5)), none⟩,
  ⟨some 5, .move (.tmp 24), none⟩,
  ⟨some 6, .move (.tmp 26), none⟩])
 (.seq
 (.reg [⟨some 27, .move (.tmp 6), none⟩,
  ⟨some 28, .bin .geq (.tmp 27) (.cst (.int .i64 8)), none⟩])
 (.cond (.tmp 28)
 (.seq
 (.reg [⟨some 29, .move (.tmp 6), none⟩,
  ⟨some 30, .bin .sub (.tmp 29) (.cst (.int .i64 8)), none⟩,
  ⟨some 6, .move (.tmp 30), none⟩])
 (.seq
 (.reg [⟨some 31, .move (.tmp 4), none⟩,
  ⟨some 32, .move (.tmp 5), none⟩,
  ⟨some 33, .move (.tmp 6), none⟩,
  ⟨some 34, .bin .shr (.tmp 32) (.tmp 33), none⟩,
  ⟨some 35, .convInt .u8 (.tmp 34), none⟩,
  ⟨some 36, .buildSlice none (.int .u8 0) 1 [(0, (.tmp 35))], none⟩,
  ⟨some 37, .append none 1 (.tmp 31) (.tmp 36), none⟩,
  ⟨some 4, .move (.tmp 37), none⟩])
 (.reg [⟨some 38, .move (.tmp 5), none⟩,
  ⟨some 39, .move (.tmp 6), none⟩,
  ⟨some 40, .bin .shl (.cst (.int .u64 1)) (.tmp 39), none⟩,
  ⟨some 41, .bin .sub (.tmp 40) (.cst (.int .u64 1)), none⟩,
  ⟨some 42, .bin .and (.tmp 38) (.tmp 41), none⟩,
  ⟨some 5, .move (.tmp 42), none⟩])))
 (.skip))))))))
 (.reg [⟨some 43, .bin .add (.tmp 11) (.cst (.int .i64 1)), none⟩,
  ⟨some 11, .move (.tmp 43), none⟩])))
/- tollhouse/invoice.Bytes -/
def F13 : AFn := ⟨51, true, 1, [.tmp 2, .tmp 3], .seq
 (.reg [⟨some 2, .move (.cst .nil), none⟩,
  ⟨some 3, .move (.cst (.int .i64 0)), none⟩])
 (.seq
 (.reg [⟨some 4, .acc none (.cst .nil), none⟩])
 (.seq
 (.reg [⟨some 5, .move (.cst (.int .u64 0)), none⟩,
  ⟨some 6, .move (.cst (.int .i64 0)), none⟩])
 (.seq
 (.seq
 (.reg [⟨some 9, .move (.tmp 0), none⟩,
  ⟨some 10, .lenT (.tmp 9), none⟩,
  ⟨some 11, .move (.cst (.int .i64 0)), none⟩])
 (.block 0
 (.loop [0, 4, 5, 6, 10, 11] true L13_0)))
 (.seq
 (.seq
 (.reg [⟨some 44, .move (.tmp 6), none⟩,
  ⟨some 45, .bin .geq (.tmp 44) (.cst (.int .i64 5)), none⟩,
  ⟨some 46, .move (.tmp 45), none⟩,
  ⟨some 47, .move (.tmp 5), some (46, false)⟩,
  ⟨some 48, .bin .neq (.tmp 47) (.cst (.int .u64 0)), some (46, false)⟩,
  ⟨some 49, .pick (.tmp 46) (.cst (.bool true)) (.tmp 48), none⟩])
 (.cond (.tmp 49)
 (.seq
 (.reg [⟨some 2, .move (.cst .nil), none⟩,
  ⟨some 3, .move (.cst (.int .i64 10)), none⟩])
 (.ret))
 (.skip)))
 (.seq
 (.reg [⟨some 50, .move (.tmp 4), none⟩,
  ⟨some 2, .move (.tmp 50), none⟩,
  ⟨some 3, .move (.cst (.int .i64 0)), none⟩])
 (.ret))))))⟩
theorem c13 : compF Try.prog gl true [(4, none)] [([0, 4, 5, 6, 10, 11], true)] Try.f13 = some F13 := by kernel_rfl
def L14_0 : AC := .seq
 (.seq
 (.reg [⟨some 67, .move (.tmp 12), none⟩,
  ⟨some 68, .move (.tmp 4), none⟩,
  ⟨some 69, .len (.tmp 68), none⟩,
  ⟨some 70, .bin .lss (.tmp 67) (.tmp 69), none⟩])
 (.cond (.tmp 70)
 (.skip)
 (.exit 10)))
 (.seq
 (.block 11
 (.seq
 (.reg [⟨some 73, .move (.tmp 4), none⟩,
  ⟨some 74, .move (.tmp 12), none⟩,
  ⟨some 75, .indexAddr .slice none (.tmp 73) (.tmp 74), none⟩,
  ⟨some 76, .load none (.tmp 75), none⟩,
  ⟨some 77, .bin .neq (.tmp 76) (.cst (.int .i64 0)), none⟩])
 (.cond (.tmp 77)
 (.seq
 (.reg [⟨some 2, .move (.cst .nil), none⟩,
  ⟨some 3, .move (.cst (.int .i64 10)), none⟩])
 (.ret))
 (.skip))))
 (.reg [⟨some 71, .move (.tmp 12), none⟩,
  ⟨some 72, .bin .add (.tmp 71) (.cst (.int .i64 1)), none⟩,
  ⟨some 12, .move (.tmp 72), none⟩]))
def L14_1 : AC := .seq
 (.seq
 (.reg [⟨some 46, .move (.tmp 11), none⟩,
  ⟨some 47, .bin .lss (.tmp 46) (.cst (.int .i64 8)), none⟩])
 (.cond (.tmp 47)
 (.skip)
 (.exit 8)))
 (.seq
 (.block 9
 (.reg [⟨some 50, .move (.tmp 10), none⟩,
  ⟨some 51, .bin .mul (.cst (.int .i64 2)) (.tmp 50), none⟩,
  ⟨some 52, .move (.tmp 4), none⟩,
  ⟨some 53, .move (.tmp 11), none⟩,
  ⟨some 54, .indexAddr .slice none (.tmp 52) (.tmp 53), none⟩,
  ⟨some 55, .load none (.tmp 54), none⟩,
  ⟨some 56, .bin .add (.tmp 51) (.tmp 55), none⟩,
  ⟨some 10, .move (.tmp 56), none⟩]))
 (.reg [⟨some 48, .move (.tmp 11), none⟩,
  ⟨some 49, .bin .add (.tmp 48) (.cst (.int .i64 1)), none⟩,
  ⟨some 11, .move (.tmp 49), none⟩]))
def L14_2 : AC := .seq
 (.seq
 (.reg [⟨some 43, .move (.tmp 4), none⟩,
  ⟨some 44, .len (.tmp 43), none⟩,
  ⟨some 45, .bin .geq (.tmp 44) (.cst (.int .i64 8)), none⟩])
 (.cond (.tmp 45)
 (.skip)
 (.exit 6)))
 (.block 7
 (.seq
 (.reg [⟨some 10, .move (.cst (.int .i64 0)), none⟩])
 (.seq
 (.seq
 (.reg [⟨some 11, .move (.cst (.int .i64 0)), none⟩])
 (.block 8
 (.loop [4, 9, 10, 11] true L14_1)))
 (.seq
 (.reg [⟨some 57, .move (.tmp 9), none⟩,
  ⟨some 58, .move (.tmp 10), none⟩,
  ⟨some 59, .convInt .u8 (.tmp 58), none⟩,
  ⟨some 60, .buildSlice none (.int .u8 0) 1 [(0, (.tmp 59))], none⟩,
  ⟨some 61, .append none 1 (.tmp 57) (.tmp 60), none⟩,
  ⟨some 9, .move (.tmp 61), none⟩])
 (.reg [⟨some 62, .move (.tmp 4), none⟩,
  ⟨some 63, .slice .slice none (.tmp 62) (some (.cst (.int .i64 8))) none none, none⟩,
  ⟨some 4, .move (.tmp 63), none⟩])))))
def L14_3 : AC := .seq
 (.seq
 (.reg [⟨some 32, .move (.tmp 8), none⟩,
  ⟨some 33, .bin .geq (.tmp 32) (.cst (.int .i64 0)), none⟩])
 (.cond (.tmp 33)
 (.skip)
 (.exit 4)))
 (.seq
 (.block 5
 (.reg [⟨some 36, .move (.tmp 4), none⟩,
  ⟨some 37, .move (.tmp 6), none⟩,
  ⟨some 38, .move (.tmp 8), none⟩,
  ⟨some 39, .bin .shr (.tmp 37) (.tmp 38), none⟩,
  ⟨some 40, .bin .rem (.tmp 39) (.cst (.int .i64 2)), none⟩,
  ⟨some 41, .buildSlice none (.int .i64 0) 1 [(0, (.tmp 40))], none⟩,
  ⟨some 42, .append none 8 (.tmp 36) (.tmp 41), none⟩,
  ⟨some 4, .move (.tmp 42), none⟩]))
 (.reg [⟨some 34, .move (.tmp 8), none⟩,
  ⟨some 35, .bin .sub (.tmp 34) (.cst (.int .i64 1)), none⟩,
  ⟨some 8, .move (.tmp 35), none⟩]))
def L14_4 : AC := .seq
 (.seq
 (.reg [⟨some 19, .move (.tmp 7), none⟩,
  ⟨some 20, .bin .lss (.tmp 19) (.cst (.int .i64 32)), none⟩])
 (.cond (.tmp 20)
 (.skip)
 (.exit 2)))
 (.seq
 (.block 3
 (.seq
 (.regQ [⟨some 23, .move (.tmp 7), none⟩,
  ⟨some 24, .indexStr (.cst (.sc (.string (bs [113, 112, 122, 114, 121, 57, 120, 56, 103, 102, 50, 116, 118, 100, 119, 48, 115, 51, 106, 110, 53, 52, 107, 104, 99, 101, 54, 109, 117, 97, 55, 108])))) (.tmp 23), none⟩,
  ⟨some 25, .move (.tmp 0), none⟩,
  ⟨some 26, .move (.tmp 5), none⟩,
  ⟨some 27, .indexStr (.tmp 25) (.tmp 26), none⟩,
  ⟨some 28, .bin .eql (.tmp 24) (.tmp 27), none⟩])
 (.cond (.tmp 28)
 (.reg [⟨some 29, .move (.tmp 7), none⟩,
  ⟨some 6, .move (.tmp 29), none⟩])
 (.skip))))
 (.reg [⟨some 21, .move (.tmp 7), none⟩,
  ⟨some 22, .bin .add (.tmp 21) (.cst (.int .i64 1)), none⟩,
  ⟨some 7, .move (.tmp 22), none⟩]))
def L14_5 : AC := .seq
 (.seq
 (.reg [⟨some 13, .move (.tmp 5), none⟩,
  ⟨some 14, .move (.tmp 0), none⟩,
  ⟨some 15, .lenT (.tmp 14), none⟩,
  ⟨some 16, .bin .lss (.tmp 13) (.tmp 15), none⟩])
 (.cond (.tmp 16)
 (.skip)
 (.exit 0)))
 (.seq
 (.block 1
 (.seq
 (.reg [⟨some 6, .move (.cst (.int .i64 (-1))), none⟩])
 (.seq
 (.seq
 (.reg [⟨some 7, .move (.cst (.int .i64 0)), none⟩])
 (.block 2
 (.loop [0, 4, 5, 6, 7] true L14_4)))
 (.seq
 (.seq
 (.reg [⟨some 30, .move (.tmp 6), none⟩,
  ⟨some 31, .bin .lss (.tmp 30) (.cst (.int .i64 0)), none⟩])
 (.cond (.tmp 31)
 (.seq
 (.reg [⟨some 2, .move (.cst .nil), none⟩,
  ⟨some 3, .move (.cst (.int .i64 10)), none⟩])
 (.ret))
 (.skip)))
 (.seq
 (.reg [⟨some 8, .move (.cst (.int .i64 4)), none⟩])
 (.block 4
 (.loop [0, 4, 5, 6, 8] true L14_3)))))))
 (.reg [⟨some 17, .move (.tmp 5), none⟩,
  ⟨some 18, .bin .add (.tmp 17) (.cst (.int .i64 1)), none⟩,
  ⟨some 5, .move (.tmp 18), none⟩]))
/- tollhouse/tollhouseref09.Bytes -/
def F14 : AFn := ⟨79, true, 1, [.tmp 2, .tmp 3], .seq
 (.reg [⟨some 2, .move (.cst .nil), none⟩,
  ⟨some 3, .move (.cst (.int .i64 0)), none⟩])
 (.seq
 (.reg [⟨some 4, .acc none (.cst .nil), none⟩])
 (.seq
 (.seq
 (.reg [⟨some 5, .move (.cst (.int .i64 0)), none⟩])
 (.block 0
 (.loop [0, 4, 5] true L14_5)))
 (.seq
 (.reg [⟨some 9, .acc none (.cst .nil), none⟩])
 (.seq
 (.block 6
 (.loop [4, 9] true L14_2))
 (.seq
 (.seq
 (.reg [⟨some 64, .move (.tmp 4), none⟩,
  ⟨some 65, .len (.tmp 64), none⟩,
  ⟨some 66, .bin .geq (.tmp 65) (.cst (.int .i64 5)), none⟩])
 (.cond (.tmp 66)
 (.seq
 (.reg [⟨some 2, .move (.cst .nil), none⟩,
  ⟨some 3, .move (.cst (.int .i64 10)), none⟩])
 (.ret))
 (.skip)))
 (.seq
 (.seq
 (.reg [⟨some 12, .move (.cst (.int .i64 0)), none⟩])
 (.block 10
 (.loop [4, 9, 12] true L14_0)))
 (.seq
 (.reg [⟨some 78, .move (.tmp 9), none⟩,
  ⟨some 2, .move (.tmp 78), none⟩,
  ⟨some 3, .move (.cst (.int .i64 0)), none⟩])
 (.ret))))))))⟩
theorem c14 : compF Try.prog gl true [(9, none), (4, none)] [([0, 4, 5], true), ([0, 4, 5, 6, 7], true), ([0, 4, 5, 6, 8], true), ([4, 9], true), ([4, 9, 10, 11], true), ([4, 9, 12], true)] Try.f14 = some F14 := by kernel_rfl
def L15_0 : AC := .seq
 (.seq
 (.reg [⟨some 15, .move (.tmp 6), none⟩,
  ⟨some 16, .move (.tmp 4), none⟩,
  ⟨some 17, .bin .add (.tmp 16) (.cst (.int .i64 5)), none⟩,
  ⟨some 18, .bin .lss (.tmp 15) (.tmp 17), none⟩])
 (.cond (.tmp 18)
 (.skip)
 (.exit 2)))
 (.seq
 (.block 3
 (.seq
 (.reg [⟨some 21, .move (.tmp 5), none⟩,
  ⟨some 22, .bin .mul (.cst (.int .i64 2)) (.tmp 21), none⟩,
  ⟨some 5, .move (.tmp 22), none⟩])
 (.seq
 (.reg [⟨some 23, .move (.tmp 6), none⟩,
  ⟨some 24, .move (.tmp 0), none⟩,
  ⟨some 25, .len (.tmp 24), none⟩,
  ⟨some 26, .bin .mul (.cst (.int .i64 8)) (.tmp 25), none⟩,
  ⟨some 27, .bin .lss (.tmp 23) (.tmp 26), none⟩,
  ⟨some 28, .move (.tmp 27), none⟩,
  ⟨some 29, .move (.tmp 0), some (28, true)⟩,
  ⟨some 30, .move (.tmp 6), some (28, true)⟩,
  ⟨some 31, .bin .quo (.tmp 30) (.cst (.int .i64 8)), some (28, true)⟩,
  ⟨some 32, .indexAddr .slice none (.tmp 29) (.tmp 31), some (28, true)⟩,
  ⟨some 33, .load none (.tmp 32), some (28, true)⟩,
  ⟨some 34, .move (.tmp 6), some (28, true)⟩,
  ⟨some 35, .bin .rem (.tmp 34) (.cst (.int .i64 8)), some (28, true)⟩,
  ⟨some 36, .bin .sub (.cst (.int .i64 7)) (.tmp 35), some (28, true)⟩,
  ⟨some 37, .bin .shr (.tmp 33) (.tmp 36), some (28, true)⟩,
  ⟨some 38, .bin .rem (.tmp 37) (.cst (.int .u8 2)), some (28, true)⟩,
  ⟨some 39, .bin .eql (.tmp 38) (.cst (.int .u8 1)), some (28, true)⟩,
  ⟨some 40, .pick (.tmp 28) (.tmp 39) (.cst (.bool false)), none⟩])
 (.cond (.tmp 40)
 (.reg [⟨some 41, .move (.tmp 5), none⟩,
  ⟨some 42, .bin .add (.tmp 41) (.cst (.int .i64 1)), none⟩,
  ⟨some 5, .move (.tmp 42), none⟩])
 (.skip)))))
 (.reg [⟨some 19, .move (.tmp 6), none⟩,
  ⟨some 20, .bin .add (.tmp 19) (.cst (.int .i64 1)), none⟩,
  ⟨some 6, .move (.tmp 20), none⟩]))
def L15_1 : AC := .seq
 (.seq
 (.reg [⟨some 7, .move (.tmp 4), none⟩,
  ⟨some 8, .move (.tmp 0), none⟩,
  ⟨some 9, .len (.tmp 8), none⟩,
  ⟨some 10, .bin .mul (.cst (.int .i64 8)) (.tmp 9), none⟩,
  ⟨some 11, .bin .lss (.tmp 7) (.tmp 10), none⟩])
 (.cond (.tmp 11)
 (.skip)
 (.exit 0)))
 (.seq
 (.block 1
 (.seq
 (.reg [⟨some 5, .move (.cst (.int .i64 0)), none⟩])
 (.seq
 (.seq
 (.reg [⟨some 14, .move (.tmp 4), none⟩,
  ⟨some 6, .move (.tmp 14), none⟩])
 (.block 2
 (.loop [0, 3, 4, 5, 6] true L15_0)))
 (.reg [⟨some 43, .move (.tmp 3), none⟩,
  ⟨some 44, .move (.tmp 5), none⟩,
  ⟨some 45, .move (.tmp 5), none⟩,
  ⟨some 46, .bin .add (.tmp 45) (.cst (.int .i64 1)), none⟩,
  ⟨some 47, .slice .str none (.cst (.sc (.string (bs [113, 112, 122, 114, 121, 57, 120, 56, 103, 102, 50, 116, 118, 100, 119, 48, 115, 51, 106, 110, 53, 52, 107, 104, 99, 101, 54, 109, 117, 97, 55, 108])))) (some (.tmp 44)) (some (.tmp 46)) none, none⟩,
  ⟨some 48, .bin .add (.tmp 43) (.tmp 47), none⟩,
  ⟨some 3, .move (.tmp 48), none⟩]))))
 (.reg [⟨some 12, .move (.tmp 4), none⟩,
  ⟨some 13, .bin .add (.tmp 12) (.cst (.int .i64 5)), none⟩,
  ⟨some 4, .move (.tmp 13), none⟩]))
/- tollhouse/tollhouseref09.Digits -/
def F15 : AFn := ⟨50, true, 1, [.tmp 2], .seq
 (.reg [⟨some 2, .move (.cst (.sc (.string (bs [])))), none⟩])
 (.seq
 (.reg [⟨some 3, .move (.cst (.sc (.string (bs [])))), none⟩])
 (.seq
 (.seq
 (.reg [⟨some 4, .move (.cst (.int .i64 0)), none⟩])
 (.block 0
 (.loop [0, 3, 4] true L15_1)))
 (.seq
 (.reg [⟨some 49, .move (.tmp 3), none⟩,
  ⟨some 2, .move (.tmp 49), none⟩])
 (.ret))))⟩
theorem c15 : compF Try.prog gl true [] [([0, 3, 4], true), ([0, 3, 4, 5, 6], true)] Try.f15 = some F15 := by kernel_rfl
/- tollhouse/tollhouseref09.Decode -/
def F16 : AFn := ⟨155, true, 1, [.cell 2 (some 69), .tmp 3], .seq
 (.reg [⟨some 2, .alloc [(.int .i64 0), (.int .i64 0), (.int .u8 0), (.int .u8 0), (.int .u8 0), (.int .u8 0), (.int .u8 0), (.int .u8 0), (.int .u8 0), (.int .u8 0), (.int .u8 0), (.int .u8 0), (.int .u8 0), (.int .u8 0), (.int .u8 0), (.int .u8 0), (.int .u8 0), (.int .u8 0), (.int .u8 0), (.int .u8 0), (.int .u8 0), (.int .u8 0), (.int .u8 0), (.int .u8 0), (.int .u8 0), (.int .u8 0), (.int .u8 0), (.int .u8 0), (.int .u8 0), (.int .u8 0), (.int .u8 0), (.int .u8 0), (.int .u8 0), (.int .u8 0), (.int .u8 0), (.int .u8 0), (.int .u8 0), (.int .u8 0), (.int .u8 0), (.int .u8 0), (.int .u8 0), (.int .u8 0), (.int .u8 0), (.int .u8 0), (.int .u8 0), (.int .u8 0), (.int .u8 0), (.int .u8 0), (.int .u8 0), (.int .u8 0), (.int .u8 0), (.int .u8 0), (.int .u8 0), (.int .u8 0), (.int .u8 0), (.int .u8 0), (.int .u8 0), (.int .u8 0), (.int .u8 0), (.int .u8 0), (.int .u8 0), (.int .u8 0), (.int .u8 0), (.int .u8 0), (.int .u8 0), (.int .u8 0), (.int .i64 0), (.int .i64 0), (.sc (.string (bs [])))], none⟩,
  ⟨some 3, .move (.cst (.int .i64 0)), none⟩])
 (.seq
 (.seq
 (.reg [⟨some 23, .move (.tmp 0), none⟩,
  ⟨some 24, .lenT (.tmp 23), none⟩,
  ⟨some 25, .bin .lss (.tmp 24) (.cst (.int .i64 3)), none⟩,
  ⟨some 26, .move (.tmp 25), none⟩,
  ⟨some 27, .move (.tmp 0), some (26, false)⟩,
  ⟨some 28, .slice .str none (.tmp 27) none (some (.cst (.int .i64 3))) none, some (26, false)⟩,
  ⟨some 29, .bin .neq (.tmp 28) (.cst (.sc (.string (bs [116, 104, 49])))), some (26, false)⟩,
  ⟨some 30, .pick (.tmp 26) (.cst (.bool true)) (.tmp 29), none⟩])
 (.cond (.tmp 30)
 (.seq
 (.reg [⟨some 31, .build [(.int .i64 0), (.int .i64 0), (.int .u8 0), (.int .u8 0), (.int .u8 0), (.int .u8 0), (.int .u8 0), (.int .u8 0), (.int .u8 0), (.int .u8 0), (.int .u8 0), (.int .u8 0), (.int .u8 0), (.int .u8 0), (.int .u8 0), (.int .u8 0), (.int .u8 0), (.int .u8 0), (.int .u8 0), (.int .u8 0), (.int .u8 0), (.int .u8 0), (.int .u8 0), (.int .u8 0), (.int .u8 0), (.int .u8 0), (.int .u8 0), (.int .u8 0), (.int .u8 0), (.int .u8 0), (.int .u8 0), (.int .u8 0), (.int .u8 0), (.int .u8 0), (.int .u8 0), (.int .u8 0), (.int .u8 0), (.int .u8 0), (.int .u8 0), (.int .u8 0), (.int .u8 0), (.int .u8 0), (.int .u8 0), (.int .u8 0), (.int .u8 0), (.int .u8 0), (.int .u8 0), (.int .u8 0), (.int .u8 0), (.int .u8 0), (.int .u8 0), (.int .u8 0), (.int .u8 0), (.int .u8 0), (.int .u8 0), (.int .u8 0), (.int .u8 0), (.int .u8 0), (.int .u8 0), (.int .u8 0), (.int .u8 0), (.int .u8 0), (.int .u8 0), (.int .u8 0), (.int .u8 0), (.int .u8 0), (.int .i64 0), (.int .i64 0), (.sc (.string (bs [])))] [], none⟩,
  ⟨none, .store 69 (.tmp 2) (.tmp 31), none⟩,
  ⟨some 3, .move (.cst (.int .i64 10)), none⟩])
 (.ret))
 (.skip)))
 (.seq
 (.reg [⟨some 33, .move (.tmp 0), none⟩,
  ⟨some 34, .slice .str none (.tmp 33) (some (.cst (.int .i64 3))) none none, none⟩,
  ⟨some 35, .call (.cst (.func (.func 14) [] [])) [(.tmp 34)], none⟩,
  ⟨some 32, .move (.tmp 35), none⟩,
  ⟨some 36, .extract (.tmp 32) 0, none⟩,
  ⟨some 37, .extract (.tmp 32) 1, none⟩,
  ⟨some 4, .move (.tmp 36), none⟩,
  ⟨some 5, .move (.tmp 37), none⟩])
 (.seq
 (.seq
 (.reg [⟨some 38, .move (.tmp 5), none⟩,
  ⟨some 39, .bin .neq (.tmp 38) (.cst (.int .i64 0)), none⟩,
  ⟨some 40, .move (.tmp 39), none⟩,
  ⟨some 41, .move (.tmp 4), some (40, false)⟩,
  ⟨some 42, .len (.tmp 41), some (40, false)⟩,
  ⟨some 43, .bin .lss (.tmp 42) (.cst (.int .i64 4)), some (40, false)⟩,
  ⟨some 44, .pick (.tmp 40) (.cst (.bool true)) (.tmp 43), none⟩])
 (.cond (.tmp 44)
 (.seq
 (.reg [⟨some 45, .build [(.int .i64 0), (.int .i64 0), (.int .u8 0), (.int .u8 0), (.int .u8 0), (.int .u8 0), (.int .u8 0), (.int .u8 0), (.int .u8 0), (.int .u8 0), (.int .u8 0), (.int .u8 0), (.int .u8 0), (.int .u8 0), (.int .u8 0), (.int .u8 0), (.int .u8 0), (.int .u8 0), (.int .u8 0), (.int .u8 0), (.int .u8 0), (.int .u8 0), (.int .u8 0), (.int .u8 0), (.int .u8 0), (.int .u8 0), (.int .u8 0), (.int .u8 0), (.int .u8 0), (.int .u8 0), (.int .u8 0), (.int .u8 0), (.int .u8 0), (.int .u8 0), (.int .u8 0), (.int .u8 0), (.int .u8 0), (.int .u8 0), (.int .u8 0), (.int .u8 0), (.int .u8 0), (.int .u8 0), (.int .u8 0), (.int .u8 0), (.int .u8 0), (.int .u8 0), (.int .u8 0), (.int .u8 0), (.int .u8 0), (.int .u8 0), (.int .u8 0), (.int .u8 0), (.int .u8 0), (.int .u8 0), (.int .u8 0), (.int .u8 0), (.int .u8 0), (.int .u8 0), (.int .u8 0), (.int .u8 0), (.int .u8 0), (.int .u8 0), (.int .u8 0), (.int .u8 0), (.int .u8 0), (.int .u8 0), (.int .i64 0), (.int .i64 0), (.sc (.string (bs [])))] [], none⟩,
  ⟨none, .store 69 (.tmp 2) (.tmp 45), none⟩,
  ⟨some 3, .move (.cst (.int .i64 10)), none⟩])
 (.ret))
 (.skip)))
 (.seq
 (.reg [⟨some 46, .move (.tmp 4), none⟩,
  ⟨some 47, .move (.tmp 4), none⟩,
  ⟨some 48, .len (.tmp 47), none⟩,
  ⟨some 49, .bin .sub (.tmp 48) (.cst (.int .i64 4)), none⟩,
  ⟨some 50, .slice .slice none (.tmp 46) none (some (.tmp 49)) none, none⟩,
  ⟨some 6, .move (.tmp 50), none⟩])
 (.seq
 (.seq
 (.regD [⟨some 51, .move (.tmp 6), none⟩,
  ⟨some 52, .call (.cst (.func (.func 22) [] [])) [(.tmp 51)], none⟩,
  ⟨some 53, .convStr (.tmp 52), none⟩,
  ⟨some 54, .move (.tmp 4), none⟩,
  ⟨some 55, .move (.tmp 4), none⟩,
  ⟨some 56, .len (.tmp 55), none⟩,
  ⟨some 57, .bin .sub (.tmp 56) (.cst (.int .i64 4)), none⟩,
  ⟨some 58, .slice .slice none (.tmp 54) (some (.tmp 57)) none none, none⟩,
  ⟨some 59, .convStr (.tmp 58), none⟩,
  ⟨some 60, .bin .neq (.tmp 53) (.tmp 59), none⟩] [(0, 0), (0, 0), (1, 1), (0, 1), (0, 1), (0, 1), (0, 1), (0, 1), (0, 1), (1, 1)])
 (.cond (.tmp 60)
 (.seq
 (.reg [⟨some 61, .build [(.int .i64 0), (.int .i64 0), (.int .u8 0), (.int .u8 0), (.int .u8 0), (.int .u8 0), (.int .u8 0), (.int .u8 0), (.int .u8 0), (.int .u8 0), (.int .u8 0), (.int .u8 0), (.int .u8 0), (.int .u8 0), (.int .u8 0), (.int .u8 0), (.int .u8 0), (.int .u8 0), (.int .u8 0), (.int .u8 0), (.int .u8 0), (.int .u8 0), (.int .u8 0), (.int .u8 0), (.int .u8 0), (.int .u8 0), (.int .u8 0), (.int .u8 0), (.int .u8 0), (.int .u8 0), (.int .u8 0), (.int .u8 0), (.int .u8 0), (.int .u8 0), (.int .u8 0), (.int .u8 0), (.int .u8 0), (.int .u8 0), (.int .u8 0), (.int .u8 0), (.int .u8 0), (.int .u8 0), (.int .u8 0), (.int .u8 0), (.int .u8 0), (.int .u8 0), (.int .u8 0), (.int .u8 0), (.int .u8 0), (.int .u8 0), (.int .u8 0), (.int .u8 0), (.int .u8 0), (.int .u8 0), (.int .u8 0), (.int .u8 0), (.int .u8 0), (.int .u8 0), (.int .u8 0), (.int .u8 0), (.int .u8 0), (.int .u8 0), (.int .u8 0), (.int .u8 0), (.int .u8 0), (.int .u8 0), (.int .i64 0), (.int .i64 0), (.sc (.string (bs [])))] [], none⟩,
  ⟨none, .store 69 (.tmp 2) (.tmp 61), none⟩,
  ⟨some 3, .move (.cst (.int .i64 90)), none⟩])
 (.ret))
 (.skip)))
 (.seq
 (.reg [⟨some 63, .move (.tmp 6), none⟩,
  ⟨some 64, .call (.cst (.func (.func 30) [] [])) [(.tmp 63), (.cst .nil)], none⟩,
  ⟨some 62, .move (.tmp 64), none⟩,
  ⟨some 65, .extract (.tmp 62) 0, none⟩,
  ⟨some 66, .extract (.tmp 62) 1, none⟩,
  ⟨some 7, .move (.tmp 65), none⟩,
  ⟨some 5, .move (.tmp 66), none⟩])
 (.seq
 (.seq
 (.reg [⟨some 67, .move (.tmp 5), none⟩,
  ⟨some 68, .bin .neq (.tmp 67) (.cst (.int .i64 0)), none⟩])
 (.cond (.tmp 68)
 (.seq
 (.reg [⟨some 69, .build [(.int .i64 0), (.int .i64 0), (.int .u8 0), (.int .u8 0), (.int .u8 0), (.int .u8 0), (.int .u8 0), (.int .u8 0), (.int .u8 0), (.int .u8 0), (.int .u8 0), (.int .u8 0), (.int .u8 0), (.int .u8 0), (.int .u8 0), (.int .u8 0), (.int .u8 0), (.int .u8 0), (.int .u8 0), (.int .u8 0), (.int .u8 0), (.int .u8 0), (.int .u8 0), (.int .u8 0), (.int .u8 0), (.int .u8 0), (.int .u8 0), (.int .u8 0), (.int .u8 0), (.int .u8 0), (.int .u8 0), (.int .u8 0), (.int .u8 0), (.int .u8 0), (.int .u8 0), (.int .u8 0), (.int .u8 0), (.int .u8 0), (.int .u8 0), (.int .u8 0), (.int .u8 0), (.int .u8 0), (.int .u8 0), (.int .u8 0), (.int .u8 0), (.int .u8 0), (.int .u8 0), (.int .u8 0), (.int .u8 0), (.int .u8 0), (.int .u8 0), (.int .u8 0), (.int .u8 0), (.int .u8 0), (.int .u8 0), (.int .u8 0), (.int .u8 0), (.int .u8 0), (.int .u8 0), (.int .u8 0), (.int .u8 0), (.int .u8 0), (.int .u8 0), (.int .u8 0), (.int .u8 0), (.int .u8 0), (.int .i64 0), (.int .i64 0), (.sc (.string (bs [])))] [], none⟩,
  ⟨none, .store 69 (.tmp 2) (.tmp 69), none⟩,
  ⟨some 3, .move (.cst (.int .i64 10)), none⟩])
 (.ret))
 (.skip)))
 (.seq
 (.reg [⟨some 71, .move (.tmp 7), none⟩,
  ⟨some 72, .call (.cst (.func (.func 31) [] [])) [(.tmp 71), (.cst (.int .u64 1)), (.cst (.int .i64 1))], none⟩,
  ⟨some 70, .move (.tmp 72), none⟩,
  ⟨some 73, .extract (.tmp 70) 0, none⟩,
  ⟨some 74, .extract (.tmp 70) 1, none⟩,
  ⟨some 8, .move (.tmp 73), none⟩,
  ⟨some 9, .move (.tmp 74), none⟩])
 (.seq
 (.reg [⟨some 76, .move (.tmp 7), none⟩,
  ⟨some 77, .call (.cst (.func (.func 31) [] [])) [(.tmp 76), (.cst (.int .u64 3)), (.cst (.int .i64 1))], none⟩,
  ⟨some 75, .move (.tmp 77), none⟩,
  ⟨some 78, .extract (.tmp 75) 0, none⟩,
  ⟨some 79, .extract (.tmp 75) 1, none⟩,
  ⟨some 10, .move (.tmp 78), none⟩,
  ⟨some 11, .move (.tmp 79), none⟩])
 (.seq
 (.reg [⟨some 81, .move (.tmp 7), none⟩,
  ⟨some 82, .call (.cst (.func (.func 31) [] [])) [(.tmp 81), (.cst (.int .u64 5)), (.cst (.int .i64 32))], none⟩,
  ⟨some 80, .move (.tmp 82), none⟩,
  ⟨some 83, .extract (.tmp 80) 0, none⟩,
  ⟨some 84, .extract (.tmp 80) 1, none⟩,
  ⟨some 12, .move (.tmp 83), none⟩,
  ⟨some 13, .move (.tmp 84), none⟩])
 (.seq
 (.reg [⟨some 86, .move (.tmp 7), none⟩,
  ⟨some 87, .call (.cst (.func (.func 31) [] [])) [(.tmp 86), (.cst (.int .u64 7)), (.cst (.int .i64 32))], none⟩,
  ⟨some 85, .move (.tmp 87), none⟩,
  ⟨some 88, .extract (.tmp 85) 0, none⟩,
  ⟨some 89, .extract (.tmp 85) 1, none⟩,
  ⟨some 14, .move (.tmp 88), none⟩,
  ⟨some 15, .move (.tmp 89), none⟩])
 (.seq
 (.reg [⟨some 91, .move (.tmp 7), none⟩,
  ⟨some 92, .call (.cst (.func (.func 31) [] [])) [(.tmp 91), (.cst (.int .u64 9)), (.cst (.int .i64 8))], none⟩,
  ⟨some 90, .move (.tmp 92), none⟩,
  ⟨some 93, .extract (.tmp 90) 0, none⟩,
  ⟨some 94, .extract (.tmp 90) 1, none⟩,
  ⟨some 16, .move (.tmp 93), none⟩,
  ⟨some 17, .move (.tmp 94), none⟩])
 (.seq
 (.reg [⟨some 96, .move (.tmp 7), none⟩,
  ⟨some 97, .call (.cst (.func (.func 31) [] [])) [(.tmp 96), (.cst (.int .u64 11)), (.cst (.int .i64 4))], none⟩,
  ⟨some 95, .move (.tmp 97), none⟩,
  ⟨some 98, .extract (.tmp 95) 0, none⟩,
  ⟨some 99, .extract (.tmp 95) 1, none⟩,
  ⟨some 18, .move (.tmp 98), none⟩,
  ⟨some 19, .move (.tmp 99), none⟩])
 (.seq
 (.reg [⟨some 101, .move (.tmp 7), none⟩,
  ⟨some 102, .call (.cst (.func (.func 31) [] [])) [(.tmp 101), (.cst (.int .u64 13)), (.cst (.int .i64 (-1)))], none⟩,
  ⟨some 100, .move (.tmp 102), none⟩,
  ⟨some 103, .extract (.tmp 100) 0, none⟩,
  ⟨some 104, .extract (.tmp 100) 1, none⟩,
  ⟨some 20, .move (.tmp 103), none⟩,
  ⟨some 21, .move (.tmp 104), none⟩])
 (.seq
 (.seq
 (.reg [⟨some 105, .move (.tmp 9), none⟩,
  ⟨some 106, .un .not (.tmp 105), none⟩,
  ⟨some 107, .move (.tmp 106), none⟩,
  ⟨some 108, .move (.tmp 11), some (107, false)⟩,
  ⟨some 109, .un .not (.tmp 108), some (107, false)⟩,
  ⟨some 110, .pick (.tmp 107) (.cst (.bool true)) (.tmp 109), none⟩,
  ⟨some 111, .move (.tmp 110), none⟩,
  ⟨some 112, .move (.tmp 15), some (111, false)⟩,
  ⟨some 113, .un .not (.tmp 112), some (111, false)⟩,
  ⟨some 114, .pick (.tmp 111) (.cst (.bool true)) (.tmp 113), none⟩,
  ⟨some 115, .move (.tmp 114), none⟩,
  ⟨some 116, .move (.tmp 17), some (115, false)⟩,
  ⟨some 117, .un .not (.tmp 116), some (115, false)⟩,
  ⟨some 118, .pick (.tmp 115) (.cst (.bool true)) (.tmp 117), none⟩,
  ⟨some 119, .move (.tmp 118), none⟩,
  ⟨some 120, .move (.tmp 19), some (119, false)⟩,
  ⟨some 121, .un .not (.tmp 120), some (119, false)⟩,
  ⟨some 122, .pick (.tmp 119) (.cst (.bool true)) (.tmp 121), none⟩,
  ⟨some 123, .move (.tmp 122), none⟩,
  ⟨some 124, .move (.tmp 21), some (123, false)⟩,
  ⟨some 125, .un .not (.tmp 124), some (123, false)⟩,
  ⟨some 126, .pick (.tmp 123) (.cst (.bool true)) (.tmp 125), none⟩])
 (.cond (.tmp 126)
 (.seq
 (.reg [⟨some 127, .build [(.int .i64 0), (.int .i64 0), (.int .u8 0), (.int .u8 0), (.int .u8 0), (.int .u8 0), (.int .u8 0), (.int .u8 0), (.int .u8 0), (.int .u8 0), (.int .u8 0), (.int .u8 0), (.int .u8 0), (.int .u8 0), (.int .u8 0), (.int .u8 0), (.int .u8 0), (.int .u8 0), (.int .u8 0), (.int .u8 0), (.int .u8 0), (.int .u8 0), (.int .u8 0), (.int .u8 0), (.int .u8 0), (.int .u8 0), (.int .u8 0), (.int .u8 0), (.int .u8 0), (.int .u8 0), (.int .u8 0), (.int .u8 0), (.int .u8 0), (.int .u8 0), (.int .u8 0), (.int .u8 0), (.int .u8 0), (.int .u8 0), (.int .u8 0), (.int .u8 0), (.int .u8 0), (.int .u8 0), (.int .u8 0), (.int .u8 0), (.int .u8 0), (.int .u8 0), (.int .u8 0), (.int .u8 0), (.int .u8 0), (.int .u8 0), (.int .u8 0), (.int .u8 0), (.int .u8 0), (.int .u8 0), (.int .u8 0), (.int .u8 0), (.int .u8 0), (.int .u8 0), (.int .u8 0), (.int .u8 0), (.int .u8 0), (.int .u8 0), (.int .u8 0), (.int .u8 0), (.int .u8 0), (.int .u8 0), (.int .i64 0), (.int .i64 0), (.sc (.string (bs [])))] [], none⟩,
  ⟨none, .store 69 (.tmp 2) (.tmp 127), none⟩,
  ⟨some 3, .move (.cst (.int .i64 10)), none⟩])
 (.ret))
 (.skip)))
 (.seq
 (.regD [⟨some 128, .move (.tmp 8), none⟩,
  ⟨some 129, .callQ 32 [(.tmp 128)], none⟩,
  ⟨some 130, .move (.tmp 10), none⟩,
  ⟨some 131, .callQ 32 [(.tmp 130)], none⟩,
  ⟨some 132, .move (.tmp 14), none⟩,
  ⟨some 133, .callQ 33 [(.tmp 132)], none⟩,
  ⟨some 134, .move (.tmp 16), none⟩,
  ⟨some 135, .callQ 32 [(.tmp 134)], none⟩,
  ⟨some 136, .move (.tmp 18), none⟩,
  ⟨some 137, .callQ 32 [(.tmp 136)], none⟩,
  ⟨some 138, .move (.tmp 20), none⟩,
  ⟨some 139, .convStr (.tmp 138), none⟩,
  ⟨some 140, .build [(.int .i64 0), (.int .i64 0), (.int .u8 0), (.int .u8 0), (.int .u8 0), (.int .u8 0), (.int .u8 0), (.int .u8 0), (.int .u8 0), (.int .u8 0), (.int .u8 0), (.int .u8 0), (.int .u8 0), (.int .u8 0), (.int .u8 0), (.int .u8 0), (.int .u8 0), (.int .u8 0), (.int .u8 0), (.int .u8 0), (.int .u8 0), (.int .u8 0), (.int .u8 0), (.int .u8 0), (.int .u8 0), (.int .u8 0), (.int .u8 0), (.int .u8 0), (.int .u8 0), (.int .u8 0), (.int .u8 0), (.int .u8 0), (.int .u8 0), (.int .u8 0), (.int .u8 0), (.int .u8 0), (.int .u8 0), (.int .u8 0), (.int .u8 0), (.int .u8 0), (.int .u8 0), (.int .u8 0), (.int .u8 0), (.int .u8 0), (.int .u8 0), (.int .u8 0), (.int .u8 0), (.int .u8 0), (.int .u8 0), (.int .u8 0), (.int .u8 0), (.int .u8 0), (.int .u8 0), (.int .u8 0), (.int .u8 0), (.int .u8 0), (.int .u8 0), (.int .u8 0), (.int .u8 0), (.int .u8 0), (.int .u8 0), (.int .u8 0), (.int .u8 0), (.int .u8 0), (.int .u8 0), (.int .u8 0), (.int .i64 0), (.int .i64 0), (.sc (.string (bs [])))] [(0, 1, (.tmp 129)), (1, 1, (.tmp 131)), (34, 32, (.tmp 133)), (66, 1, (.tmp 135)), (67, 1, (.tmp 137)), (68, 1, (.tmp 139))], none⟩,
  ⟨some 22, .alloc [(.int .i64 0), (.int .i64 0), (.int .u8 0), (.int .u8 0), (.int .u8 0), (.int .u8 0), (.int .u8 0), (.int .u8 0), (.int .u8 0), (.int .u8 0), (.int .u8 0), (.int .u8 0), (.int .u8 0), (.int .u8 0), (.int .u8 0), (.int .u8 0), (.int .u8 0), (.int .u8 0), (.int .u8 0), (.int .u8 0), (.int .u8 0), (.int .u8 0), (.int .u8 0), (.int .u8 0), (.int .u8 0), (.int .u8 0), (.int .u8 0), (.int .u8 0), (.int .u8 0), (.int .u8 0), (.int .u8 0), (.int .u8 0), (.int .u8 0), (.int .u8 0), (.int .u8 0), (.int .u8 0), (.int .u8 0), (.int .u8 0), (.int .u8 0), (.int .u8 0), (.int .u8 0), (.int .u8 0), (.int .u8 0), (.int .u8 0), (.int .u8 0), (.int .u8 0), (.int .u8 0), (.int .u8 0), (.int .u8 0), (.int .u8 0), (.int .u8 0), (.int .u8 0), (.int .u8 0), (.int .u8 0), (.int .u8 0), (.int .u8 0), (.int .u8 0), (.int .u8 0), (.int .u8 0), (.int .u8 0), (.int .u8 0), (.int .u8 0), (.int .u8 0), (.int .u8 0), (.int .u8 0), (.int .u8 0), (.int .i64 0), (.int .i64 0), (.sc (.string (bs [])))], none⟩,
  ⟨none, .store 69 (.tmp 22) (.tmp 140), none⟩] [(0, 1), (0, 1), (0, 1), (0, 1), (0, 1), (0, 1), (0, 1), (0, 1), (0, 1), (0, 1), (0, 1), (0, 1), (0, 1), (0, 0), (1, 1)])
 (.seq
 (.seq
 (.reg [⟨some 141, .fieldAddr 1 1 (.tmp 22), none⟩,
  ⟨some 142, .load none (.tmp 141), none⟩,
  ⟨some 143, .bin .neq (.tmp 142) (.cst (.int .i64 3)), none⟩])
 (.cond (.tmp 143)
 (.seq
 (.seq
 (.reg [⟨some 144, .move (.tmp 13), none⟩,
  ⟨some 145, .un .not (.tmp 144), none⟩])
 (.cond (.tmp 145)
 (.seq
 (.reg [⟨some 146, .build [(.int .i64 0), (.int .i64 0), (.int .u8 0), (.int .u8 0), (.int .u8 0), (.int .u8 0), (.int .u8 0), (.int .u8 0), (.int .u8 0), (.int .u8 0), (.int .u8 0), (.int .u8 0), (.int .u8 0), (.int .u8 0), (.int .u8 0), (.int .u8 0), (.int .u8 0), (.int .u8 0), (.int .u8 0), (.int .u8 0), (.int .u8 0), (.int .u8 0), (.int .u8 0), (.int .u8 0), (.int .u8 0), (.int .u8 0), (.int .u8 0), (.int .u8 0), (.int .u8 0), (.int .u8 0), (.int .u8 0), (.int .u8 0), (.int .u8 0), (.int .u8 0), (.int .u8 0), (.int .u8 0), (.int .u8 0), (.int .u8 0), (.int .u8 0), (.int .u8 0), (.int .u8 0), (.int .u8 0), (.int .u8 0), (.int .u8 0), (.int .u8 0), (.int .u8 0), (.int .u8 0), (.int .u8 0), (.int .u8 0), (.int .u8 0), (.int .u8 0), (.int .u8 0), (.int .u8 0), (.int .u8 0), (.int .u8 0), (.int .u8 0), (.int .u8 0), (.int .u8 0), (.int .u8 0), (.int .u8 0), (.int .u8 0), (.int .u8 0), (.int .u8 0), (.int .u8 0), (.int .u8 0), (.int .u8 0), (.int .i64 0), (.int .i64 0), (.sc (.string (bs [])))] [], none⟩,
  ⟨none, .store 69 (.tmp 2) (.tmp 146), none⟩,
  ⟨some 3, .move (.cst (.int .i64 10)), none⟩])
 (.ret))
 (.skip)))
 (.reg [⟨some 147, .move (.tmp 12), none⟩,
  ⟨some 148, .call (.cst (.func (.func 33) [] [])) [(.tmp 147)], none⟩,
  ⟨some 149, .fieldAddr 2 32 (.tmp 22), none⟩,
  ⟨none, .store 32 (.tmp 149) (.tmp 148), none⟩]))
 (.skip)))
 (.seq
 (.seq
 (.reg [⟨some 150, .load (some 69) (.tmp 22), none⟩,
  ⟨some 151, .call (.cst (.func (.func 10) [] [])) [(.tmp 150)], none⟩,
  ⟨some 152, .un .not (.tmp 151), none⟩])
 (.cond (.tmp 152)
 (.seq
 (.reg [⟨some 153, .build [(.int .i64 0), (.int .i64 0), (.int .u8 0), (.int .u8 0), (.int .u8 0), (.int .u8 0), (.int .u8 0), (.int .u8 0), (.int .u8 0), (.int .u8 0), (.int .u8 0), (.int .u8 0), (.int .u8 0), (.int .u8 0), (.int .u8 0), (.int .u8 0), (.int .u8 0), (.int .u8 0), (.int .u8 0), (.int .u8 0), (.int .u8 0), (.int .u8 0), (.int .u8 0), (.int .u8 0), (.int .u8 0), (.int .u8 0), (.int .u8 0), (.int .u8 0), (.int .u8 0), (.int .u8 0), (.int .u8 0), (.int .u8 0), (.int .u8 0), (.int .u8 0), (.int .u8 0), (.int .u8 0), (.int .u8 0), (.int .u8 0), (.int .u8 0), (.int .u8 0), (.int .u8 0), (.int .u8 0), (.int .u8 0), (.int .u8 0), (.int .u8 0), (.int .u8 0), (.int .u8 0), (.int .u8 0), (.int .u8 0), (.int .u8 0), (.int .u8 0), (.int .u8 0), (.int .u8 0), (.int .u8 0), (.int .u8 0), (.int .u8 0), (.int .u8 0), (.int .u8 0), (.int .u8 0), (.int .u8 0), (.int .u8 0), (.int .u8 0), (.int .u8 0), (.int .u8 0), (.int .u8 0), (.int .u8 0), (.int .i64 0), (.int .i64 0), (.sc (.string (bs [])))] [], none⟩,
  ⟨none, .store 69 (.tmp 2) (.tmp 153), none⟩,
  ⟨some 3, .move (.cst (.int .i64 10)), none⟩])
 (.ret))
 (.skip)))
 (.seq
 (.reg [⟨some 154, .load (some 69) (.tmp 22), none⟩,
  ⟨none, .store 69 (.tmp 2) (.tmp 154), none⟩,
  ⟨some 3, .move (.cst (.int .i64 0)), none⟩])
 (.ret))))))))))))))))))))⟩
theorem c16 : compF Try.prog gl true [(129, (some 0)), (131, (some 0)), (133, (some 0)), (135, (some 0)), (137, (some 0))] [] Try.f16 = some F16 := by kernel_rfl
def L17_0 : AC := .seq
 (.reg [⟨some 12, .bin .lss (.tmp 11) (.tmp 10), none⟩])
 (.seq
 (.cond (.tmp 12)
 (.skip)
 (.exit 0))
 (.seq
 (.block 1
 (.seq
 (.reg [⟨some 13, .move (.tmp 11), none⟩,
  ⟨some 6, .move (.tmp 13), none⟩])
 (.reg [⟨some 14, .move (.tmp 5), none⟩,
  ⟨some 15, .move (.tmp 6), none⟩,
  ⟨some 16, .move (.tmp 1), none⟩,
  ⟨some 17, .move (.tmp 0), none⟩,
  ⟨some 18, .bin .sub (.tmp 17) (.cst (.int .i64 1)), none⟩,
  ⟨some 19, .move (.tmp 6), none⟩,
  ⟨some 20, .bin .sub (.tmp 18) (.tmp 19), none⟩,
  ⟨some 21, .bin .mul (.cst (.int .i64 8)) (.tmp 20), none⟩,
  ⟨some 22, .bin .shr (.tmp 16) (.tmp 21), none⟩,
  ⟨some 23, .convInt .u8 (.tmp 22), none⟩,
  ⟨some 24, .indexAddr .slice none (.tmp 14) (.tmp 15), none⟩,
  ⟨none, .store 1 (.tmp 24) (.tmp 23), none⟩])))
 (.reg [⟨some 25, .bin .add (.tmp 11) (.cst (.int .i64 1)), none⟩,
  ⟨some 11, .move (.tmp 25), none⟩])))
/- tollhouse/invoice.high -/
def F17 : AFn := ⟨27, true, 2, [.tmp 4], .seq
 (.reg [⟨some 4, .move (.cst .nil), none⟩])
 (.seq
 (.reg [⟨some 7, .move (.tmp 0), none⟩,
  ⟨some 8, .makeSlice none [(.int .u8 0)] 1 (.tmp 7) (.tmp 7), none⟩,
  ⟨some 5, .move (.tmp 8), none⟩])
 (.seq
 (.seq
 (.reg [⟨some 9, .move (.tmp 5), none⟩,
  ⟨some 10, .len (.tmp 9), none⟩,
  ⟨some 11, .move (.cst (.int .i64 0)), none⟩])
 (.block 0
 (.loop [0, 1, 5, 10, 11] true L17_0)))
 (.seq
 (.reg [⟨some 26, .move (.tmp 5), none⟩,
  ⟨some 4, .move (.tmp 26), none⟩])
 (.ret))))⟩
theorem c17 : compF Try.prog gl true [] [([0, 1, 5, 10, 11], true)] Try.f17 = some F17 := by kernel_rfl
def L18_0 : AC := .seq
 (.reg [⟨some 56, .bin .lss (.tmp 55) (.tmp 54), none⟩])
 (.seq
 (.cond (.tmp 56)
 (.skip)
 (.exit 2))
 (.seq
 (.block 3
 (.seq
 (.reg [⟨some 57, .indexAddr .slice (some 2) (.tmp 53) (.tmp 55), none⟩,
  ⟨some 58, .load (some 2) (.tmp 57), none⟩,
  ⟨some 9, .alloc [(.int .u64 0), .nil], none⟩,
  ⟨none, .store 2 (.tmp 9) (.tmp 58), none⟩])
 (.regD [⟨some 59, .move (.tmp 7), none⟩,
  ⟨some 60, .fieldAddr 0 1 (.tmp 9), none⟩,
  ⟨some 61, .load none (.tmp 60), none⟩,
  ⟨some 62, .call (.cst (.func (.func 35) [] [])) [(.tmp 59), (.tmp 61)], none⟩,
  ⟨some 63, .fieldAddr 1 1 (.tmp 9), none⟩,
  ⟨some 64, .load none (.tmp 63), none⟩,
  ⟨some 65, .len (.tmp 64), none⟩,
  ⟨some 66, .convInt .u64 (.tmp 65), none⟩,
  ⟨some 67, .call (.cst (.func (.func 35) [] [])) [(.tmp 62), (.tmp 66)], none⟩,
  ⟨some 68, .fieldAddr 1 1 (.tmp 9), none⟩,
  ⟨some 69, .load none (.tmp 68), none⟩,
  ⟨some 70, .append none 1 (.tmp 67) (.tmp 69), none⟩,
  ⟨some 7, .move (.tmp 70), none⟩] [(0, 0), (0, 0), (0, 0), (0, 0), (0, 1), (0, 1), (0, 1), (0, 1), (1, 1), (0, 2), (0, 2), (2, 2), (3, 3)])))
 (.reg [⟨some 71, .bin .add (.tmp 55) (.cst (.int .i64 1)), none⟩,
  ⟨some 55, .move (.tmp 71), none⟩])))
def L18_1 : AC := .seq
 (.reg [⟨some 13, .bin .lss (.tmp 12) (.tmp 11), none⟩])
 (.seq
 (.cond (.tmp 13)
 (.skip)
 (.exit 0))
 (.seq
 (.block 1
 (.seq
 (.reg [⟨some 14, .move (.tmp 12), none⟩,
  ⟨some 15, .indexAddr .slice (some 2) (.tmp 10) (.tmp 12), none⟩,
  ⟨some 16, .load (some 2) (.tmp 15), none⟩,
  ⟨some 6, .alloc [(.int .u64 0), .nil], none⟩,
  ⟨some 5, .move (.tmp 14), none⟩,
  ⟨none, .store 2 (.tmp 6) (.tmp 16), none⟩])
 (.seq
 (.seq
 (.regQ [⟨some 17, .move (.tmp 5), none⟩,
  ⟨some 18, .bin .gtr (.tmp 17) (.cst (.int .i64 0)), none⟩,
  ⟨some 19, .move (.tmp 18), none⟩,
  ⟨some 20, .fieldAddr 0 1 (.tmp 6), some (19, true)⟩,
  ⟨some 21, .load none (.tmp 20), some (19, true)⟩,
  ⟨some 22, .move (.tmp 0), some (19, true)⟩,
  ⟨some 23, .move (.tmp 5), some (19, true)⟩,
  ⟨some 24, .bin .sub (.tmp 23) (.cst (.int .i64 1)), some (19, true)⟩,
  ⟨some 25, .indexAddr .slice (some 2) (.tmp 22) (.tmp 24), some (19, true)⟩,
  ⟨some 26, .fieldAddr 0 1 (.tmp 25), some (19, true)⟩,
  ⟨some 27, .load none (.tmp 26), some (19, true)⟩,
  ⟨some 28, .bin .leq (.tmp 21) (.tmp 27), some (19, true)⟩,
  ⟨some 29, .pick (.tmp 19) (.tmp 28) (.cst (.bool false)), none⟩])
 (.cond (.tmp 29)
 (.seq
 (.reg [⟨some 2, .move (.cst .nil), none⟩,
  ⟨some 3, .move (.cst (.int .i64 11)), none⟩])
 (.ret))
 (.skip)))
 (.regD [⟨some 30, .move (.tmp 4), none⟩,
  ⟨some 31, .fieldAddr 0 1 (.tmp 6), none⟩,
  ⟨some 32, .load none (.tmp 31), none⟩,
  ⟨some 33, .call (.cst (.func (.func 34) [] [])) [(.tmp 32)], none⟩,
  ⟨some 34, .fieldAddr 1 1 (.tmp 6), none⟩,
  ⟨some 35, .load none (.tmp 34), none⟩,
  ⟨some 36, .len (.tmp 35), none⟩,
  ⟨some 37, .convInt .u64 (.tmp 36), none⟩,
  ⟨some 38, .call (.cst (.func (.func 34) [] [])) [(.tmp 37)], none⟩,
  ⟨some 39, .bin .add (.tmp 33) (.tmp 38), none⟩,
  ⟨some 40, .fieldAddr 1 1 (.tmp 6), none⟩,
  ⟨some 41, .load none (.tmp 40), none⟩,
  ⟨some 42, .len (.tmp 41), none⟩,
  ⟨some 43, .bin .add (.tmp 39) (.tmp 42), none⟩,
  ⟨some 44, .bin .add (.tmp 30) (.tmp 43), none⟩,
  ⟨some 4, .move (.tmp 44), none⟩] [(0, 2), (0, 0), (0, 0), (0, 0), (0, 1), (0, 1), (0, 1), (0, 1), (1, 1), (2, 2), (0, 2), (0, 2), (0, 2), (2, 2), (2, 2), (2, 2)]))))
 (.reg [⟨some 45, .bin .add (.tmp 12) (.cst (.int .i64 1)), none⟩,
  ⟨some 12, .move (.tmp 45), none⟩])))
/- tollhouse/bigsize.Encode -/
def F18 : AFn := ⟨73, true, 1, [.tmp 2, .tmp 3], .seq
 (.reg [⟨some 2, .move (.cst .nil), none⟩,
  ⟨some 3, .move (.cst (.int .i64 0)), none⟩])
 (.seq
 (.reg [⟨some 4, .move (.cst (.int .i64 0)), none⟩])
 (.seq
 (.seq
 (.reg [⟨some 10, .move (.tmp 0), none⟩,
  ⟨some 11, .len (.tmp 10), none⟩,
  ⟨some 12, .move (.cst (.int .i64 0)), none⟩])
 (.block 0
 (.loop [0, 4, 10, 11, 12] false L18_1)))
 (.seq
 (.seq
 (.reg [⟨some 46, .move (.tmp 0), none⟩,
  ⟨some 47, .len (.tmp 46), none⟩,
  ⟨some 48, .bin .gtr (.tmp 47) (.cst (.int .i64 64)), none⟩,
  ⟨some 49, .move (.tmp 48), none⟩,
  ⟨some 50, .move (.tmp 4), some (49, false)⟩,
  ⟨some 51, .bin .gtr (.tmp 50) (.cst (.int .i64 65536)), some (49, false)⟩,
  ⟨some 52, .pick (.tmp 49) (.cst (.bool true)) (.tmp 51), none⟩])
 (.cond (.tmp 52)
 (.seq
 (.reg [⟨some 2, .move (.cst .nil), none⟩,
  ⟨some 3, .move (.cst (.int .i64 3)), none⟩])
 (.ret))
 (.skip)))
 (.seq
 (.reg [⟨some 7, .move (.cst .nil), none⟩])
 (.seq
 (.seq
 (.reg [⟨some 53, .move (.tmp 0), none⟩,
  ⟨some 54, .len (.tmp 53), none⟩,
  ⟨some 55, .move (.cst (.int .i64 0)), none⟩])
 (.block 2
 (.loop [7, 53, 54, 55] false L18_0)))
 (.seq
 (.reg [⟨some 72, .move (.tmp 7), none⟩,
  ⟨some 2, .move (.tmp 72), none⟩,
  ⟨some 3, .move (.cst (.int .i64 0)), none⟩])
 (.ret)))))))⟩
theorem c18 : compF Try.prog gl true [] [([0, 4, 10, 11, 12], false), ([7, 53, 54, 55], false)] Try.f18 = some F18 := by kernel_rfl
/- tollhouse/invoice.sum -/
def F19 : AFn := ⟨10, true, 1, [.tmp 2], .seq
 (.reg [⟨some 2, .move (.cst .nil), none⟩])
 (.seq
 (.reg [⟨some 4, .buildSlice none (.int .u8 0) 7 [(0, (.cst (.int .u8 105))), (1, (.cst (.int .u8 110))), (2, (.cst (.int .u8 118))), (3, (.cst (.int .u8 111))), (4, (.cst (.int .u8 105))), (5, (.cst (.int .u8 99))), (6, (.cst (.int .u8 101)))], none⟩,
  ⟨some 5, .move (.tmp 4), none⟩,
  ⟨some 6, .move (.tmp 0), none⟩,
  ⟨some 7, .buildSlice none .nil 2 [(0, (.tmp 5)), (1, (.tmp 6))], none⟩,
  ⟨some 8, .call (.cst (.func (.func 36) [] [])) [(.tmp 7)], none⟩,
  ⟨some 3, .alloc [(.int .u8 0), (.int .u8 0), (.int .u8 0), (.int .u8 0), (.int .u8 0), (.int .u8 0), (.int .u8 0), (.int .u8 0), (.int .u8 0), (.int .u8 0), (.int .u8 0), (.int .u8 0), (.int .u8 0), (.int .u8 0), (.int .u8 0), (.int .u8 0), (.int .u8 0), (.int .u8 0), (.int .u8 0), (.int .u8 0), (.int .u8 0), (.int .u8 0), (.int .u8 0), (.int .u8 0), (.int .u8 0), (.int .u8 0), (.int .u8 0), (.int .u8 0), (.int .u8 0), (.int .u8 0), (.int .u8 0), (.int .u8 0)], none⟩,
  ⟨none, .store 32 (.tmp 3) (.tmp 8), none⟩])
 (.seq
 (.reg [⟨some 9, .slice (.arr 32) none (.tmp 3) none (some (.cst (.int .i64 4))) none, none⟩,
  ⟨some 2, .move (.tmp 9), none⟩])
 (.ret)))⟩
theorem c19 : compF Try.prog gl true [] [] Try.f19 = some F19 := by kernel_rfl
def L20_0 : AC := .seq
 (.seq
 (.reg [⟨some 9, .move (.tmp 6), none⟩,
  ⟨some 10, .bin .geq (.tmp 9) (.cst (.int .i64 0)), none⟩])
 (.cond (.tmp 10)
 (.skip)
 (.exit 0)))
 (.seq
 (.block 1
 (.reg [⟨some 13, .move (.tmp 5), none⟩,
  ⟨some 14, .move (.tmp 1), none⟩,
  ⟨some 15, .move (.tmp 6), none⟩,
  ⟨some 16, .bin .mul (.cst (.int .i64 8)) (.tmp 15), none⟩,
  ⟨some 17, .bin .shr (.tmp 14) (.tmp 16), none⟩,
  ⟨some 18, .convInt .u8 (.tmp 17), none⟩,
  ⟨some 19, .buildSlice none (.int .u8 0) 1 [(0, (.tmp 18))], none⟩,
  ⟨some 20, .append none 1 (.tmp 13) (.tmp 19), none⟩,
  ⟨some 5, .move (.tmp 20), none⟩]))
 (.reg [⟨some 11, .move (.tmp 6), none⟩,
  ⟨some 12, .bin .sub (.tmp 11) (.cst (.int .i64 1)), none⟩,
  ⟨some 6, .move (.tmp 12), none⟩]))
/- tollhouse/tollhouseref09.high -/
def F20 : AFn := ⟨22, true, 2, [.tmp 4], .seq
 (.reg [⟨some 4, .move (.cst .nil), none⟩])
 (.seq
 (.reg [⟨some 5, .acc none (.cst .nil), none⟩])
 (.seq
 (.seq
 (.reg [⟨some 7, .move (.tmp 0), none⟩,
  ⟨some 8, .bin .sub (.tmp 7) (.cst (.int .i64 1)), none⟩,
  ⟨some 6, .move (.tmp 8), none⟩])
 (.block 0
 (.loop [1, 5, 6] true L20_0)))
 (.seq
 (.reg [⟨some 21, .move (.tmp 5), none⟩,
  ⟨some 4, .move (.tmp 21), none⟩])
 (.ret))))⟩
theorem c20 : compF Try.prog gl true [(5, none)] [([1, 5, 6], true)] Try.f20 = some F20 := by kernel_rfl
def L21_0 : AC := .seq
 (.seq
 (.reg [⟨some 28, .move (.tmp 6), none⟩,
  ⟨some 29, .move (.tmp 0), none⟩,
  ⟨some 30, .len (.tmp 29), none⟩,
  ⟨some 31, .bin .lss (.tmp 28) (.tmp 30), none⟩])
 (.cond (.tmp 31)
 (.skip)
 (.exit 2)))
 (.seq
 (.block 3
 (.seq
 (.regD [⟨some 34, .move (.tmp 5), none⟩,
  ⟨some 35, .move (.tmp 0), none⟩,
  ⟨some 36, .move (.tmp 6), none⟩,
  ⟨some 37, .indexAddr .slice (some 2) (.tmp 35) (.tmp 36), none⟩,
  ⟨some 38, .fieldAddr 0 1 (.tmp 37), none⟩,
  ⟨some 39, .load none (.tmp 38), none⟩,
  ⟨some 40, .call (.cst (.func (.func 37) [] [])) [(.tmp 39)], none⟩,
  ⟨some 41, .append none 1 (.tmp 34) (.tmp 40), none⟩,
  ⟨some 42, .move (.tmp 0), none⟩,
  ⟨some 43, .move (.tmp 6), none⟩,
  ⟨some 44, .indexAddr .slice (some 2) (.tmp 42) (.tmp 43), none⟩,
  ⟨some 45, .fieldAddr 1 1 (.tmp 44), none⟩,
  ⟨some 46, .load none (.tmp 45), none⟩,
  ⟨some 47, .len (.tmp 46), none⟩,
  ⟨some 48, .convInt .u64 (.tmp 47), none⟩,
  ⟨some 49, .call (.cst (.func (.func 37) [] [])) [(.tmp 48)], none⟩,
  ⟨some 50, .append none 1 (.tmp 41) (.tmp 49), none⟩,
  ⟨some 5, .move (.tmp 50), none⟩] [(0, 1), (0, 0), (0, 0), (0, 0), (0, 0), (0, 0), (0, 0), (1, 1), (0, 2), (0, 2), (0, 2), (0, 2), (0, 2), (0, 2), (0, 2), (2, 2), (3, 3), (4, 4)])
 (.seq
 (.reg [⟨some 51, .move (.tmp 5), none⟩,
  ⟨some 52, .move (.tmp 0), none⟩,
  ⟨some 53, .move (.tmp 6), none⟩,
  ⟨some 54, .indexAddr .slice (some 2) (.tmp 52) (.tmp 53), none⟩,
  ⟨some 55, .fieldAddr 1 1 (.tmp 54), none⟩,
  ⟨some 56, .load none (.tmp 55), none⟩,
  ⟨some 57, .append none 1 (.tmp 51) (.tmp 56), none⟩,
  ⟨some 5, .move (.tmp 57), none⟩])
 (.seq
 (.reg [⟨some 58, .move (.tmp 5), none⟩,
  ⟨some 59, .len (.tmp 58), none⟩,
  ⟨some 60, .bin .gtr (.tmp 59) (.cst (.int .i64 65536)), none⟩])
 (.cond (.tmp 60)
 (.seq
 (.reg [⟨some 2, .move (.cst .nil), none⟩,
  ⟨some 3, .move (.cst (.int .i64 3)), none⟩])
 (.ret))
 (.skip))))))
 (.reg [⟨some 32, .move (.tmp 6), none⟩,
  ⟨some 33, .bin .add (.tmp 32) (.cst (.int .i64 1)), none⟩,
  ⟨some 6, .move (.tmp 33), none⟩]))
def L21_1 : AC := .seq
 (.seq
 (.reg [⟨some 7, .move (.tmp 4), none⟩,
  ⟨some 8, .move (.tmp 0), none⟩,
  ⟨some 9, .len (.tmp 8), none⟩,
  ⟨some 10, .bin .lss (.tmp 7) (.tmp 9), none⟩])
 (.cond (.tmp 10)
 (.skip)
 (.exit 0)))
 (.seq
 (.block 1
 (.seq
 (.regQ [⟨some 13, .move (.tmp 0), none⟩,
  ⟨some 14, .move (.tmp 4), none⟩,
  ⟨some 15, .indexAddr .slice (some 2) (.tmp 13) (.tmp 14), none⟩,
  ⟨some 16, .fieldAddr 0 1 (.tmp 15), none⟩,
  ⟨some 17, .load none (.tmp 16), none⟩,
  ⟨some 18, .move (.tmp 0), none⟩,
  ⟨some 19, .move (.tmp 4), none⟩,
  ⟨some 20, .bin .sub (.tmp 19) (.cst (.int .i64 1)), none⟩,
  ⟨some 21, .indexAddr .slice (some 2) (.tmp 18) (.tmp 20), none⟩,
  ⟨some 22, .fieldAddr 0 1 (.tmp 21), none⟩,
  ⟨some 23, .load none (.tmp 22), none⟩,
  ⟨some 24, .bin .leq (.tmp 17) (.tmp 23), none⟩])
 (.cond (.tmp 24)
 (.seq
 (.reg [⟨some 2, .move (.cst .nil), none⟩,
  ⟨some 3, .move (.cst (.int .i64 11)), none⟩])
 (.ret))
 (.skip))))
 (.reg [⟨some 11, .move (.tmp 4), none⟩,
  ⟨some 12, .bin .add (.tmp 11) (.cst (.int .i64 1)), none⟩,
  ⟨some 4, .move (.tmp 12), none⟩]))
/- tollhouse/tollhouseref01.Encode -/
def F21 : AFn := ⟨62, true, 1, [.tmp 2, .tmp 3], .seq
 (.reg [⟨some 2, .move (.cst .nil), none⟩,
  ⟨some 3, .move (.cst (.int .i64 0)), none⟩])
 (.seq
 (.seq
 (.reg [⟨some 4, .move (.cst (.int .i64 1)), none⟩])
 (.block 0
 (.loop [0, 4] false L21_1)))
 (.seq
 (.seq
 (.reg [⟨some 25, .move (.tmp 0), none⟩,
  ⟨some 26, .len (.tmp 25), none⟩,
  ⟨some 27, .bin .gtr (.tmp 26) (.cst (.int .i64 64)), none⟩])
 (.cond (.tmp 27)
 (.seq
 (.reg [⟨some 2, .move (.cst .nil), none⟩,
  ⟨some 3, .move (.cst (.int .i64 3)), none⟩])
 (.ret))
 (.skip)))
 (.seq
 (.reg [⟨some 5, .acc none (.cst .nil), none⟩])
 (.seq
 (.seq
 (.reg [⟨some 6, .move (.cst (.int .i64 0)), none⟩])
 (.block 2
 (.loop [0, 5, 6] false L21_0)))
 (.seq
 (.reg [⟨some 61, .move (.tmp 5), none⟩,
  ⟨some 2, .move (.tmp 61), none⟩,
  ⟨some 3, .move (.cst (.int .i64 0)), none⟩])
 (.ret))))))⟩
theorem c21 : compF Try.prog gl true [(5, none)] [([0, 4], false), ([0, 5, 6], false)] Try.f21 = some F21 := by kernel_rfl
/- tollhouse/tollhouseref09.sum -/
def F22 : AFn := ⟨18, true, 1, [.tmp 2], .seq
 (.reg [⟨some 2, .move (.cst .nil), none⟩])
 (.seq
 (.reg [⟨some 4, .buildSlice none (.int .u8 0) 7 [(0, (.cst (.int .u8 105))), (1, (.cst (.int .u8 110))), (2, (.cst (.int .u8 118))), (3, (.cst (.int .u8 111))), (4, (.cst (.int .u8 105))), (5, (.cst (.int .u8 99))), (6, (.cst (.int .u8 101)))], none⟩,
  ⟨some 5, .move (.tmp 4), none⟩,
  ⟨some 6, .move (.tmp 0), none⟩,
  ⟨some 7, .append none 1 (.tmp 5) (.tmp 6), none⟩,
  ⟨some 8, .call (.cst (.func (.func 38) [] [])) [(.tmp 7)], none⟩,
  ⟨some 3, .alloc [(.int .u8 0), (.int .u8 0), (.int .u8 0), (.int .u8 0), (.int .u8 0), (.int .u8 0), (.int .u8 0), (.int .u8 0), (.int .u8 0), (.int .u8 0), (.int .u8 0), (.int .u8 0), (.int .u8 0), (.int .u8 0), (.int .u8 0), (.int .u8 0), (.int .u8 0), (.int .u8 0), (.int .u8 0), (.int .u8 0), (.int .u8 0), (.int .u8 0), (.int .u8 0), (.int .u8 0), (.int .u8 0), (.int .u8 0), (.int .u8 0), (.int .u8 0), (.int .u8 0), (.int .u8 0), (.int .u8 0), (.int .u8 0)], none⟩,
  ⟨none, .store 32 (.tmp 3) (.tmp 8), none⟩])
 (.seq
 (.reg [⟨some 9, .indexAddr (.arr 32) none (.tmp 3) (.cst (.int .i64 0)), none⟩,
  ⟨some 10, .load none (.tmp 9), none⟩,
  ⟨some 11, .indexAddr (.arr 32) none (.tmp 3) (.cst (.int .i64 1)), none⟩,
  ⟨some 12, .load none (.tmp 11), none⟩,
  ⟨some 13, .indexAddr (.arr 32) none (.tmp 3) (.cst (.int .i64 2)), none⟩,
  ⟨some 14, .load none (.tmp 13), none⟩,
  ⟨some 15, .indexAddr (.arr 32) none (.tmp 3) (.cst (.int .i64 3)), none⟩,
  ⟨some 16, .load none (.tmp 15), none⟩,
  ⟨some 17, .buildSlice none (.int .u8 0) 4 [(0, (.tmp 10)), (1, (.tmp 12)), (2, (.tmp 14)), (3, (.tmp 16))], none⟩,
  ⟨some 2, .move (.tmp 17), none⟩])
 (.ret)))⟩
theorem c22 : compF Try.prog gl true [] [] Try.f22 = some F22 := by kernel_rfl
/- tollhouse/tollhouselaw09.one -/
def F23 : AFn := ⟨4, true, 0, [.cell 0 (some 69)], .seq
 (.reg [⟨some 0, .alloc [(.int .i64 0), (.int .i64 0), (.int .u8 0), (.int .u8 0), (.int .u8 0), (.int .u8 0), (.int .u8 0), (.int .u8 0), (.int .u8 0), (.int .u8 0), (.int .u8 0), (.int .u8 0), (.int .u8 0), (.int .u8 0), (.int .u8 0), (.int .u8 0), (.int .u8 0), (.int .u8 0), (.int .u8 0), (.int .u8 0), (.int .u8 0), (.int .u8 0), (.int .u8 0), (.int .u8 0), (.int .u8 0), (.int .u8 0), (.int .u8 0), (.int .u8 0), (.int .u8 0), (.int .u8 0), (.int .u8 0), (.int .u8 0), (.int .u8 0), (.int .u8 0), (.int .u8 0), (.int .u8 0), (.int .u8 0), (.int .u8 0), (.int .u8 0), (.int .u8 0), (.int .u8 0), (.int .u8 0), (.int .u8 0), (.int .u8 0), (.int .u8 0), (.int .u8 0), (.int .u8 0), (.int .u8 0), (.int .u8 0), (.int .u8 0), (.int .u8 0), (.int .u8 0), (.int .u8 0), (.int .u8 0), (.int .u8 0), (.int .u8 0), (.int .u8 0), (.int .u8 0), (.int .u8 0), (.int .u8 0), (.int .u8 0), (.int .u8 0), (.int .u8 0), (.int .u8 0), (.int .u8 0), (.int .u8 0), (.int .i64 0), (.int .i64 0), (.sc (.string (bs [])))], none⟩])
 (.seq
 (.reg [⟨some 1, .build [(.int .u8 0), (.int .u8 0), (.int .u8 0), (.int .u8 0), (.int .u8 0), (.int .u8 0), (.int .u8 0), (.int .u8 0), (.int .u8 0), (.int .u8 0), (.int .u8 0), (.int .u8 0), (.int .u8 0), (.int .u8 0), (.int .u8 0), (.int .u8 0), (.int .u8 0), (.int .u8 0), (.int .u8 0), (.int .u8 0), (.int .u8 0), (.int .u8 0), (.int .u8 0), (.int .u8 0), (.int .u8 0), (.int .u8 0), (.int .u8 0), (.int .u8 0), (.int .u8 0), (.int .u8 0), (.int .u8 0), (.int .u8 0)] [(0, 1, (.cst (.int .u8 1)))], none⟩,
  ⟨some 2, .build [(.int .u8 0), (.int .u8 0), (.int .u8 0), (.int .u8 0), (.int .u8 0), (.int .u8 0), (.int .u8 0), (.int .u8 0), (.int .u8 0), (.int .u8 0), (.int .u8 0), (.int .u8 0), (.int .u8 0), (.int .u8 0), (.int .u8 0), (.int .u8 0), (.int .u8 0), (.int .u8 0), (.int .u8 0), (.int .u8 0), (.int .u8 0), (.int .u8 0), (.int .u8 0), (.int .u8 0), (.int .u8 0), (.int .u8 0), (.int .u8 0), (.int .u8 0), (.int .u8 0), (.int .u8 0), (.int .u8 0), (.int .u8 0)] [(0, 1, (.cst (.int .u8 2)))], none⟩,
  ⟨some 3, .build [(.int .i64 0), (.int .i64 0), (.int .u8 0), (.int .u8 0), (.int .u8 0), (.int .u8 0), (.int .u8 0), (.int .u8 0), (.int .u8 0), (.int .u8 0), (.int .u8 0), (.int .u8 0), (.int .u8 0), (.int .u8 0), (.int .u8 0), (.int .u8 0), (.int .u8 0), (.int .u8 0), (.int .u8 0), (.int .u8 0), (.int .u8 0), (.int .u8 0), (.int .u8 0), (.int .u8 0), (.int .u8 0), (.int .u8 0), (.int .u8 0), (.int .u8 0), (.int .u8 0), (.int .u8 0), (.int .u8 0), (.int .u8 0), (.int .u8 0), (.int .u8 0), (.int .u8 0), (.int .u8 0), (.int .u8 0), (.int .u8 0), (.int .u8 0), (.int .u8 0), (.int .u8 0), (.int .u8 0), (.int .u8 0), (.int .u8 0), (.int .u8 0), (.int .u8 0), (.int .u8 0), (.int .u8 0), (.int .u8 0), (.int .u8 0), (.int .u8 0), (.int .u8 0), (.int .u8 0), (.int .u8 0), (.int .u8 0), (.int .u8 0), (.int .u8 0), (.int .u8 0), (.int .u8 0), (.int .u8 0), (.int .u8 0), (.int .u8 0), (.int .u8 0), (.int .u8 0), (.int .u8 0), (.int .u8 0), (.int .i64 0), (.int .i64 0), (.sc (.string (bs [])))] [(0, 1, (.cst (.int .i64 3))), (1, 1, (.cst (.int .i64 1))), (2, 32, (.tmp 1)), (34, 32, (.tmp 2)), (66, 1, (.cst (.int .i64 1000))), (67, 1, (.cst (.int .i64 99))), (68, 1, (.cst (.sc (.string (bs [116, 119, 111, 32, 116, 101, 97, 115])))))], none⟩,
  ⟨none, .store 69 (.tmp 0) (.tmp 3), none⟩])
 (.ret))⟩
theorem c23 : compF Try.prog gl true [] [] Try.f23 = some F23 := by kernel_rfl
/- tollhouse/invoice.within -/
def F24 : AFn := ⟨15, true, 3, [.tmp 6], .seq
 (.reg [⟨some 6, .move (.cst (.bool false)), none⟩])
 (.seq
 (.reg [⟨some 7, .move (.tmp 0), none⟩,
  ⟨some 8, .move (.tmp 1), none⟩,
  ⟨some 9, .bin .geq (.tmp 7) (.tmp 8), none⟩,
  ⟨some 10, .move (.tmp 9), none⟩,
  ⟨some 11, .move (.tmp 0), some (10, true)⟩,
  ⟨some 12, .move (.tmp 2), some (10, true)⟩,
  ⟨some 13, .bin .leq (.tmp 11) (.tmp 12), some (10, true)⟩,
  ⟨some 14, .pick (.tmp 10) (.tmp 13) (.cst (.bool false)), none⟩,
  ⟨some 6, .move (.tmp 14), none⟩])
 (.ret))⟩
theorem c24 : compF Try.prog gl true [] [] Try.f24 = some F24 := by kernel_rfl
/- strings.CutPrefix -/
def F25 : AFn := ⟨11, true, 2, [.tmp 4, .tmp 5], .seq
 (.reg [⟨some 4, .move (.cst (.sc (.string (bs [])))), none⟩,
  ⟨some 5, .move (.cst (.bool false)), none⟩])
 (.seq
 (.reg [⟨some 6, .move (.tmp 0), none⟩,
  ⟨some 7, .move (.tmp 1), none⟩,
  ⟨some 8, .call (.cst (.func (.func 39) [] [])) [(.tmp 6), (.tmp 7)], none⟩,
  ⟨some 9, .extract (.tmp 8) 0, none⟩,
  ⟨some 10, .extract (.tmp 8) 1, none⟩,
  ⟨some 4, .move (.tmp 9), none⟩,
  ⟨some 5, .move (.tmp 10), none⟩])
 (.ret))⟩
theorem c25 : compF Try.prog gl true [] [] Try.f25 = some F25 := by kernel_rfl
/- bytes.Equal -/
def F26 : AFn := ⟨10, true, 2, [.tmp 4], .seq
 (.reg [⟨some 4, .move (.cst (.bool false)), none⟩])
 (.seq
 (.reg [⟨some 5, .move (.tmp 0), none⟩,
  ⟨some 6, .convStr (.tmp 5), none⟩,
  ⟨some 7, .move (.tmp 1), none⟩,
  ⟨some 8, .convStr (.tmp 7), none⟩,
  ⟨some 9, .bin .eql (.tmp 6) (.tmp 8), none⟩,
  ⟨some 4, .move (.tmp 9), none⟩])
 (.ret))⟩
theorem c26 : compF Try.prog gl true [] [] Try.f26 = some F26 := by kernel_rfl
def L27_0 : AC := .seq
 (.reg [⟨some 26, .bin .lss (.tmp 25) (.cst (.int .i64 2)), none⟩])
 (.seq
 (.cond (.tmp 26)
 (.skip)
 (.exit 2))
 (.seq
 (.block 3
 (.seq
 (.reg [⟨some 27, .move (.tmp 25), none⟩,
  ⟨some 10, .move (.tmp 27), none⟩])
 (.seq
 (.reg [⟨some 29, .move (.tmp 0), none⟩,
  ⟨some 30, .move (.tmp 8), none⟩,
  ⟨some 31, .slice .slice none (.tmp 29) (some (.tmp 30)) none none, none⟩,
  ⟨some 32, .call (.cst (.func (.func 40) [] [])) [(.tmp 31)], none⟩,
  ⟨some 28, .move (.tmp 32), none⟩,
  ⟨some 33, .extract (.tmp 28) 0, none⟩,
  ⟨some 34, .extract (.tmp 28) 1, none⟩,
  ⟨some 35, .extract (.tmp 28) 2, none⟩,
  ⟨some 11, .move (.tmp 33), none⟩,
  ⟨some 12, .move (.tmp 34), none⟩,
  ⟨some 13, .move (.tmp 35), none⟩])
 (.seq
 (.block 4
 (.seq
 (.reg [⟨some 37, .move (.tmp 13), none⟩,
  ⟨some 38, .bin .neq (.tmp 37) (.cst (.int .i64 0)), none⟩,
  ⟨some 36, .move (.tmp 38), none⟩])
 (.cond (.tmp 36)
 (.seq
 (.reg [⟨some 39, .move (.tmp 13), none⟩,
  ⟨some 7, .move (.tmp 39), none⟩])
 (.exit 0))
 (.seq
 (.reg [⟨some 41, .move (.tmp 10), none⟩,
  ⟨some 42, .bin .eql (.tmp 41) (.cst (.int .i64 0)), none⟩,
  ⟨some 43, .move (.tmp 42), none⟩,
  ⟨some 44, .move (.tmp 6), some (43, true)⟩,
  ⟨some 45, .len (.tmp 44), some (43, true)⟩,
  ⟨some 46, .bin .gtr (.tmp 45) (.cst (.int .i64 0)), some (43, true)⟩,
  ⟨some 47, .pick (.tmp 43) (.tmp 46) (.cst (.bool false)), none⟩,
  ⟨some 48, .move (.tmp 47), none⟩,
  ⟨some 49, .move (.tmp 11), some (48, true)⟩,
  ⟨some 50, .move (.tmp 6), some (48, true)⟩,
  ⟨some 51, .move (.tmp 6), some (48, true)⟩,
  ⟨some 52, .len (.tmp 51), some (48, true)⟩,
  ⟨some 53, .bin .sub (.tmp 52) (.cst (.int .i64 1)), some (48, true)⟩,
  ⟨some 54, .indexAddr .slice (some 2) (.tmp 50) (.tmp 53), some (48, true)⟩,
  ⟨some 55, .fieldAddr 0 1 (.tmp 54), some (48, true)⟩,
  ⟨some 56, .load none (.tmp 55), some (48, true)⟩,
  ⟨some 57, .bin .leq (.tmp 49) (.tmp 56), some (48, true)⟩,
  ⟨some 58, .pick (.tmp 48) (.tmp 57) (.cst (.bool false)), none⟩,
  ⟨some 40, .move (.tmp 58), none⟩])
 (.cond (.tmp 40)
 (.seq
 (.reg [⟨some 7, .move (.cst (.int .i64 11)), none⟩])
 (.exit 0))
 (.skip))))))
 (.reg [⟨some 59, .move (.tmp 10), none⟩,
  ⟨some 60, .move (.tmp 11), none⟩,
  ⟨some 61, .move (.tmp 8), none⟩,
  ⟨some 62, .move (.tmp 12), none⟩,
  ⟨some 63, .bin .add (.tmp 61) (.tmp 62), none⟩,
  ⟨some 64, .indexAddr (.arr 2) none (.tmp 9) (.tmp 59), none⟩,
  ⟨none, .store 1 (.tmp 64) (.tmp 60), none⟩,
  ⟨some 8, .move (.tmp 63), none⟩])))))
 (.reg [⟨some 65, .bin .add (.tmp 25) (.cst (.int .i64 1)), none⟩,
  ⟨some 25, .move (.tmp 65), none⟩])))
def L27_1 : AC := .seq
 (.seq
 (.reg [⟨some 18, .move (.tmp 8), none⟩,
  ⟨some 19, .move (.tmp 0), none⟩,
  ⟨some 20, .len (.tmp 19), none⟩,
  ⟨some 21, .bin .lss (.tmp 18) (.tmp 20), none⟩])
 (.cond (.tmp 21)
 (.skip)
 (.exit 0)))
 (.block 1
 (.seq
 (.seq
 (.reg [⟨some 22, .move (.tmp 6), none⟩,
  ⟨some 23, .len (.tmp 22), none⟩,
  ⟨some 24, .bin .geq (.tmp 23) (.cst (.int .i64 64)), none⟩])
 (.cond (.tmp 24)
 (.seq
 (.reg [⟨some 7, .move (.cst (.int .i64 3)), none⟩])
 (.exit 0))
 (.skip)))
 (.seq
 (.reg [⟨some 9, .alloc [(.int .u64 0), (.int .u64 0)], none⟩])
 (.seq
 (.seq
 (.reg [⟨some 25, .move (.cst (.int .i64 0)), none⟩])
 (.block 2
 (.loop [0, 1, 6, 7, 8, 9, 25] false L27_0)))
 (.seq
 (.block 5
 (.seq
 (.reg [⟨some 67, .indexAddr (.arr 2) none (.tmp 9) (.cst (.int .i64 1)), none⟩,
  ⟨some 68, .load none (.tmp 67), none⟩,
  ⟨some 69, .move (.tmp 0), none⟩,
  ⟨some 70, .len (.tmp 69), none⟩,
  ⟨some 71, .move (.tmp 8), none⟩,
  ⟨some 72, .bin .sub (.tmp 70) (.tmp 71), none⟩,
  ⟨some 73, .convInt .u64 (.tmp 72), none⟩,
  ⟨some 74, .bin .gtr (.tmp 68) (.tmp 73), none⟩,
  ⟨some 66, .move (.tmp 74), none⟩])
 (.cond (.tmp 66)
 (.seq
 (.reg [⟨some 7, .move (.cst (.int .i64 10)), none⟩])
 (.exit 0))
 (.seq
 (.reg [⟨some 76, .indexAddr (.arr 2) none (.tmp 9) (.cst (.int .i64 0)), none⟩,
  ⟨some 77, .load none (.tmp 76), none⟩,
  ⟨some 78, .bin .rem (.tmp 77) (.cst (.int .u64 2)), none⟩,
  ⟨some 79, .bin .eql (.tmp 78) (.cst (.int .u64 0)), none⟩,
  ⟨some 80, .move (.tmp 79), none⟩,
  ⟨some 81, .move (.tmp 1), some (80, true)⟩,
  ⟨some 82, .indexAddr (.arr 2) none (.tmp 9) (.cst (.int .i64 0)), some (80, true)⟩,
  ⟨some 83, .load none (.tmp 82), some (80, true)⟩,
  ⟨some 84, .call (.cst (.func (.func 41) [] [])) [(.tmp 81), (.tmp 83)], some (80, true)⟩,
  ⟨some 85, .un .not (.tmp 84), some (80, true)⟩,
  ⟨some 86, .pick (.tmp 80) (.tmp 85) (.cst (.bool false)), none⟩,
  ⟨some 75, .move (.tmp 86), none⟩])
 (.cond (.tmp 75)
 (.seq
 (.reg [⟨some 7, .move (.cst (.int .i64 12)), none⟩])
 (.exit 0))
 (.skip))))))
 (.seq
 (.reg [⟨some 87, .move (.tmp 8), none⟩,
  ⟨some 88, .indexAddr (.arr 2) none (.tmp 9) (.cst (.int .i64 1)), none⟩,
  ⟨some 89, .load none (.tmp 88), none⟩,
  ⟨some 90, .convInt .i64 (.tmp 89), none⟩,
  ⟨some 91, .bin .add (.tmp 87) (.tmp 90), none⟩,
  ⟨some 14, .move (.tmp 91), none⟩])
 (.seq
 (.regD [⟨some 92, .move (.tmp 6), none⟩,
  ⟨some 93, .indexAddr (.arr 2) none (.tmp 9) (.cst (.int .i64 0)), none⟩,
  ⟨some 94, .load none (.tmp 93), none⟩,
  ⟨some 95, .move (.tmp 0), none⟩,
  ⟨some 96, .move (.tmp 8), none⟩,
  ⟨some 97, .move (.tmp 14), none⟩,
  ⟨some 98, .slice .slice none (.tmp 95) (some (.tmp 96)) (some (.tmp 97)) none, none⟩,
  ⟨some 99, .call (.cst (.func (.func 42) [] [])) [(.tmp 98)], none⟩,
  ⟨some 100, .build [(.int .u64 0), .nil] [(0, 1, (.tmp 94)), (1, 1, (.tmp 99))], none⟩,
  ⟨some 101, .buildSlice (some 2) (.agg [(.int .u64 0), .nil]) 1 [(0, (.tmp 100))], none⟩,
  ⟨some 102, .append (some 2) 32 (.tmp 92) (.tmp 101), none⟩,
  ⟨some 6, .move (.tmp 102), none⟩] [(0, 1), (0, 1), (0, 1), (0, 0), (0, 0), (0, 0), (0, 0), (0, 0), (1, 1), (1, 1), (1, 1), (2, 2)])
 (.reg [⟨some 103, .move (.tmp 14), none⟩,
  ⟨some 8, .move (.tmp 103), none⟩]))))))))
/- tollhouse/bigsize.Decode -/
def F27 : AFn := ⟨108, true, 2, [.tmp 4, .tmp 5], .seq
 (.reg [⟨some 4, .move (.cst .nil), none⟩,
  ⟨some 5, .move (.cst (.int .i64 0)), none⟩])
 (.scope
 (.seq
 (.seq
 (.reg [⟨some 15, .move (.tmp 0), none⟩,
  ⟨some 16, .len (.tmp 15), none⟩,
  ⟨some 17, .bin .gtr (.tmp 16) (.cst (.int .i64 65536)), none⟩])
 (.cond (.tmp 17)
 (.seq
 (.reg [⟨some 4, .move (.cst .nil), none⟩,
  ⟨some 5, .move (.cst (.int .i64 3)), none⟩])
 (.ret))
 (.skip)))
 (.seq
 (.reg [⟨some 6, .acc (some 2) (.cst .nil), none⟩])
 (.seq
 (.reg [⟨some 7, .move (.cst (.int .i64 0)), none⟩])
 (.seq
 (.reg [⟨some 8, .move (.cst (.int .i64 0)), none⟩])
 (.seq
 (.skip)
 (.seq
 (.block 0
 (.loop [0, 1, 6, 7, 8] false L27_1))
 (.seq
 (.seq
 (.reg [⟨some 104, .move (.tmp 7), none⟩,
  ⟨some 105, .bin .neq (.tmp 104) (.cst (.int .i64 0)), none⟩])
 (.cond (.tmp 105)
 (.seq
 (.reg [⟨some 106, .move (.tmp 7), none⟩,
  ⟨some 4, .move (.cst .nil), none⟩,
  ⟨some 5, .move (.tmp 106), none⟩])
 (.ret))
 (.skip)))
 (.seq
 (.reg [⟨some 107, .move (.tmp 6), none⟩,
  ⟨some 4, .move (.tmp 107), none⟩,
  ⟨some 5, .move (.cst (.int .i64 0)), none⟩])
 (.ret))))))))))⟩
theorem c27 : compF Try.prog gl true [(6, (some 2))] [([0, 1, 6, 7, 8], false), ([0, 1, 6, 7, 8, 9, 25], false)] Try.f27 = some F27 := by kernel_rfl
/- tollhouse/invoice.read -/
def F28 : AFn := ⟨46, true, 1, [.cell 2 (some 69), .tmp 3], .seq
 (.reg [⟨some 1, .boxI (.tmp 0), none⟩,
  ⟨some 2, .alloc [(.int .i64 0), (.int .i64 0), (.int .u8 0), (.int .u8 0), (.int .u8 0), (.int .u8 0), (.int .u8 0), (.int .u8 0), (.int .u8 0), (.int .u8 0), (.int .u8 0), (.int .u8 0), (.int .u8 0), (.int .u8 0), (.int .u8 0), (.int .u8 0), (.int .u8 0), (.int .u8 0), (.int .u8 0), (.int .u8 0), (.int .u8 0), (.int .u8 0), (.int .u8 0), (.int .u8 0), (.int .u8 0), (.int .u8 0), (.int .u8 0), (.int .u8 0), (.int .u8 0), (.int .u8 0), (.int .u8 0), (.int .u8 0), (.int .u8 0), (.int .u8 0), (.int .u8 0), (.int .u8 0), (.int .u8 0), (.int .u8 0), (.int .u8 0), (.int .u8 0), (.int .u8 0), (.int .u8 0), (.int .u8 0), (.int .u8 0), (.int .u8 0), (.int .u8 0), (.int .u8 0), (.int .u8 0), (.int .u8 0), (.int .u8 0), (.int .u8 0), (.int .u8 0), (.int .u8 0), (.int .u8 0), (.int .u8 0), (.int .u8 0), (.int .u8 0), (.int .u8 0), (.int .u8 0), (.int .u8 0), (.int .u8 0), (.int .u8 0), (.int .u8 0), (.int .u8 0), (.int .u8 0), (.int .u8 0), (.int .i64 0), (.int .i64 0), (.sc (.string (bs [])))], none⟩,
  ⟨some 3, .move (.cst (.bool false)), none⟩])
 (.seq
 (.reg [⟨some 4, .alloc [(.bool false)], none⟩,
  ⟨none, .store 1 (.tmp 4) (.cst (.bool true)), none⟩])
 (.seq
 (.reg [⟨some 7, .makeFunc (.func 43) [] [(.tmp 1), (.tmp 4)], none⟩,
  ⟨some 5, .move (.tmp 7), none⟩])
 (.seq
 (.reg [⟨some 8, .move (.tmp 5), none⟩,
  ⟨some 9, .call (.tmp 8) [(.cst (.int .u64 1)), (.cst (.int .i64 1))], none⟩,
  ⟨some 10, .call (.cst (.func (.func 45) [] [])) [(.tmp 9)], none⟩,
  ⟨some 11, .move (.tmp 5), none⟩,
  ⟨some 12, .call (.tmp 11) [(.cst (.int .u64 3)), (.cst (.int .i64 1))], none⟩,
  ⟨some 13, .call (.cst (.func (.func 45) [] [])) [(.tmp 12)], none⟩,
  ⟨some 14, .build [(.int .i64 0), (.int .i64 0), (.int .u8 0), (.int .u8 0), (.int .u8 0), (.int .u8 0), (.int .u8 0), (.int .u8 0), (.int .u8 0), (.int .u8 0), (.int .u8 0), (.int .u8 0), (.int .u8 0), (.int .u8 0), (.int .u8 0), (.int .u8 0), (.int .u8 0), (.int .u8 0), (.int .u8 0), (.int .u8 0), (.int .u8 0), (.int .u8 0), (.int .u8 0), (.int .u8 0), (.int .u8 0), (.int .u8 0), (.int .u8 0), (.int .u8 0), (.int .u8 0), (.int .u8 0), (.int .u8 0), (.int .u8 0), (.int .u8 0), (.int .u8 0), (.int .u8 0), (.int .u8 0), (.int .u8 0), (.int .u8 0), (.int .u8 0), (.int .u8 0), (.int .u8 0), (.int .u8 0), (.int .u8 0), (.int .u8 0), (.int .u8 0), (.int .u8 0), (.int .u8 0), (.int .u8 0), (.int .u8 0), (.int .u8 0), (.int .u8 0), (.int .u8 0), (.int .u8 0), (.int .u8 0), (.int .u8 0), (.int .u8 0), (.int .u8 0), (.int .u8 0), (.int .u8 0), (.int .u8 0), (.int .u8 0), (.int .u8 0), (.int .u8 0), (.int .u8 0), (.int .u8 0), (.int .u8 0), (.int .i64 0), (.int .i64 0), (.sc (.string (bs [])))] [(0, 1, (.tmp 10)), (1, 1, (.tmp 13))], none⟩,
  ⟨some 6, .alloc [(.int .i64 0), (.int .i64 0), (.int .u8 0), (.int .u8 0), (.int .u8 0), (.int .u8 0), (.int .u8 0), (.int .u8 0), (.int .u8 0), (.int .u8 0), (.int .u8 0), (.int .u8 0), (.int .u8 0), (.int .u8 0), (.int .u8 0), (.int .u8 0), (.int .u8 0), (.int .u8 0), (.int .u8 0), (.int .u8 0), (.int .u8 0), (.int .u8 0), (.int .u8 0), (.int .u8 0), (.int .u8 0), (.int .u8 0), (.int .u8 0), (.int .u8 0), (.int .u8 0), (.int .u8 0), (.int .u8 0), (.int .u8 0), (.int .u8 0), (.int .u8 0), (.int .u8 0), (.int .u8 0), (.int .u8 0), (.int .u8 0), (.int .u8 0), (.int .u8 0), (.int .u8 0), (.int .u8 0), (.int .u8 0), (.int .u8 0), (.int .u8 0), (.int .u8 0), (.int .u8 0), (.int .u8 0), (.int .u8 0), (.int .u8 0), (.int .u8 0), (.int .u8 0), (.int .u8 0), (.int .u8 0), (.int .u8 0), (.int .u8 0), (.int .u8 0), (.int .u8 0), (.int .u8 0), (.int .u8 0), (.int .u8 0), (.int .u8 0), (.int .u8 0), (.int .u8 0), (.int .u8 0), (.int .u8 0), (.int .i64 0), (.int .i64 0), (.sc (.string (bs [])))], none⟩,
  ⟨none, .store 69 (.tmp 6) (.tmp 14), none⟩])
 (.seq
 (.seq
 (.reg [⟨some 15, .fieldAddr 1 1 (.tmp 6), none⟩,
  ⟨some 16, .load none (.tmp 15), none⟩,
  ⟨some 17, .bin .neq (.tmp 16) (.cst (.int .i64 3)), none⟩])
 (.cond (.tmp 17)
 (.regD [⟨some 18, .fieldAddr 2 32 (.tmp 6), none⟩,
  ⟨some 19, .slice (.arr 32) none (.tmp 18) none none none, none⟩,
  ⟨some 20, .move (.tmp 5), none⟩,
  ⟨some 21, .call (.tmp 20) [(.cst (.int .u64 5)), (.cst (.int .i64 32))], none⟩,
  ⟨some 22, .copy none (.tmp 19) (.tmp 21), none⟩] [(0, 1), (0, 1), (0, 0), (0, 0), (1, 1)])
 (.skip)))
 (.seq
 (.regD [⟨some 23, .fieldAddr 34 32 (.tmp 6), none⟩,
  ⟨some 24, .slice (.arr 32) none (.tmp 23) none none none, none⟩,
  ⟨some 25, .move (.tmp 5), none⟩,
  ⟨some 26, .call (.tmp 25) [(.cst (.int .u64 7)), (.cst (.int .i64 32))], none⟩,
  ⟨some 27, .copy none (.tmp 24) (.tmp 26), none⟩] [(0, 1), (0, 1), (0, 0), (0, 0), (1, 1)])
 (.seq
 (.reg [⟨some 28, .move (.tmp 5), none⟩,
  ⟨some 29, .call (.tmp 28) [(.cst (.int .u64 9)), (.cst (.int .i64 8))], none⟩,
  ⟨some 30, .call (.cst (.func (.func 45) [] [])) [(.tmp 29)], none⟩,
  ⟨some 31, .fieldAddr 66 1 (.tmp 6), none⟩,
  ⟨none, .store 1 (.tmp 31) (.tmp 30), none⟩])
 (.seq
 (.reg [⟨some 32, .move (.tmp 5), none⟩,
  ⟨some 33, .call (.tmp 32) [(.cst (.int .u64 11)), (.cst (.int .i64 4))], none⟩,
  ⟨some 34, .call (.cst (.func (.func 45) [] [])) [(.tmp 33)], none⟩,
  ⟨some 35, .fieldAddr 67 1 (.tmp 6), none⟩,
  ⟨none, .store 1 (.tmp 35) (.tmp 34), none⟩])
 (.seq
 (.reg [⟨some 36, .move (.tmp 5), none⟩,
  ⟨some 37, .call (.tmp 36) [(.cst (.int .u64 13)), (.cst (.int .i64 (-1)))], none⟩,
  ⟨some 38, .convStr (.tmp 37), none⟩,
  ⟨some 39, .fieldAddr 68 1 (.tmp 6), none⟩,
  ⟨none, .store 1 (.tmp 39) (.tmp 38), none⟩])
 (.seq
 (.regD [⟨some 40, .load (some 69) (.tmp 6), none⟩,
  ⟨some 41, .load none (.tmp 4), none⟩,
  ⟨some 42, .move (.tmp 41), none⟩,
  ⟨some 43, .load (some 69) (.tmp 6), some (42, true)⟩,
  ⟨some 44, .call (.cst (.func (.func 9) [] [])) [(.tmp 43)], some (42, true)⟩,
  ⟨some 45, .pick (.tmp 42) (.tmp 44) (.cst (.bool false)), none⟩,
  ⟨none, .store 69 (.tmp 2) (.tmp 40), none⟩,
  ⟨some 3, .move (.tmp 45), none⟩] [(0, 1), (0, 0), (0, 0), (0, 0), (0, 0), (1, 2), (1, 1), (2, 2)])
 (.ret))))))))))⟩
theorem c28 : compF Try.prog gl true [(1, (some 0))] [] Try.f28 = some F28 := by kernel_rfl
/- strings.IndexByte -/
def F29 : AFn := ⟨8, true, 2, [.tmp 4], .seq
 (.reg [⟨some 4, .move (.cst (.int .i64 0)), none⟩])
 (.seq
 (.reg [⟨some 5, .move (.tmp 0), none⟩,
  ⟨some 6, .move (.tmp 1), none⟩,
  ⟨some 7, .call (.cst (.func (.func 46) [] [])) [(.tmp 5), (.tmp 6)], none⟩,
  ⟨some 4, .move (.tmp 7), none⟩])
 (.ret))⟩
theorem c29 : compF Try.prog gl true [] [] Try.f29 = some F29 := by kernel_rfl
def L30_0 : AC := .seq
 (.seq
 (.reg [⟨some 14, .move (.tmp 0), none⟩,
  ⟨some 15, .len (.tmp 14), none⟩,
  ⟨some 16, .bin .gtr (.tmp 15) (.cst (.int .i64 0)), none⟩])
 (.cond (.tmp 16)
 (.skip)
 (.exit 0)))
 (.block 1
 (.seq
 (.seq
 (.reg [⟨some 17, .move (.tmp 6), none⟩,
  ⟨some 18, .len (.tmp 17), none⟩,
  ⟨some 19, .bin .eql (.tmp 18) (.cst (.int .i64 64)), none⟩])
 (.cond (.tmp 19)
 (.seq
 (.reg [⟨some 4, .move (.cst .nil), none⟩,
  ⟨some 5, .move (.cst (.int .i64 3)), none⟩])
 (.ret))
 (.skip)))
 (.seq
 (.reg [⟨some 21, .move (.tmp 0), none⟩,
  ⟨some 22, .call (.cst (.func (.func 47) [] [])) [(.tmp 21)], none⟩,
  ⟨some 20, .move (.tmp 22), none⟩,
  ⟨some 23, .extract (.tmp 20) 0, none⟩,
  ⟨some 24, .extract (.tmp 20) 1, none⟩,
  ⟨some 25, .extract (.tmp 20) 2, none⟩,
  ⟨some 7, .move (.tmp 23), none⟩,
  ⟨some 8, .move (.tmp 24), none⟩,
  ⟨some 9, .move (.tmp 25), none⟩])
 (.seq
 (.seq
 (.reg [⟨some 26, .move (.tmp 9), none⟩,
  ⟨some 27, .bin .neq (.tmp 26) (.cst (.int .i64 0)), none⟩])
 (.cond (.tmp 27)
 (.seq
 (.reg [⟨some 28, .move (.tmp 9), none⟩,
  ⟨some 4, .move (.cst .nil), none⟩,
  ⟨some 5, .move (.tmp 28), none⟩])
 (.ret))
 (.skip)))
 (.seq
 (.seq
 (.reg [⟨some 29, .move (.tmp 6), none⟩,
  ⟨some 30, .len (.tmp 29), none⟩,
  ⟨some 31, .bin .gtr (.tmp 30) (.cst (.int .i64 0)), none⟩,
  ⟨some 32, .move (.tmp 31), none⟩,
  ⟨some 33, .move (.tmp 7), some (32, true)⟩,
  ⟨some 34, .move (.tmp 6), some (32, true)⟩,
  ⟨some 35, .move (.tmp 6), some (32, true)⟩,
  ⟨some 36, .len (.tmp 35), some (32, true)⟩,
  ⟨some 37, .bin .sub (.tmp 36) (.cst (.int .i64 1)), some (32, true)⟩,
  ⟨some 38, .indexAddr .slice (some 2) (.tmp 34) (.tmp 37), some (32, true)⟩,
  ⟨some 39, .fieldAddr 0 1 (.tmp 38), some (32, true)⟩,
  ⟨some 40, .load none (.tmp 39), some (32, true)⟩,
  ⟨some 41, .bin .leq (.tmp 33) (.tmp 40), some (32, true)⟩,
  ⟨some 42, .pick (.tmp 32) (.tmp 41) (.cst (.bool false)), none⟩])
 (.cond (.tmp 42)
 (.seq
 (.reg [⟨some 4, .move (.cst .nil), none⟩,
  ⟨some 5, .move (.cst (.int .i64 11)), none⟩])
 (.ret))
 (.skip)))
 (.seq
 (.reg [⟨some 43, .move (.tmp 0), none⟩,
  ⟨some 44, .move (.tmp 8), none⟩,
  ⟨some 45, .slice .slice none (.tmp 43) (some (.tmp 44)) none none, none⟩,
  ⟨some 0, .move (.tmp 45), none⟩])
 (.seq
 (.reg [⟨some 47, .move (.tmp 0), none⟩,
  ⟨some 48, .call (.cst (.func (.func 47) [] [])) [(.tmp 47)], none⟩,
  ⟨some 46, .move (.tmp 48), none⟩,
  ⟨some 49, .extract (.tmp 46) 0, none⟩,
  ⟨some 50, .extract (.tmp 46) 1, none⟩,
  ⟨some 51, .extract (.tmp 46) 2, none⟩,
  ⟨some 10, .move (.tmp 49), none⟩,
  ⟨some 8, .move (.tmp 50), none⟩,
  ⟨some 9, .move (.tmp 51), none⟩])
 (.seq
 (.seq
 (.reg [⟨some 52, .move (.tmp 9), none⟩,
  ⟨some 53, .bin .neq (.tmp 52) (.cst (.int .i64 0)), none⟩])
 (.cond (.tmp 53)
 (.seq
 (.reg [⟨some 54, .move (.tmp 9), none⟩,
  ⟨some 4, .move (.cst .nil), none⟩,
  ⟨some 5, .move (.tmp 54), none⟩])
 (.ret))
 (.skip)))
 (.seq
 (.reg [⟨some 55, .move (.tmp 0), none⟩,
  ⟨some 56, .move (.tmp 8), none⟩,
  ⟨some 57, .slice .slice none (.tmp 55) (some (.tmp 56)) none none, none⟩,
  ⟨some 0, .move (.tmp 57), none⟩])
 (.seq
 (.seq
 (.reg [⟨some 58, .move (.tmp 10), none⟩,
  ⟨some 59, .move (.tmp 0), none⟩,
  ⟨some 60, .len (.tmp 59), none⟩,
  ⟨some 61, .convInt .u64 (.tmp 60), none⟩,
  ⟨some 62, .bin .gtr (.tmp 58) (.tmp 61), none⟩])
 (.cond (.tmp 62)
 (.seq
 (.reg [⟨some 4, .move (.cst .nil), none⟩,
  ⟨some 5, .move (.cst (.int .i64 10)), none⟩])
 (.ret))
 (.skip)))
 (.seq
 (.seq
 (.reg [⟨some 63, .move (.tmp 7), none⟩,
  ⟨some 64, .bin .rem (.tmp 63) (.cst (.int .u64 2)), none⟩,
  ⟨some 65, .bin .eql (.tmp 64) (.cst (.int .u64 0)), none⟩,
  ⟨some 66, .move (.tmp 65), none⟩,
  ⟨some 67, .move (.tmp 1), some (66, true)⟩,
  ⟨some 68, .move (.tmp 7), some (66, true)⟩,
  ⟨some 69, .call (.cst (.func (.func 48) [] [])) [(.tmp 67), (.tmp 68)], some (66, true)⟩,
  ⟨some 70, .un .not (.tmp 69), some (66, true)⟩,
  ⟨some 71, .pick (.tmp 66) (.tmp 70) (.cst (.bool false)), none⟩])
 (.cond (.tmp 71)
 (.seq
 (.reg [⟨some 4, .move (.cst .nil), none⟩,
  ⟨some 5, .move (.cst (.int .i64 12)), none⟩])
 (.ret))
 (.skip)))
 (.seq
 (.reg [⟨some 72, .move (.tmp 6), none⟩,
  ⟨some 73, .move (.tmp 7), none⟩,
  ⟨some 74, .buildSlice none (.int .u8 0) 0 [], none⟩,
  ⟨some 75, .move (.tmp 0), none⟩,
  ⟨some 76, .move (.tmp 10), none⟩,
  ⟨some 77, .slice .slice none (.tmp 75) none (some (.tmp 76)) none, none⟩,
  ⟨some 78, .append none 1 (.tmp 74) (.tmp 77), none⟩,
  ⟨some 79, .build [(.int .u64 0), .nil] [(0, 1, (.tmp 73)), (1, 1, (.tmp 78))], none⟩,
  ⟨some 80, .buildSlice (some 2) (.agg [(.int .u64 0), .nil]) 1 [(0, (.tmp 79))], none⟩,
  ⟨some 81, .append (some 2) 32 (.tmp 72) (.tmp 80), none⟩,
  ⟨some 6, .move (.tmp 81), none⟩])
 (.reg [⟨some 82, .move (.tmp 0), none⟩,
  ⟨some 83, .move (.tmp 10), none⟩,
  ⟨some 84, .slice .slice none (.tmp 82) (some (.tmp 83)) none none, none⟩,
  ⟨some 0, .move (.tmp 84), none⟩])))))))))))))
/- tollhouse/tollhouseref01.Decode -/
def F30 : AFn := ⟨86, true, 2, [.tmp 4, .tmp 5], .seq
 (.reg [⟨some 4, .move (.cst .nil), none⟩,
  ⟨some 5, .move (.cst (.int .i64 0)), none⟩])
 (.seq
 (.seq
 (.reg [⟨some 11, .move (.tmp 0), none⟩,
  ⟨some 12, .len (.tmp 11), none⟩,
  ⟨some 13, .bin .gtr (.tmp 12) (.cst (.int .i64 65536)), none⟩])
 (.cond (.tmp 13)
 (.seq
 (.reg [⟨some 4, .move (.cst .nil), none⟩,
  ⟨some 5, .move (.cst (.int .i64 3)), none⟩])
 (.ret))
 (.skip)))
 (.seq
 (.reg [⟨some 6, .acc (some 2) (.cst .nil), none⟩])
 (.seq
 (.block 0
 (.loop [0, 1, 6] false L30_0))
 (.seq
 (.reg [⟨some 85, .move (.tmp 6), none⟩,
  ⟨some 4, .move (.tmp 85), none⟩,
  ⟨some 5, .move (.cst (.int .i64 0)), none⟩])
 (.ret)))))⟩
theorem c30 : compF Try.prog gl true [(6, (some 2))] [([0, 1, 6], false)] Try.f30 = some F30 := by kernel_rfl
def L31_0 : AC := .seq
 (.seq
 (.reg [⟨some 9, .move (.tmp 8), none⟩,
  ⟨some 10, .move (.tmp 0), none⟩,
  ⟨some 11, .len (.tmp 10), none⟩,
  ⟨some 12, .bin .lss (.tmp 9) (.tmp 11), none⟩])
 (.cond (.tmp 12)
 (.skip)
 (.exit 0)))
 (.seq
 (.block 1
 (.seq
 (.reg [⟨some 15, .move (.tmp 0), none⟩,
  ⟨some 16, .move (.tmp 8), none⟩,
  ⟨some 17, .indexAddr .slice (some 2) (.tmp 15) (.tmp 16), none⟩,
  ⟨some 18, .fieldAddr 0 1 (.tmp 17), none⟩,
  ⟨some 19, .load none (.tmp 18), none⟩,
  ⟨some 20, .move (.tmp 1), none⟩,
  ⟨some 21, .bin .eql (.tmp 19) (.tmp 20), none⟩])
 (.cond (.tmp 21)
 (.seq
 (.regD [⟨some 22, .move (.tmp 0), none⟩,
  ⟨some 23, .move (.tmp 8), none⟩,
  ⟨some 24, .indexAddr .slice (some 2) (.tmp 22) (.tmp 23), none⟩,
  ⟨some 25, .fieldAddr 1 1 (.tmp 24), none⟩,
  ⟨some 26, .load none (.tmp 25), none⟩,
  ⟨some 27, .move (.tmp 2), none⟩,
  ⟨some 28, .bin .lss (.tmp 27) (.cst (.int .i64 0)), none⟩,
  ⟨some 29, .move (.tmp 28), none⟩,
  ⟨some 30, .move (.tmp 0), some (29, false)⟩,
  ⟨some 31, .move (.tmp 8), some (29, false)⟩,
  ⟨some 32, .indexAddr .slice (some 2) (.tmp 30) (.tmp 31), some (29, false)⟩,
  ⟨some 33, .fieldAddr 1 1 (.tmp 32), some (29, false)⟩,
  ⟨some 34, .load none (.tmp 33), some (29, false)⟩,
  ⟨some 35, .len (.tmp 34), some (29, false)⟩,
  ⟨some 36, .move (.tmp 2), some (29, false)⟩,
  ⟨some 37, .bin .eql (.tmp 35) (.tmp 36), some (29, false)⟩,
  ⟨some 38, .pick (.tmp 29) (.cst (.bool true)) (.tmp 37), none⟩,
  ⟨some 6, .move (.tmp 26), none⟩,
  ⟨some 7, .move (.tmp 38), none⟩] [(0, 0), (0, 0), (0, 0), (0, 0), (0, 0), (0, 0), (0, 0), (0, 0), (0, 0), (0, 0), (0, 0), (0, 0), (0, 0), (0, 0), (0, 0), (0, 0), (0, 0), (0, 0), (0, 0)])
 (.ret))
 (.skip))))
 (.reg [⟨some 13, .move (.tmp 8), none⟩,
  ⟨some 14, .bin .add (.tmp 13) (.cst (.int .i64 1)), none⟩,
  ⟨some 8, .move (.tmp 14), none⟩]))
/- tollhouse/tollhouseref09.find -/
def F31 : AFn := ⟨39, true, 3, [.tmp 6, .tmp 7], .seq
 (.reg [⟨some 6, .move (.cst .nil), none⟩,
  ⟨some 7, .move (.cst (.bool false)), none⟩])
 (.seq
 (.seq
 (.reg [⟨some 8, .move (.cst (.int .i64 0)), none⟩])
 (.block 0
 (.loop [0, 1, 2, 8] true L31_0)))
 (.seq
 (.reg [⟨some 6, .move (.cst .nil), none⟩,
  ⟨some 7, .move (.cst (.bool false)), none⟩])
 (.ret)))⟩
theorem c31 : compF Try.prog gl true [] [([0, 1, 2, 8], true)] Try.f31 = some F31 := by kernel_rfl
def L32_0 : AC := .seq
 (.seq
 (.reg [⟨some 5, .move (.tmp 4), none⟩,
  ⟨some 6, .move (.tmp 0), none⟩,
  ⟨some 7, .len (.tmp 6), none⟩,
  ⟨some 8, .bin .lss (.tmp 5) (.tmp 7), none⟩])
 (.cond (.tmp 8)
 (.skip)
 (.exit 0)))
 (.seq
 (.block 1
 (.reg [⟨some 11, .move (.tmp 3), none⟩,
  ⟨some 12, .bin .mul (.tmp 11) (.cst (.int .i64 256)), none⟩,
  ⟨some 13, .move (.tmp 0), none⟩,
  ⟨some 14, .move (.tmp 4), none⟩,
  ⟨some 15, .indexAddr .slice none (.tmp 13) (.tmp 14), none⟩,
  ⟨some 16, .load none (.tmp 15), none⟩,
  ⟨some 17, .convInt .i64 (.tmp 16), none⟩,
  ⟨some 18, .bin .add (.tmp 12) (.tmp 17), none⟩,
  ⟨some 3, .move (.tmp 18), none⟩]))
 (.reg [⟨some 9, .move (.tmp 4), none⟩,
  ⟨some 10, .bin .add (.tmp 9) (.cst (.int .i64 1)), none⟩,
  ⟨some 4, .move (.tmp 10), none⟩]))
/- tollhouse/tollhouseref09.number -/
def F32 : AFn := ⟨20, true, 1, [.tmp 2], .seq
 (.reg [⟨some 2, .move (.cst (.int .i64 0)), none⟩])
 (.seq
 (.reg [⟨some 3, .move (.cst (.int .i64 0)), none⟩])
 (.seq
 (.seq
 (.reg [⟨some 4, .move (.cst (.int .i64 0)), none⟩])
 (.block 0
 (.loop [0, 3, 4] true L32_0)))
 (.seq
 (.reg [⟨some 19, .move (.tmp 3), none⟩,
  ⟨some 2, .move (.tmp 19), none⟩])
 (.ret))))⟩
theorem c32 : compF Try.prog gl true [] [([0, 3, 4], true)] Try.f32 = some F32 := by kernel_rfl
def L33_0 : AC := .seq
 (.seq
 (.reg [⟨some 5, .move (.tmp 4), none⟩,
  ⟨some 6, .bin .lss (.tmp 5) (.cst (.int .i64 32)), none⟩,
  ⟨some 7, .move (.tmp 6), none⟩,
  ⟨some 8, .move (.tmp 4), some (7, true)⟩,
  ⟨some 9, .move (.tmp 0), some (7, true)⟩,
  ⟨some 10, .len (.tmp 9), some (7, true)⟩,
  ⟨some 11, .bin .lss (.tmp 8) (.tmp 10), some (7, true)⟩,
  ⟨some 12, .pick (.tmp 7) (.tmp 11) (.cst (.bool false)), none⟩])
 (.cond (.tmp 12)
 (.skip)
 (.exit 0)))
 (.seq
 (.block 1
 (.reg [⟨some 15, .move (.tmp 4), none⟩,
  ⟨some 16, .move (.tmp 0), none⟩,
  ⟨some 17, .move (.tmp 4), none⟩,
  ⟨some 18, .indexAddr .slice none (.tmp 16) (.tmp 17), none⟩,
  ⟨some 19, .load none (.tmp 18), none⟩,
  ⟨some 20, .indexAddr (.arr 32) none (.tmp 3) (.tmp 15), none⟩,
  ⟨none, .store 1 (.tmp 20) (.tmp 19), none⟩]))
 (.reg [⟨some 13, .move (.tmp 4), none⟩,
  ⟨some 14, .bin .add (.tmp 13) (.cst (.int .i64 1)), none⟩,
  ⟨some 4, .move (.tmp 14), none⟩]))
/- tollhouse/tollhouseref09.hash -/
def F33 : AFn := ⟨22, true, 1, [.cell 2 (some 32)], .seq
 (.reg [⟨some 2, .alloc [(.int .u8 0), (.int .u8 0), (.int .u8 0), (.int .u8 0), (.int .u8 0), (.int .u8 0), (.int .u8 0), (.int .u8 0), (.int .u8 0), (.int .u8 0), (.int .u8 0), (.int .u8 0), (.int .u8 0), (.int .u8 0), (.int .u8 0), (.int .u8 0), (.int .u8 0), (.int .u8 0), (.int .u8 0), (.int .u8 0), (.int .u8 0), (.int .u8 0), (.int .u8 0), (.int .u8 0), (.int .u8 0), (.int .u8 0), (.int .u8 0), (.int .u8 0), (.int .u8 0), (.int .u8 0), (.int .u8 0), (.int .u8 0)], none⟩])
 (.seq
 (.reg [⟨some 3, .alloc [(.int .u8 0), (.int .u8 0), (.int .u8 0), (.int .u8 0), (.int .u8 0), (.int .u8 0), (.int .u8 0), (.int .u8 0), (.int .u8 0), (.int .u8 0), (.int .u8 0), (.int .u8 0), (.int .u8 0), (.int .u8 0), (.int .u8 0), (.int .u8 0), (.int .u8 0), (.int .u8 0), (.int .u8 0), (.int .u8 0), (.int .u8 0), (.int .u8 0), (.int .u8 0), (.int .u8 0), (.int .u8 0), (.int .u8 0), (.int .u8 0), (.int .u8 0), (.int .u8 0), (.int .u8 0), (.int .u8 0), (.int .u8 0)], none⟩])
 (.seq
 (.seq
 (.reg [⟨some 4, .move (.cst (.int .i64 0)), none⟩])
 (.block 0
 (.loop [0, 2, 3, 4] true L33_0)))
 (.seq
 (.reg [⟨some 21, .load (some 32) (.tmp 3), none⟩,
  ⟨none, .store 32 (.tmp 2) (.tmp 21), none⟩])
 (.ret))))⟩
theorem c33 : compF Try.prog gl true [] [([0, 2, 3, 4], true)] Try.f33 = some F33 := by kernel_rfl
/- tollhouse/bigsize.Size -/
def F34 : AFn := ⟨12, true, 1, [.tmp 2], .seq
 (.reg [⟨some 2, .move (.cst (.int .i64 0)), none⟩])
 (.seq
 (.reg [⟨some 6, .move (.tmp 0), none⟩,
  ⟨some 7, .call (.cst (.func (.func 49) [] [])) [(.tmp 6)], none⟩,
  ⟨some 5, .move (.tmp 7), none⟩,
  ⟨some 8, .extract (.tmp 5) 0, none⟩,
  ⟨some 9, .extract (.tmp 5) 1, none⟩,
  ⟨some 3, .move (.tmp 8), none⟩,
  ⟨some 4, .move (.tmp 9), none⟩])
 (.seq
 (.reg [⟨some 10, .move (.tmp 4), none⟩,
  ⟨some 11, .bin .add (.tmp 10) (.cst (.int .i64 1)), none⟩,
  ⟨some 2, .move (.tmp 11), none⟩])
 (.ret)))⟩
theorem c34 : compF Try.prog gl true [] [] Try.f34 = some F34 := by kernel_rfl
def L35_0 : AC := .seq
 (.seq
 (.reg [⟨some 31, .move (.tmp 7), none⟩,
  ⟨some 32, .bin .geq (.tmp 31) (.cst (.int .i64 0)), none⟩])
 (.cond (.tmp 32)
 (.skip)
 (.exit 0)))
 (.seq
 (.block 1
 (.reg [⟨some 35, .move (.tmp 5), none⟩,
  ⟨some 36, .move (.tmp 1), none⟩,
  ⟨some 37, .move (.tmp 7), none⟩,
  ⟨some 38, .bin .mul (.cst (.int .i64 8)) (.tmp 37), none⟩,
  ⟨some 39, .bin .shr (.tmp 36) (.tmp 38), none⟩,
  ⟨some 40, .convInt .u8 (.tmp 39), none⟩,
  ⟨some 41, .buildSlice none (.int .u8 0) 1 [(0, (.tmp 40))], none⟩,
  ⟨some 42, .append none 1 (.tmp 35) (.tmp 41), none⟩,
  ⟨some 5, .move (.tmp 42), none⟩]))
 (.reg [⟨some 33, .move (.tmp 7), none⟩,
  ⟨some 34, .bin .sub (.tmp 33) (.cst (.int .i64 1)), none⟩,
  ⟨some 7, .move (.tmp 34), none⟩]))
/- tollhouse/bigsize.Put -/
def F35 : AFn := ⟨44, true, 2, [.tmp 4], .seq
 (.reg [⟨some 4, .move (.cst .nil), none⟩])
 (.seq
 (.reg [⟨some 8, .move (.tmp 0), none⟩,
  ⟨some 9, .call (.cst (.func (.func 42) [] [])) [(.tmp 8)], none⟩,
  ⟨some 10, .move (.tmp 1), none⟩,
  ⟨some 11, .call (.cst (.func (.func 34) [] [])) [(.tmp 10)], none⟩,
  ⟨some 12, .call (.cst (.func (.func 50) [] [])) [(.tmp 9), (.tmp 11)], none⟩,
  ⟨some 5, .move (.tmp 12), none⟩])
 (.seq
 (.reg [⟨some 14, .move (.tmp 1), none⟩,
  ⟨some 15, .call (.cst (.func (.func 49) [] [])) [(.tmp 14)], none⟩,
  ⟨some 13, .move (.tmp 15), none⟩,
  ⟨some 16, .extract (.tmp 13) 0, none⟩,
  ⟨some 17, .extract (.tmp 13) 1, none⟩,
  ⟨some 6, .move (.tmp 16), none⟩,
  ⟨some 7, .move (.tmp 17), none⟩])
 (.seq
 (.seq
 (.reg [⟨some 18, .move (.tmp 7), none⟩,
  ⟨some 19, .bin .eql (.tmp 18) (.cst (.int .i64 0)), none⟩])
 (.cond (.tmp 19)
 (.seq
 (.reg [⟨some 20, .move (.tmp 5), none⟩,
  ⟨some 21, .move (.tmp 1), none⟩,
  ⟨some 22, .convInt .u8 (.tmp 21), none⟩,
  ⟨some 23, .buildSlice none (.int .u8 0) 1 [(0, (.tmp 22))], none⟩,
  ⟨some 24, .append none 1 (.tmp 20) (.tmp 23), none⟩,
  ⟨some 4, .move (.tmp 24), none⟩])
 (.ret))
 (.skip)))
 (.seq
 (.reg [⟨some 25, .move (.tmp 5), none⟩,
  ⟨some 26, .move (.tmp 6), none⟩,
  ⟨some 27, .buildSlice none (.int .u8 0) 1 [(0, (.tmp 26))], none⟩,
  ⟨some 28, .append none 1 (.tmp 25) (.tmp 27), none⟩,
  ⟨some 5, .move (.tmp 28), none⟩])
 (.seq
 (.seq
 (.reg [⟨some 29, .move (.tmp 7), none⟩,
  ⟨some 30, .bin .sub (.tmp 29) (.cst (.int .i64 1)), none⟩,
  ⟨some 7, .move (.tmp 30), none⟩])
 (.block 0
 (.loop [1, 5, 7] true L35_0)))
 (.seq
 (.reg [⟨some 43, .move (.tmp 5), none⟩,
  ⟨some 4, .move (.tmp 43), none⟩])
 (.ret)))))))⟩
theorem c35 : compF Try.prog gl true [] [([1, 5, 7], true)] Try.f35 = some F35 := by kernel_rfl
/- tollhouse/keccak.Sum -/
def F36 : AFn := ⟨13, true, 1, [.cell 2 (some 32)], .seq
 (.reg [⟨some 2, .alloc [(.int .u8 0), (.int .u8 0), (.int .u8 0), (.int .u8 0), (.int .u8 0), (.int .u8 0), (.int .u8 0), (.int .u8 0), (.int .u8 0), (.int .u8 0), (.int .u8 0), (.int .u8 0), (.int .u8 0), (.int .u8 0), (.int .u8 0), (.int .u8 0), (.int .u8 0), (.int .u8 0), (.int .u8 0), (.int .u8 0), (.int .u8 0), (.int .u8 0), (.int .u8 0), (.int .u8 0), (.int .u8 0), (.int .u8 0), (.int .u8 0), (.int .u8 0), (.int .u8 0), (.int .u8 0), (.int .u8 0), (.int .u8 0)], none⟩])
 (.seq
 (.reg [⟨some 3, .alloc [(.int .u8 0), (.int .u8 0), (.int .u8 0), (.int .u8 0), (.int .u8 0), (.int .u8 0), (.int .u8 0), (.int .u8 0), (.int .u8 0), (.int .u8 0), (.int .u8 0), (.int .u8 0), (.int .u8 0), (.int .u8 0), (.int .u8 0), (.int .u8 0), (.int .u8 0), (.int .u8 0), (.int .u8 0), (.int .u8 0), (.int .u8 0), (.int .u8 0), (.int .u8 0), (.int .u8 0), (.int .u8 0), (.int .u8 0), (.int .u8 0), (.int .u8 0), (.int .u8 0), (.int .u8 0), (.int .u8 0), (.int .u8 0)], none⟩])
 (.seq
 (.reg [⟨some 5, .call (.cst (.func (.func 51) [] [])) [(.cst (.int .i64 136))], none⟩,
  ⟨some 4, .move (.tmp 5), none⟩])
 (.seq
 (.reg [⟨some 6, .move (.tmp 4), none⟩,
  ⟨some 7, .move (.tmp 0), none⟩,
  ⟨some 8, .call (.cst (.func (.func 52) [] [])) [(.tmp 6), (.tmp 7), (.cst (.int .u8 6))], none⟩])
 (.seq
 (.reg [⟨some 9, .move (.tmp 4), none⟩,
  ⟨some 10, .slice (.arr 32) none (.tmp 3) none none none, none⟩,
  ⟨some 11, .call (.cst (.func (.func 53) [] [])) [(.tmp 9), (.tmp 10)], none⟩])
 (.seq
 (.reg [⟨some 12, .load (some 32) (.tmp 3), none⟩,
  ⟨none, .store 32 (.tmp 2) (.tmp 12), none⟩])
 (.ret))))))⟩
theorem c36 : compF Try.prog gl true [] [] Try.f36 = some F36 := by kernel_rfl
def L37_0 : AC := .seq
 (.seq
 (.reg [⟨some 23, .move (.tmp 5), none⟩,
  ⟨some 24, .bin .geq (.tmp 23) (.cst (.int .i64 0)), none⟩])
 (.cond (.tmp 24)
 (.skip)
 (.exit 1)))
 (.seq
 (.block 2
 (.reg [⟨some 27, .move (.tmp 4), none⟩,
  ⟨some 28, .move (.tmp 0), none⟩,
  ⟨some 29, .move (.tmp 5), none⟩,
  ⟨some 30, .bin .mul (.cst (.int .i64 8)) (.tmp 29), none⟩,
  ⟨some 31, .bin .shr (.tmp 28) (.tmp 30), none⟩,
  ⟨some 32, .convInt .u8 (.tmp 31), none⟩,
  ⟨some 33, .buildSlice none (.int .u8 0) 1 [(0, (.tmp 32))], none⟩,
  ⟨some 34, .append none 1 (.tmp 27) (.tmp 33), none⟩,
  ⟨some 4, .move (.tmp 34), none⟩]))
 (.reg [⟨some 25, .move (.tmp 5), none⟩,
  ⟨some 26, .bin .sub (.tmp 25) (.cst (.int .i64 1)), none⟩,
  ⟨some 5, .move (.tmp 26), none⟩]))
/- tollhouse/tollhouseref01.Number -/
def F37 : AFn := ⟨36, true, 1, [.tmp 2], .seq
 (.reg [⟨some 2, .move (.cst .nil), none⟩])
 (.seq
 (.reg [⟨some 3, .move (.cst (.int .i64 0)), none⟩])
 (.seq
 (.reg [⟨some 4, .acc none (.cst .nil), none⟩])
 (.seq
 (.block 0
 (.seq
 (.reg [⟨some 8, .move (.tmp 0), none⟩,
  ⟨some 9, .bin .lss (.tmp 8) (.cst (.int .u64 253)), none⟩,
  ⟨some 7, .move (.tmp 9), none⟩])
 (.cond (.tmp 7)
 (.seq
 (.reg [⟨some 10, .move (.tmp 0), none⟩,
  ⟨some 11, .convInt .u8 (.tmp 10), none⟩,
  ⟨some 12, .buildSlice none (.int .u8 0) 1 [(0, (.tmp 11))], none⟩,
  ⟨some 2, .move (.tmp 12), none⟩])
 (.ret))
 (.seq
 (.reg [⟨some 14, .move (.tmp 0), none⟩,
  ⟨some 15, .bin .leq (.tmp 14) (.cst (.int .u64 65535)), none⟩,
  ⟨some 13, .move (.tmp 15), none⟩])
 (.cond (.tmp 13)
 (.reg [⟨some 16, .buildSlice none (.int .u8 0) 1 [(0, (.cst (.int .u8 253)))], none⟩,
  ⟨some 4, .move (.tmp 16), none⟩,
  ⟨some 3, .move (.cst (.int .i64 2)), none⟩])
 (.seq
 (.reg [⟨some 18, .move (.tmp 0), none⟩,
  ⟨some 19, .bin .leq (.tmp 18) (.cst (.int .u64 4294967295)), none⟩,
  ⟨some 17, .move (.tmp 19), none⟩])
 (.cond (.tmp 17)
 (.reg [⟨some 20, .buildSlice none (.int .u8 0) 1 [(0, (.cst (.int .u8 254)))], none⟩,
  ⟨some 4, .move (.tmp 20), none⟩,
  ⟨some 3, .move (.cst (.int .i64 4)), none⟩])
 (.reg [⟨some 6, .buildSlice none (.int .u8 0) 1 [(0, (.cst (.int .u8 255)))], none⟩,
  ⟨some 4, .move (.tmp 6), none⟩,
  ⟨some 3, .move (.cst (.int .i64 8)), none⟩]))))))))
 (.seq
 (.seq
 (.reg [⟨some 21, .move (.tmp 3), none⟩,
  ⟨some 22, .bin .sub (.tmp 21) (.cst (.int .i64 1)), none⟩,
  ⟨some 5, .move (.tmp 22), none⟩])
 (.block 1
 (.loop [0, 4, 5] false L37_0)))
 (.seq
 (.reg [⟨some 35, .move (.tmp 4), none⟩,
  ⟨some 2, .move (.tmp 35), none⟩])
 (.ret))))))⟩
theorem c37 : compF Try.prog gl true [(4, none)] [([0, 4, 5], false)] Try.f37 = some F37 := by kernel_rfl
def L38_0 : AC := .seq
 (.seq
 (.reg [⟨some 8, .move (.tmp 5), none⟩,
  ⟨some 9, .bin .lss (.tmp 8) (.cst (.int .i64 32)), none⟩])
 (.cond (.tmp 9)
 (.skip)
 (.exit 0)))
 (.seq
 (.block 1
 (.reg [⟨some 12, .move (.tmp 5), none⟩,
  ⟨some 13, .move (.tmp 4), none⟩,
  ⟨some 14, .move (.tmp 5), none⟩,
  ⟨some 15, .indexAddr .slice none (.tmp 13) (.tmp 14), none⟩,
  ⟨some 16, .load none (.tmp 15), none⟩,
  ⟨some 17, .indexAddr (.arr 32) none (.tmp 3) (.tmp 12), none⟩,
  ⟨none, .store 1 (.tmp 17) (.tmp 16), none⟩]))
 (.reg [⟨some 10, .move (.tmp 5), none⟩,
  ⟨some 11, .bin .add (.tmp 10) (.cst (.int .i64 1)), none⟩,
  ⟨some 5, .move (.tmp 11), none⟩]))
/- tollhouse/tollhouseref03.Sum -/
def F38 : AFn := ⟨19, true, 1, [.cell 2 (some 32)], .seq
 (.reg [⟨some 2, .alloc [(.int .u8 0), (.int .u8 0), (.int .u8 0), (.int .u8 0), (.int .u8 0), (.int .u8 0), (.int .u8 0), (.int .u8 0), (.int .u8 0), (.int .u8 0), (.int .u8 0), (.int .u8 0), (.int .u8 0), (.int .u8 0), (.int .u8 0), (.int .u8 0), (.int .u8 0), (.int .u8 0), (.int .u8 0), (.int .u8 0), (.int .u8 0), (.int .u8 0), (.int .u8 0), (.int .u8 0), (.int .u8 0), (.int .u8 0), (.int .u8 0), (.int .u8 0), (.int .u8 0), (.int .u8 0), (.int .u8 0), (.int .u8 0)], none⟩])
 (.seq
 (.reg [⟨some 3, .alloc [(.int .u8 0), (.int .u8 0), (.int .u8 0), (.int .u8 0), (.int .u8 0), (.int .u8 0), (.int .u8 0), (.int .u8 0), (.int .u8 0), (.int .u8 0), (.int .u8 0), (.int .u8 0), (.int .u8 0), (.int .u8 0), (.int .u8 0), (.int .u8 0), (.int .u8 0), (.int .u8 0), (.int .u8 0), (.int .u8 0), (.int .u8 0), (.int .u8 0), (.int .u8 0), (.int .u8 0), (.int .u8 0), (.int .u8 0), (.int .u8 0), (.int .u8 0), (.int .u8 0), (.int .u8 0), (.int .u8 0), (.int .u8 0)], none⟩])
 (.seq
 (.reg [⟨some 6, .move (.tmp 0), none⟩,
  ⟨some 7, .call (.cst (.func (.func 54) [] [])) [(.cst (.int .i64 32)), (.cst (.int .i64 136)), (.cst (.int .u8 6)), (.tmp 6)], none⟩,
  ⟨some 4, .move (.tmp 7), none⟩])
 (.seq
 (.seq
 (.reg [⟨some 5, .move (.cst (.int .i64 0)), none⟩])
 (.block 0
 (.loop [2, 3, 4, 5] true L38_0)))
 (.seq
 (.reg [⟨some 18, .load (some 32) (.tmp 3), none⟩,
  ⟨none, .store 32 (.tmp 2) (.tmp 18), none⟩])
 (.ret)))))⟩
theorem c38 : compF Try.prog gl true [] [([2, 3, 4, 5], true)] Try.f38 = some F38 := by kernel_rfl
/- internal/stringslite.CutPrefix -/
def F39 : AFn := ⟨15, true, 2, [.tmp 4, .tmp 5], .seq
 (.reg [⟨some 4, .move (.cst (.sc (.string (bs [])))), none⟩,
  ⟨some 5, .move (.cst (.bool false)), none⟩])
 (.seq
 (.seq
 (.reg [⟨some 6, .move (.tmp 0), none⟩,
  ⟨some 7, .move (.tmp 1), none⟩,
  ⟨some 8, .call (.cst (.func (.func 55) [] [])) [(.tmp 6), (.tmp 7)], none⟩,
  ⟨some 9, .un .not (.tmp 8), none⟩])
 (.cond (.tmp 9)
 (.seq
 (.reg [⟨some 10, .move (.tmp 0), none⟩,
  ⟨some 4, .move (.tmp 10), none⟩,
  ⟨some 5, .move (.cst (.bool false)), none⟩])
 (.ret))
 (.skip)))
 (.seq
 (.reg [⟨some 11, .move (.tmp 0), none⟩,
  ⟨some 12, .move (.tmp 1), none⟩,
  ⟨some 13, .lenT (.tmp 12), none⟩,
  ⟨some 14, .slice .str none (.tmp 11) (some (.tmp 13)) none none, none⟩,
  ⟨some 4, .move (.tmp 14), none⟩,
  ⟨some 5, .move (.cst (.bool true)), none⟩])
 (.ret)))⟩
theorem c39 : compF Try.prog gl true [] [] Try.f39 = some F39 := by kernel_rfl
def L40_0 : AC := .seq
 (.reg [⟨some 35, .bin .lss (.tmp 34) (.tmp 33), none⟩])
 (.seq
 (.cond (.tmp 35)
 (.skip)
 (.exit 0))
 (.seq
 (.block 1
 (.seq
 (.reg [⟨some 36, .indexAddr .slice none (.tmp 32) (.tmp 34), none⟩,
  ⟨some 37, .load none (.tmp 36), none⟩,
  ⟨some 8, .move (.tmp 37), none⟩])
 (.reg [⟨some 38, .move (.tmp 6), none⟩,
  ⟨some 39, .bin .shl (.tmp 38) (.cst (.int .u64 8)), none⟩,
  ⟨some 40, .move (.tmp 8), none⟩,
  ⟨some 41, .convInt .u64 (.tmp 40), none⟩,
  ⟨some 42, .bin .or (.tmp 39) (.tmp 41), none⟩,
  ⟨some 6, .move (.tmp 42), none⟩])))
 (.reg [⟨some 43, .bin .add (.tmp 34) (.cst (.int .i64 1)), none⟩,
  ⟨some 34, .move (.tmp 43), none⟩])))
/- tollhouse/bigsize.Read -/
def F40 : AFn := ⟨52, true, 1, [.tmp 2, .tmp 3, .tmp 4], .seq
 (.reg [⟨some 2, .move (.cst (.int .u64 0)), none⟩,
  ⟨some 3, .move (.cst (.int .i64 0)), none⟩,
  ⟨some 4, .move (.cst (.int .i64 0)), none⟩])
 (.seq
 (.seq
 (.reg [⟨some 9, .move (.tmp 0), none⟩,
  ⟨some 10, .len (.tmp 9), none⟩,
  ⟨some 11, .bin .eql (.tmp 10) (.cst (.int .i64 0)), none⟩])
 (.cond (.tmp 11)
 (.seq
 (.reg [⟨some 2, .move (.cst (.int .u64 0)), none⟩,
  ⟨some 3, .move (.cst (.int .i64 0)), none⟩,
  ⟨some 4, .move (.cst (.int .i64 10)), none⟩])
 (.ret))
 (.skip)))
 (.seq
 (.seq
 (.reg [⟨some 12, .move (.tmp 0), none⟩,
  ⟨some 13, .indexAddr .slice none (.tmp 12) (.cst (.int .i64 0)), none⟩,
  ⟨some 14, .load none (.tmp 13), none⟩,
  ⟨some 15, .bin .lss (.tmp 14) (.cst (.int .u8 253)), none⟩])
 (.cond (.tmp 15)
 (.seq
 (.reg [⟨some 16, .move (.tmp 0), none⟩,
  ⟨some 17, .indexAddr .slice none (.tmp 16) (.cst (.int .i64 0)), none⟩,
  ⟨some 18, .load none (.tmp 17), none⟩,
  ⟨some 19, .convInt .u64 (.tmp 18), none⟩,
  ⟨some 2, .move (.tmp 19), none⟩,
  ⟨some 3, .move (.cst (.int .i64 1)), none⟩,
  ⟨some 4, .move (.cst (.int .i64 0)), none⟩])
 (.ret))
 (.skip)))
 (.seq
 (.reg [⟨some 20, .move (.tmp 0), none⟩,
  ⟨some 21, .indexAddr .slice none (.tmp 20) (.cst (.int .i64 0)), none⟩,
  ⟨some 22, .load none (.tmp 21), none⟩,
  ⟨some 23, .bin .sub (.tmp 22) (.cst (.int .u8 253)), none⟩,
  ⟨some 24, .bin .shl (.cst (.int .i64 2)) (.tmp 23), none⟩,
  ⟨some 5, .move (.tmp 24), none⟩])
 (.seq
 (.seq
 (.reg [⟨some 25, .move (.tmp 0), none⟩,
  ⟨some 26, .len (.tmp 25), none⟩,
  ⟨some 27, .move (.tmp 5), none⟩,
  ⟨some 28, .bin .leq (.tmp 26) (.tmp 27), none⟩])
 (.cond (.tmp 28)
 (.seq
 (.reg [⟨some 2, .move (.cst (.int .u64 0)), none⟩,
  ⟨some 3, .move (.cst (.int .i64 0)), none⟩,
  ⟨some 4, .move (.cst (.int .i64 10)), none⟩])
 (.ret))
 (.skip)))
 (.seq
 (.reg [⟨some 6, .move (.cst (.int .u64 0)), none⟩])
 (.seq
 (.seq
 (.reg [⟨some 29, .move (.tmp 0), none⟩,
  ⟨some 30, .move (.tmp 5), none⟩,
  ⟨some 31, .bin .add (.tmp 30) (.cst (.int .i64 1)), none⟩,
  ⟨some 32, .slice .slice none (.tmp 29) (some (.cst (.int .i64 1))) (some (.tmp 31)) none, none⟩,
  ⟨some 33, .len (.tmp 32), none⟩,
  ⟨some 34, .move (.cst (.int .i64 0)), none⟩])
 (.block 0
 (.loop [5, 6, 32, 33, 34] true L40_0)))
 (.seq
 (.seq
 (.reg [⟨some 44, .move (.tmp 6), none⟩,
  ⟨some 45, .call (.cst (.func (.func 34) [] [])) [(.tmp 44)], none⟩,
  ⟨some 46, .move (.tmp 5), none⟩,
  ⟨some 47, .bin .add (.tmp 46) (.cst (.int .i64 1)), none⟩,
  ⟨some 48, .bin .neq (.tmp 45) (.tmp 47), none⟩])
 (.cond (.tmp 48)
 (.seq
 (.reg [⟨some 2, .move (.cst (.int .u64 0)), none⟩,
  ⟨some 3, .move (.cst (.int .i64 0)), none⟩,
  ⟨some 4, .move (.cst (.int .i64 10)), none⟩])
 (.ret))
 (.skip)))
 (.seq
 (.reg [⟨some 49, .move (.tmp 6), none⟩,
  ⟨some 50, .move (.tmp 5), none⟩,
  ⟨some 51, .bin .add (.tmp 50) (.cst (.int .i64 1)), none⟩,
  ⟨some 2, .move (.tmp 49), none⟩,
  ⟨some 3, .move (.tmp 51), none⟩,
  ⟨some 4, .move (.cst (.int .i64 0)), none⟩])
 (.ret)))))))))⟩
theorem c40 : compF Try.prog gl true [] [([5, 6, 32, 33, 34], true)] Try.f40 = some F40 := by kernel_rfl
/- slices.Contains[[]uint64,uint64] -/
def F41 : AFn := ⟨9, true, 2, [.tmp 4], .seq
 (.reg [⟨some 4, .move (.cst (.bool false)), none⟩])
 (.seq
 (.reg [⟨some 5, .move (.tmp 0), none⟩,
  ⟨some 6, .move (.tmp 1), none⟩,
  ⟨some 7, .call (.cst (.func (.func 56) [] [])) [(.tmp 5), (.tmp 6)], none⟩,
  ⟨some 8, .bin .geq (.tmp 7) (.cst (.int .i64 0)), none⟩,
  ⟨some 4, .move (.tmp 8), none⟩])
 (.ret))⟩
theorem c41 : compF Try.prog gl true [] [] Try.f41 = some F41 := by kernel_rfl
/- slices.Clone[[]byte,byte] -/
def F42 : AFn := ⟨8, true, 1, [.tmp 2], .seq
 (.reg [⟨some 2, .move (.cst .nil), none⟩])
 (.seq
 (.seq
 (.reg [⟨some 3, .move (.tmp 0), none⟩,
  ⟨some 4, .eqNil false .slice (.tmp 3), none⟩])
 (.cond (.tmp 4)
 (.seq
 (.reg [⟨some 2, .move (.cst .nil), none⟩])
 (.ret))
 (.skip)))
 (.seq
 (.reg [⟨some 5, .buildSlice none (.int .u8 0) 0 [], none⟩,
  ⟨some 6, .move (.tmp 0), none⟩,
  ⟨some 7, .append none 1 (.tmp 5) (.tmp 6), none⟩,
  ⟨some 2, .move (.tmp 7), none⟩])
 (.ret)))⟩
theorem c42 : compF Try.prog gl true [] [] Try.f42 = some F42 := by kernel_rfl
/- tollhouse/invoice.read$1 -/
def F43 : AFn := ⟨30, false, 4, [.tmp 6], .seq
 (.reg [⟨some 6, .move (.cst .nil), none⟩])
 (.seq
 (.reg [⟨some 10, .load none (.tmp 2), none⟩,
  ⟨some 11, .move (.tmp 0), none⟩,
  ⟨some 12, .call (.cst (.func (.func 44) [] [])) [(.tmp 10), (.tmp 11)], none⟩,
  ⟨some 9, .move (.tmp 12), none⟩,
  ⟨some 13, .extract (.tmp 9) 0, none⟩,
  ⟨some 14, .extract (.tmp 9) 1, none⟩,
  ⟨some 7, .move (.tmp 13), none⟩,
  ⟨some 8, .move (.tmp 14), none⟩])
 (.seq
 (.reg [⟨some 15, .load none (.tmp 3), none⟩,
  ⟨some 16, .move (.tmp 15), none⟩,
  ⟨some 17, .move (.tmp 8), some (16, true)⟩,
  ⟨some 18, .pick (.tmp 16) (.tmp 17) (.cst (.bool false)), none⟩,
  ⟨some 19, .move (.tmp 18), none⟩,
  ⟨some 20, .move (.tmp 1), some (19, true)⟩,
  ⟨some 21, .bin .eql (.tmp 20) (.cst (.int .i64 (-1))), some (19, true)⟩,
  ⟨some 22, .move (.tmp 21), some (19, true)⟩,
  ⟨some 23, .move (.tmp 7), some (22, false)⟩,
  ⟨some 24, .len (.tmp 23), some (22, false)⟩,
  ⟨some 25, .move (.tmp 1), some (22, false)⟩,
  ⟨some 26, .bin .eql (.tmp 24) (.tmp 25), some (22, false)⟩,
  ⟨some 27, .pick (.tmp 22) (.cst (.bool true)) (.tmp 26), some (19, true)⟩,
  ⟨some 28, .pick (.tmp 19) (.tmp 27) (.cst (.bool false)), none⟩,
  ⟨none, .store 1 (.tmp 3) (.tmp 28), none⟩])
 (.seq
 (.reg [⟨some 29, .move (.tmp 7), none⟩,
  ⟨some 6, .move (.tmp 29), none⟩])
 (.ret))))⟩
theorem c43 : compF Try.prog gl false [] [] Try.f43 = some F43 := by kernel_rfl
/- tollhouse/bigsize.Find -/
def F44 : AFn := ⟨18, true, 2, [.tmp 4, .tmp 5], .seq
 (.reg [⟨some 3, .box (.tmp 1), none⟩,
  ⟨some 4, .move (.cst .nil), none⟩,
  ⟨some 5, .move (.cst (.bool false)), none⟩])
 (.seq
 (.reg [⟨some 7, .move (.tmp 0), none⟩,
  ⟨some 8, .makeFunc (.func 58) [] [(.tmp 3)], none⟩,
  ⟨some 9, .call (.cst (.func (.func 57) [] [])) [(.tmp 7), (.tmp 8)], none⟩,
  ⟨some 6, .move (.tmp 9), none⟩])
 (.seq
 (.seq
 (.reg [⟨some 10, .move (.tmp 6), none⟩,
  ⟨some 11, .bin .lss (.tmp 10) (.cst (.int .i64 0)), none⟩])
 (.cond (.tmp 11)
 (.seq
 (.reg [⟨some 4, .move (.cst .nil), none⟩,
  ⟨some 5, .move (.cst (.bool false)), none⟩])
 (.ret))
 (.skip)))
 (.seq
 (.reg [⟨some 12, .move (.tmp 0), none⟩,
  ⟨some 13, .move (.tmp 6), none⟩,
  ⟨some 14, .indexAddr .slice (some 2) (.tmp 12) (.tmp 13), none⟩,
  ⟨some 15, .fieldAddr 1 1 (.tmp 14), none⟩,
  ⟨some 16, .load none (.tmp 15), none⟩,
  ⟨some 17, .call (.cst (.func (.func 42) [] [])) [(.tmp 16)], none⟩,
  ⟨some 4, .move (.tmp 17), none⟩,
  ⟨some 5, .move (.cst (.bool true)), none⟩])
 (.ret))))⟩
theorem c44 : compF Try.prog gl true [] [] Try.f44 = some F44 := by kernel_rfl
def L45_0 : AC := .seq
 (.reg [⟨some 9, .bin .lss (.tmp 8) (.tmp 7), none⟩])
 (.seq
 (.cond (.tmp 9)
 (.skip)
 (.exit 0))
 (.seq
 (.block 1
 (.seq
 (.reg [⟨some 10, .indexAddr .slice none (.tmp 6) (.tmp 8), none⟩,
  ⟨some 11, .load none (.tmp 10), none⟩,
  ⟨some 5, .move (.tmp 11), none⟩])
 (.reg [⟨some 12, .move (.tmp 3), none⟩,
  ⟨some 13, .bin .shl (.tmp 12) (.cst (.int .u64 8)), none⟩,
  ⟨some 14, .move (.tmp 5), none⟩,
  ⟨some 15, .convInt .i64 (.tmp 14), none⟩,
  ⟨some 16, .bin .or (.tmp 13) (.tmp 15), none⟩,
  ⟨some 3, .move (.tmp 16), none⟩])))
 (.reg [⟨some 17, .bin .add (.tmp 8) (.cst (.int .i64 1)), none⟩,
  ⟨some 8, .move (.tmp 17), none⟩])))
/- tollhouse/invoice.number -/
def F45 : AFn := ⟨19, true, 1, [.tmp 2], .seq
 (.reg [⟨some 2, .move (.cst (.int .i64 0)), none⟩])
 (.seq
 (.reg [⟨some 3, .move (.cst (.int .i64 0)), none⟩])
 (.seq
 (.seq
 (.reg [⟨some 6, .move (.tmp 0), none⟩,
  ⟨some 7, .len (.tmp 6), none⟩,
  ⟨some 8, .move (.cst (.int .i64 0)), none⟩])
 (.block 0
 (.loop [3, 6, 7, 8] true L45_0)))
 (.seq
 (.reg [⟨some 18, .move (.tmp 3), none⟩,
  ⟨some 2, .move (.tmp 18), none⟩])
 (.ret))))⟩
theorem c45 : compF Try.prog gl true [] [([3, 6, 7, 8], true)] Try.f45 = some F45 := by kernel_rfl
/- internal/stringslite.IndexByte -/
def F46 : AFn := ⟨8, true, 2, [.tmp 4], .seq
 (.reg [⟨some 4, .move (.cst (.int .i64 0)), none⟩])
 (.seq
 (.reg [⟨some 5, .move (.tmp 0), none⟩,
  ⟨some 6, .move (.tmp 1), none⟩,
  ⟨some 7, .call (.cst (.func (.func 59) [] [])) [(.tmp 5), (.tmp 6)], none⟩,
  ⟨some 4, .move (.tmp 7), none⟩])
 (.ret))⟩
theorem c46 : compF Try.prog gl true [] [] Try.f46 = some F46 := by kernel_rfl
def L47_0 : AC := .seq
 (.seq
 (.reg [⟨some 29, .move (.tmp 7), none⟩,
  ⟨some 30, .move (.tmp 5), none⟩,
  ⟨some 31, .bin .leq (.tmp 29) (.tmp 30), none⟩])
 (.cond (.tmp 31)
 (.skip)
 (.exit 1)))
 (.seq
 (.block 2
 (.reg [⟨some 34, .move (.tmp 6), none⟩,
  ⟨some 35, .bin .mul (.tmp 34) (.cst (.int .u64 256)), none⟩,
  ⟨some 36, .move (.tmp 0), none⟩,
  ⟨some 37, .move (.tmp 7), none⟩,
  ⟨some 38, .indexAddr .slice none (.tmp 36) (.tmp 37), none⟩,
  ⟨some 39, .load none (.tmp 38), none⟩,
  ⟨some 40, .convInt .u64 (.tmp 39), none⟩,
  ⟨some 41, .bin .add (.tmp 35) (.tmp 40), none⟩,
  ⟨some 6, .move (.tmp 41), none⟩]))
 (.reg [⟨some 32, .move (.tmp 7), none⟩,
  ⟨some 33, .bin .add (.tmp 32) (.cst (.int .i64 1)), none⟩,
  ⟨some 7, .move (.tmp 33), none⟩]))
/- tollhouse/tollhouseref01.Read -/
def F47 : AFn := ⟨51, true, 1, [.tmp 2, .tmp 3, .tmp 4], .seq
 (.reg [⟨some 2, .move (.cst (.int .u64 0)), none⟩,
  ⟨some 3, .move (.cst (.int .i64 0)), none⟩,
  ⟨some 4, .move (.cst (.int .i64 0)), none⟩])
 (.seq
 (.seq
 (.reg [⟨some 8, .move (.tmp 0), none⟩,
  ⟨some 9, .len (.tmp 8), none⟩,
  ⟨some 10, .bin .eql (.tmp 9) (.cst (.int .i64 0)), none⟩])
 (.cond (.tmp 10)
 (.seq
 (.reg [⟨some 2, .move (.cst (.int .u64 0)), none⟩,
  ⟨some 3, .move (.cst (.int .i64 0)), none⟩,
  ⟨some 4, .move (.cst (.int .i64 10)), none⟩])
 (.ret))
 (.skip)))
 (.seq
 (.reg [⟨some 5, .move (.cst (.int .i64 0)), none⟩])
 (.seq
 (.seq
 (.reg [⟨some 11, .move (.tmp 0), none⟩,
  ⟨some 12, .indexAddr .slice none (.tmp 11) (.cst (.int .i64 0)), none⟩,
  ⟨some 13, .load none (.tmp 12), none⟩])
 (.block 0
 (.seq
 (.reg [⟨some 19, .bin .eql (.tmp 13) (.cst (.int .u8 253)), none⟩,
  ⟨some 18, .move (.tmp 19), none⟩])
 (.cond (.tmp 18)
 (.reg [⟨some 5, .move (.cst (.int .i64 2)), none⟩])
 (.seq
 (.reg [⟨some 21, .bin .eql (.tmp 13) (.cst (.int .u8 254)), none⟩,
  ⟨some 20, .move (.tmp 21), none⟩])
 (.cond (.tmp 20)
 (.reg [⟨some 5, .move (.cst (.int .i64 4)), none⟩])
 (.seq
 (.reg [⟨some 23, .bin .eql (.tmp 13) (.cst (.int .u8 255)), none⟩,
  ⟨some 22, .move (.tmp 23), none⟩])
 (.cond (.tmp 22)
 (.reg [⟨some 5, .move (.cst (.int .i64 8)), none⟩])
 (.seq
 (.reg [⟨some 14, .move (.tmp 0), none⟩,
  ⟨some 15, .indexAddr .slice none (.tmp 14) (.cst (.int .i64 0)), none⟩,
  ⟨some 16, .load none (.tmp 15), none⟩,
  ⟨some 17, .convInt .u64 (.tmp 16), none⟩,
  ⟨some 2, .move (.tmp 17), none⟩,
  ⟨some 3, .move (.cst (.int .i64 1)), none⟩,
  ⟨some 4, .move (.cst (.int .i64 0)), none⟩])
 (.ret))))))))))
 (.seq
 (.seq
 (.reg [⟨some 24, .move (.tmp 0), none⟩,
  ⟨some 25, .len (.tmp 24), none⟩,
  ⟨some 26, .move (.tmp 5), none⟩,
  ⟨some 27, .bin .add (.tmp 26) (.cst (.int .i64 1)), none⟩,
  ⟨some 28, .bin .lss (.tmp 25) (.tmp 27), none⟩])
 (.cond (.tmp 28)
 (.seq
 (.reg [⟨some 2, .move (.cst (.int .u64 0)), none⟩,
  ⟨some 3, .move (.cst (.int .i64 0)), none⟩,
  ⟨some 4, .move (.cst (.int .i64 10)), none⟩])
 (.ret))
 (.skip)))
 (.seq
 (.reg [⟨some 6, .move (.cst (.int .u64 0)), none⟩])
 (.seq
 (.seq
 (.reg [⟨some 7, .move (.cst (.int .i64 1)), none⟩])
 (.block 1
 (.loop [0, 5, 6, 7] true L47_0)))
 (.seq
 (.seq
 (.reg [⟨some 42, .move (.tmp 6), none⟩,
  ⟨some 43, .call (.cst (.func (.func 37) [] [])) [(.tmp 42)], none⟩,
  ⟨some 44, .len (.tmp 43), none⟩,
  ⟨some 45, .move (.tmp 5), none⟩,
  ⟨some 46, .bin .add (.tmp 45) (.cst (.int .i64 1)), none⟩,
  ⟨some 47, .bin .neq (.tmp 44) (.tmp 46), none⟩])
 (.cond (.tmp 47)
 (.seq
 (.reg [⟨some 2, .move (.cst (.int .u64 0)), none⟩,
  ⟨some 3, .move (.cst (.int .i64 0)), none⟩,
  ⟨some 4, .move (.cst (.int .i64 10)), none⟩])
 (.ret))
 (.skip)))
 (.seq
 (.reg [⟨some 48, .move (.tmp 6), none⟩,
  ⟨some 49, .move (.tmp 5), none⟩,
  ⟨some 50, .bin .add (.tmp 49) (.cst (.int .i64 1)), none⟩,
  ⟨some 2, .move (.tmp 48), none⟩,
  ⟨some 3, .move (.tmp 50), none⟩,
  ⟨some 4, .move (.cst (.int .i64 0)), none⟩])
 (.ret)))))))))⟩
theorem c47 : compF Try.prog gl true [] [([0, 5, 6, 7], true)] Try.f47 = some F47 := by kernel_rfl
def L48_0 : AC := .seq
 (.seq
 (.reg [⟨some 6, .move (.tmp 5), none⟩,
  ⟨some 7, .move (.tmp 0), none⟩,
  ⟨some 8, .len (.tmp 7), none⟩,
  ⟨some 9, .bin .lss (.tmp 6) (.tmp 8), none⟩])
 (.cond (.tmp 9)
 (.skip)
 (.exit 0)))
 (.seq
 (.block 1
 (.seq
 (.reg [⟨some 12, .move (.tmp 0), none⟩,
  ⟨some 13, .move (.tmp 5), none⟩,
  ⟨some 14, .indexAddr .slice none (.tmp 12) (.tmp 13), none⟩,
  ⟨some 15, .load none (.tmp 14), none⟩,
  ⟨some 16, .move (.tmp 1), none⟩,
  ⟨some 17, .bin .eql (.tmp 15) (.tmp 16), none⟩])
 (.cond (.tmp 17)
 (.seq
 (.reg [⟨some 4, .move (.cst (.bool true)), none⟩])
 (.ret))
 (.skip))))
 (.reg [⟨some 10, .move (.tmp 5), none⟩,
  ⟨some 11, .bin .add (.tmp 10) (.cst (.int .i64 1)), none⟩,
  ⟨some 5, .move (.tmp 11), none⟩]))
/- tollhouse/tollhouseref01.has -/
def F48 : AFn := ⟨18, true, 2, [.tmp 4], .seq
 (.reg [⟨some 4, .move (.cst (.bool false)), none⟩])
 (.seq
 (.seq
 (.reg [⟨some 5, .move (.cst (.int .i64 0)), none⟩])
 (.block 0
 (.loop [0, 1, 5] true L48_0)))
 (.seq
 (.reg [⟨some 4, .move (.cst (.bool false)), none⟩])
 (.ret)))⟩
theorem c48 : compF Try.prog gl true [] [([0, 1, 5], true)] Try.f48 = some F48 := by kernel_rfl
/- tollhouse/bigsize.width -/
def F49 : AFn := ⟨13, true, 1, [.tmp 2, .tmp 3], .seq
 (.reg [⟨some 2, .move (.cst (.int .u8 0)), none⟩,
  ⟨some 3, .move (.cst (.int .i64 0)), none⟩])
 (.seq
 (.block 0
 (.seq
 (.reg [⟨some 5, .move (.tmp 0), none⟩,
  ⟨some 6, .bin .lss (.tmp 5) (.cst (.int .u64 253)), none⟩,
  ⟨some 4, .move (.tmp 6), none⟩])
 (.cond (.tmp 4)
 (.seq
 (.reg [⟨some 2, .move (.cst (.int .u8 0)), none⟩,
  ⟨some 3, .move (.cst (.int .i64 0)), none⟩])
 (.ret))
 (.seq
 (.reg [⟨some 8, .move (.tmp 0), none⟩,
  ⟨some 9, .bin .leq (.tmp 8) (.cst (.int .u64 65535)), none⟩,
  ⟨some 7, .move (.tmp 9), none⟩])
 (.cond (.tmp 7)
 (.seq
 (.reg [⟨some 2, .move (.cst (.int .u8 253)), none⟩,
  ⟨some 3, .move (.cst (.int .i64 2)), none⟩])
 (.ret))
 (.seq
 (.reg [⟨some 11, .move (.tmp 0), none⟩,
  ⟨some 12, .bin .leq (.tmp 11) (.cst (.int .u64 4294967295)), none⟩,
  ⟨some 10, .move (.tmp 12), none⟩])
 (.cond (.tmp 10)
 (.seq
 (.reg [⟨some 2, .move (.cst (.int .u8 254)), none⟩,
  ⟨some 3, .move (.cst (.int .i64 4)), none⟩])
 (.ret))
 (.skip))))))))
 (.seq
 (.reg [⟨some 2, .move (.cst (.int .u8 255)), none⟩,
  ⟨some 3, .move (.cst (.int .i64 8)), none⟩])
 (.ret)))⟩
theorem c49 : compF Try.prog gl true [] [] Try.f49 = some F49 := by kernel_rfl
/- tollhouse/keccak.start -/
def F51 : AFn := ⟨19, false, 1, [.tmp 2], .seq
 (.reg [⟨some 2, .move (.cst (.sc (.pointer none))), none⟩])
 (.seq
 (.reg [⟨some 4, .move (.tmp 0), none⟩,
  ⟨some 5, .call (.cst (.func (.func 60) [] [])) [], none⟩,
  ⟨some 6, .build [(.int .u64 0), (.int .u64 0), (.int .u64 0), (.int .u64 0), (.int .u64 0), (.int .u64 0), (.int .u64 0), (.int .u64 0), (.int .u64 0), (.int .u64 0), (.int .u64 0), (.int .u64 0), (.int .u64 0), (.int .u64 0), (.int .u64 0), (.int .u64 0), (.int .u64 0), (.int .u64 0), (.int .u64 0), (.int .u64 0), (.int .u64 0), (.int .u64 0), (.int .u64 0), (.int .u64 0), (.int .u64 0), (.int .i64 0), (.int .i64 0), (.int .i64 0), (.int .i64 0), (.int .i64 0), (.int .i64 0), (.int .i64 0), (.int .i64 0), (.int .i64 0), (.int .i64 0), (.int .i64 0), (.int .i64 0), (.int .i64 0), (.int .i64 0), (.int .i64 0), (.int .i64 0), (.int .i64 0), (.int .i64 0), (.int .i64 0), (.int .i64 0), (.int .i64 0), (.int .i64 0), (.int .i64 0), (.int .i64 0), (.int .i64 0), (.int .i64 0), (.int .i64 0), (.int .i64 0), (.int .i64 0), (.int .i64 0), (.int .i64 0), (.int .i64 0), (.int .i64 0), (.int .i64 0), (.int .i64 0), (.int .i64 0), (.int .i64 0), (.int .i64 0), (.int .i64 0), (.int .i64 0), (.int .i64 0), (.int .i64 0), (.int .i64 0), (.int .i64 0), (.int .i64 0), (.int .i64 0), (.int .i64 0), (.int .i64 0), (.int .i64 0), (.int .i64 0), (.int .u64 0), (.int .u64 0), (.int .u64 0), (.int .u64 0), (.int .u64 0), (.int .u64 0), (.int .u64 0), (.int .u64 0), (.int .u64 0), (.int .u64 0), (.int .u64 0), (.int .u64 0), (.int .u64 0), (.int .u64 0), (.int .u64 0), (.int .u64 0), (.int .u64 0), (.int .u64 0), (.int .u64 0), (.int .u64 0), (.int .u64 0), (.int .u64 0), (.int .u64 0), (.int .u64 0), (.int .i64 0), (.int .i64 0)] [(99, 1, (.tmp 4)), (75, 24, (.tmp 5))], none⟩,
  ⟨some 7, .box (.tmp 6), none⟩,
  ⟨some 3, .move (.tmp 7), none⟩])
 (.seq
 (.reg [⟨some 9, .move (.tmp 3), none⟩,
  ⟨some 10, .move (.tmp 3), none⟩,
  ⟨some 11, .call (.cst (.func (.func 61) [] [])) [], none⟩,
  ⟨some 8, .move (.tmp 11), none⟩,
  ⟨some 12, .extract (.tmp 8) 0, none⟩,
  ⟨some 13, .extract (.tmp 8) 1, none⟩,
  ⟨some 14, .nilCheck (.tmp 9), none⟩,
  ⟨some 15, .fieldAddr 25 25 (.tmp 14), none⟩,
  ⟨none, .store 25 (.tmp 15) (.tmp 12), none⟩,
  ⟨some 16, .nilCheck (.tmp 10), none⟩,
  ⟨some 17, .fieldAddr 50 25 (.tmp 16), none⟩,
  ⟨none, .store 25 (.tmp 17) (.tmp 13), none⟩])
 (.seq
 (.reg [⟨some 18, .move (.tmp 3), none⟩,
  ⟨some 2, .move (.tmp 18), none⟩])
 (.ret))))⟩
theorem c51 : compF Try.prog gl false [] [] Try.f51 = some F51 := by kernel_rfl
def L52_0 : AC := .seq
 (.reg [⟨some 19, .bin .lss (.tmp 18) (.tmp 17), none⟩])
 (.seq
 (.cond (.tmp 19)
 (.skip)
 (.exit 2))
 (.seq
 (.block 3
 (.seq
 (.reg [⟨some 20, .indexAddr .slice none (.tmp 16) (.tmp 18), none⟩,
  ⟨some 21, .load none (.tmp 20), none⟩,
  ⟨some 9, .move (.tmp 21), none⟩])
 (.seq
 (.reg [⟨some 22, .move (.tmp 0), none⟩,
  ⟨some 23, .move (.tmp 0), none⟩,
  ⟨some 24, .nilCheck (.tmp 23), none⟩,
  ⟨some 25, .fieldAddr 100 1 (.tmp 24), none⟩,
  ⟨some 26, .load none (.tmp 25), none⟩,
  ⟨some 27, .move (.tmp 9), none⟩,
  ⟨some 28, .call (.cst (.func (.func 62) [] [])) [(.tmp 22), (.tmp 26), (.tmp 27)], none⟩])
 (.seq
 (.reg [⟨some 29, .move (.tmp 0), none⟩,
  ⟨some 30, .nilCheck (.tmp 29), none⟩,
  ⟨some 31, .fieldAddr 100 1 (.tmp 30), none⟩,
  ⟨some 32, .load none (.tmp 31), none⟩,
  ⟨some 33, .bin .add (.tmp 32) (.cst (.int .i64 1)), none⟩,
  ⟨some 34, .nilCheck (.tmp 29), none⟩,
  ⟨some 35, .fieldAddr 100 1 (.tmp 34), none⟩,
  ⟨none, .store 1 (.tmp 35) (.tmp 33), none⟩])
 (.seq
 (.regQ [⟨some 36, .move (.tmp 0), none⟩,
  ⟨some 37, .nilCheck (.tmp 36), none⟩,
  ⟨some 38, .fieldAddr 100 1 (.tmp 37), none⟩,
  ⟨some 39, .load none (.tmp 38), none⟩,
  ⟨some 40, .move (.tmp 0), none⟩,
  ⟨some 41, .nilCheck (.tmp 40), none⟩,
  ⟨some 42, .fieldAddr 99 1 (.tmp 41), none⟩,
  ⟨some 43, .load none (.tmp 42), none⟩,
  ⟨some 44, .bin .eql (.tmp 39) (.tmp 43), none⟩])
 (.cond (.tmp 44)
 (.reg [⟨some 45, .move (.tmp 0), none⟩,
  ⟨some 46, .call (.cst (.func (.func 63) [] [])) [(.tmp 45)], none⟩])
 (.skip)))))))
 (.reg [⟨some 47, .bin .add (.tmp 18) (.cst (.int .i64 1)), none⟩,
  ⟨some 18, .move (.tmp 47), none⟩])))
def L52_1 : AC := .seq
 (.reg [⟨some 13, .bin .lss (.tmp 12) (.tmp 11), none⟩])
 (.seq
 (.cond (.tmp 13)
 (.skip)
 (.exit 0))
 (.seq
 (.block 1
 (.seq
 (.reg [⟨some 14, .indexAddr .slice none (.tmp 10) (.tmp 12), none⟩,
  ⟨some 15, .load none (.tmp 14), none⟩,
  ⟨some 7, .move (.tmp 15), none⟩])
 (.seq
 (.reg [⟨some 16, .move (.tmp 7), none⟩,
  ⟨some 17, .len (.tmp 16), none⟩,
  ⟨some 18, .move (.cst (.int .i64 0)), none⟩])
 (.block 2
 (.loop [0, 2, 10, 11, 12, 16, 17, 18] true L52_0)))))
 (.reg [⟨some 48, .bin .add (.tmp 12) (.cst (.int .i64 1)), none⟩,
  ⟨some 12, .move (.tmp 48), none⟩])))
/- (*tollhouse/keccak.sponge).take -/
def F52 : AFn := ⟨65, false, 3, [], .seq
 (.seq
 (.reg [⟨some 10, .move (.tmp 1), none⟩,
  ⟨some 11, .len (.tmp 10), none⟩,
  ⟨some 12, .move (.cst (.int .i64 0)), none⟩])
 (.block 0
 (.loop [0, 2, 10, 11, 12] true L52_1)))
 (.seq
 (.reg [⟨some 49, .move (.tmp 0), none⟩,
  ⟨some 50, .move (.tmp 0), none⟩,
  ⟨some 51, .nilCheck (.tmp 50), none⟩,
  ⟨some 52, .fieldAddr 100 1 (.tmp 51), none⟩,
  ⟨some 53, .load none (.tmp 52), none⟩,
  ⟨some 54, .move (.tmp 2), none⟩,
  ⟨some 55, .call (.cst (.func (.func 62) [] [])) [(.tmp 49), (.tmp 53), (.tmp 54)], none⟩])
 (.seq
 (.reg [⟨some 56, .move (.tmp 0), none⟩,
  ⟨some 57, .move (.tmp 0), none⟩,
  ⟨some 58, .nilCheck (.tmp 57), none⟩,
  ⟨some 59, .fieldAddr 99 1 (.tmp 58), none⟩,
  ⟨some 60, .load none (.tmp 59), none⟩,
  ⟨some 61, .bin .sub (.tmp 60) (.cst (.int .i64 1)), none⟩,
  ⟨some 62, .call (.cst (.func (.func 62) [] [])) [(.tmp 56), (.tmp 61), (.cst (.int .u8 128))], none⟩])
 (.reg [⟨some 63, .move (.tmp 0), none⟩,
  ⟨some 64, .call (.cst (.func (.func 63) [] [])) [(.tmp 63)], none⟩])))⟩
theorem c52 : compF Try.prog gl false [] [([0, 2, 10, 11, 12], true), ([0, 2, 10, 11, 12, 16, 17, 18], true)] Try.f52 = some F52 := by kernel_rfl
def L53_0 : AC := .seq
 (.reg [⟨some 8, .bin .lss (.tmp 7) (.tmp 6), none⟩])
 (.seq
 (.cond (.tmp 8)
 (.skip)
 (.exit 0))
 (.seq
 (.block 1
 (.seq
 (.reg [⟨some 9, .move (.tmp 7), none⟩,
  ⟨some 4, .move (.tmp 9), none⟩])
 (.seq
 (.seq
 (.regQ [⟨some 10, .move (.tmp 0), none⟩,
  ⟨some 11, .nilCheck (.tmp 10), none⟩,
  ⟨some 12, .fieldAddr 100 1 (.tmp 11), none⟩,
  ⟨some 13, .load none (.tmp 12), none⟩,
  ⟨some 14, .move (.tmp 0), none⟩,
  ⟨some 15, .nilCheck (.tmp 14), none⟩,
  ⟨some 16, .fieldAddr 99 1 (.tmp 15), none⟩,
  ⟨some 17, .load none (.tmp 16), none⟩,
  ⟨some 18, .bin .eql (.tmp 13) (.tmp 17), none⟩])
 (.cond (.tmp 18)
 (.reg [⟨some 19, .move (.tmp 0), none⟩,
  ⟨some 20, .call (.cst (.func (.func 63) [] [])) [(.tmp 19)], none⟩])
 (.skip)))
 (.seq
 (.seq
 (.regQ [⟨some 21, .move (.tmp 1), none⟩,
  ⟨some 22, .move (.tmp 4), none⟩,
  ⟨some 23, .move (.tmp 0), none⟩,
  ⟨some 24, .move (.tmp 0), none⟩,
  ⟨some 25, .nilCheck (.tmp 24), none⟩,
  ⟨some 26, .fieldAddr 100 1 (.tmp 25), none⟩,
  ⟨some 27, .load none (.tmp 26), none⟩,
  ⟨some 28, .bin .quo (.tmp 27) (.cst (.int .i64 8)), none⟩,
  ⟨some 29, .nilCheck (.tmp 23), none⟩,
  ⟨some 30, .fieldAddr 0 25 (.tmp 29), none⟩,
  ⟨some 31, .indexAddr (.arr 25) none (.tmp 30) (.tmp 28), none⟩,
  ⟨some 32, .load none (.tmp 31), none⟩,
  ⟨some 33, .move (.tmp 0), none⟩,
  ⟨some 34, .nilCheck (.tmp 33), none⟩,
  ⟨some 35, .fieldAddr 100 1 (.tmp 34), none⟩,
  ⟨some 36, .load none (.tmp 35), none⟩,
  ⟨some 37, .bin .rem (.tmp 36) (.cst (.int .i64 8)), none⟩,
  ⟨some 38, .bin .mul (.cst (.int .i64 8)) (.tmp 37), none⟩,
  ⟨some 39, .bin .shr (.tmp 32) (.tmp 38), none⟩,
  ⟨some 40, .convInt .u8 (.tmp 39), none⟩,
  ⟨some 41, .indexAddr .slice none (.tmp 21) (.tmp 22), none⟩])
 (.reg [⟨none, .store 1 (.tmp 41) (.tmp 40), none⟩]))
 (.reg [⟨some 42, .move (.tmp 0), none⟩,
  ⟨some 43, .nilCheck (.tmp 42), none⟩,
  ⟨some 44, .fieldAddr 100 1 (.tmp 43), none⟩,
  ⟨some 45, .load none (.tmp 44), none⟩,
  ⟨some 46, .bin .add (.tmp 45) (.cst (.int .i64 1)), none⟩,
  ⟨some 47, .nilCheck (.tmp 42), none⟩,
  ⟨some 48, .fieldAddr 100 1 (.tmp 47), none⟩,
  ⟨none, .store 1 (.tmp 48) (.tmp 46), none⟩])))))
 (.reg [⟨some 49, .bin .add (.tmp 7) (.cst (.int .i64 1)), none⟩,
  ⟨some 7, .move (.tmp 49), none⟩])))
/- (*tollhouse/keccak.sponge).let -/
def F53 : AFn := ⟨50, false, 2, [], .seq
 (.reg [⟨some 5, .move (.tmp 1), none⟩,
  ⟨some 6, .len (.tmp 5), none⟩,
  ⟨some 7, .move (.cst (.int .i64 0)), none⟩])
 (.block 0
 (.loop [0, 1, 6, 7] true L53_0))⟩
theorem c53 : compF Try.prog gl false [] [([0, 1, 6, 7], true)] Try.f53 = some F53 := by kernel_rfl
def L54_0 : AC := .seq
 (.seq
 (.reg [⟨some 85, .move (.tmp 15), none⟩,
  ⟨some 86, .move (.tmp 1), none⟩,
  ⟨some 87, .bin .lss (.tmp 85) (.tmp 86), none⟩,
  ⟨some 88, .move (.tmp 87), none⟩,
  ⟨some 89, .move (.tmp 14), some (88, true)⟩,
  ⟨some 90, .len (.tmp 89), some (88, true)⟩,
  ⟨some 91, .move (.tmp 0), some (88, true)⟩,
  ⟨some 92, .bin .lss (.tmp 90) (.tmp 91), some (88, true)⟩,
  ⟨some 93, .pick (.tmp 88) (.tmp 92) (.cst (.bool false)), none⟩])
 (.cond (.tmp 93)
 (.skip)
 (.exit 8)))
 (.seq
 (.block 9
 (.reg [⟨some 96, .move (.tmp 14), none⟩,
  ⟨some 97, .move (.tmp 15), none⟩,
  ⟨some 98, .bin .quo (.tmp 97) (.cst (.int .i64 8)), none⟩,
  ⟨some 99, .indexAddr (.arr 25) none (.tmp 11) (.tmp 98), none⟩,
  ⟨some 100, .load none (.tmp 99), none⟩,
  ⟨some 101, .move (.tmp 15), none⟩,
  ⟨some 102, .bin .rem (.tmp 101) (.cst (.int .i64 8)), none⟩,
  ⟨some 103, .bin .mul (.cst (.int .i64 8)) (.tmp 102), none⟩,
  ⟨some 104, .bin .shr (.tmp 100) (.tmp 103), none⟩,
  ⟨some 105, .convInt .u8 (.tmp 104), none⟩,
  ⟨some 106, .buildSlice none (.int .u8 0) 1 [(0, (.tmp 105))], none⟩,
  ⟨some 107, .append none 1 (.tmp 96) (.tmp 106), none⟩,
  ⟨some 14, .move (.tmp 107), none⟩]))
 (.reg [⟨some 94, .move (.tmp 15), none⟩,
  ⟨some 95, .bin .add (.tmp 94) (.cst (.int .i64 1)), none⟩,
  ⟨some 15, .move (.tmp 95), none⟩]))
def L54_1 : AC := .seq
 (.seq
 (.reg [⟨some 76, .move (.tmp 14), none⟩,
  ⟨some 77, .len (.tmp 76), none⟩,
  ⟨some 78, .move (.tmp 0), none⟩,
  ⟨some 79, .bin .lss (.tmp 77) (.tmp 78), none⟩])
 (.cond (.tmp 79)
 (.skip)
 (.exit 6)))
 (.block 7
 (.seq
 (.seq
 (.reg [⟨some 80, .move (.tmp 14), none⟩,
  ⟨some 81, .len (.tmp 80), none⟩,
  ⟨some 82, .bin .gtr (.tmp 81) (.cst (.int .i64 0)), none⟩])
 (.cond (.tmp 82)
 (.reg [⟨some 83, .load (some 25) (.tmp 11), none⟩,
  ⟨some 84, .call (.cst (.func (.func 65) [] [])) [(.tmp 10), (.tmp 83)], none⟩,
  ⟨none, .store 25 (.tmp 11) (.tmp 84), none⟩])
 (.skip)))
 (.seq
 (.reg [⟨some 15, .move (.cst (.int .i64 0)), none⟩])
 (.block 8
 (.loop [0, 1, 10, 11, 14, 15] false L54_0)))))
def L54_2 : AC := .seq
 (.seq
 (.reg [⟨some 50, .move (.tmp 13), none⟩,
  ⟨some 51, .move (.tmp 1), none⟩,
  ⟨some 52, .bin .lss (.tmp 50) (.tmp 51), none⟩])
 (.cond (.tmp 52)
 (.skip)
 (.exit 4)))
 (.seq
 (.block 5
 (.seq
 (.regQ [⟨some 55, .move (.tmp 13), none⟩,
  ⟨some 56, .bin .quo (.tmp 55) (.cst (.int .i64 8)), none⟩,
  ⟨some 57, .move (.tmp 13), none⟩,
  ⟨some 58, .bin .quo (.tmp 57) (.cst (.int .i64 8)), none⟩,
  ⟨some 59, .indexAddr (.arr 25) none (.tmp 11) (.tmp 58), none⟩,
  ⟨some 60, .load none (.tmp 59), none⟩,
  ⟨some 61, .move (.tmp 9), none⟩,
  ⟨some 62, .move (.tmp 12), none⟩,
  ⟨some 63, .move (.tmp 13), none⟩,
  ⟨some 64, .bin .add (.tmp 62) (.tmp 63), none⟩,
  ⟨some 65, .indexAddr .slice none (.tmp 61) (.tmp 64), none⟩,
  ⟨some 66, .load none (.tmp 65), none⟩,
  ⟨some 67, .convInt .u64 (.tmp 66), none⟩,
  ⟨some 68, .move (.tmp 13), none⟩,
  ⟨some 69, .bin .rem (.tmp 68) (.cst (.int .i64 8)), none⟩,
  ⟨some 70, .bin .mul (.cst (.int .i64 8)) (.tmp 69), none⟩,
  ⟨some 71, .bin .shl (.tmp 67) (.tmp 70), none⟩,
  ⟨some 72, .bin .xor (.tmp 60) (.tmp 71), none⟩,
  ⟨some 73, .indexAddr (.arr 25) none (.tmp 11) (.tmp 56), none⟩])
 (.reg [⟨none, .store 1 (.tmp 73) (.tmp 72), none⟩])))
 (.reg [⟨some 53, .move (.tmp 13), none⟩,
  ⟨some 54, .bin .add (.tmp 53) (.cst (.int .i64 1)), none⟩,
  ⟨some 13, .move (.tmp 54), none⟩]))
def L54_3 : AC := .seq
 (.seq
 (.reg [⟨some 43, .move (.tmp 12), none⟩,
  ⟨some 44, .move (.tmp 9), none⟩,
  ⟨some 45, .len (.tmp 44), none⟩,
  ⟨some 46, .bin .lss (.tmp 43) (.tmp 45), none⟩])
 (.cond (.tmp 46)
 (.skip)
 (.exit 2)))
 (.seq
 (.block 3
 (.seq
 (.seq
 (.reg [⟨some 13, .move (.cst (.int .i64 0)), none⟩])
 (.block 4
 (.loop [0, 1, 9, 10, 11, 12, 13] false L54_2)))
 (.reg [⟨some 74, .load (some 25) (.tmp 11), none⟩,
  ⟨some 75, .call (.cst (.func (.func 65) [] [])) [(.tmp 10), (.tmp 74)], none⟩,
  ⟨none, .store 25 (.tmp 11) (.tmp 75), none⟩])))
 (.reg [⟨some 47, .move (.tmp 12), none⟩,
  ⟨some 48, .move (.tmp 1), none⟩,
  ⟨some 49, .bin .add (.tmp 47) (.tmp 48), none⟩,
  ⟨some 12, .move (.tmp 49), none⟩]))
def L54_4 : AC := .seq
 (.seq
 (.reg [⟨some 22, .move (.tmp 9), none⟩,
  ⟨some 23, .len (.tmp 22), none⟩,
  ⟨some 24, .move (.tmp 1), none⟩,
  ⟨some 25, .bin .rem (.tmp 23) (.tmp 24), none⟩,
  ⟨some 26, .bin .neq (.tmp 25) (.cst (.int .i64 0)), none⟩])
 (.cond (.tmp 26)
 (.skip)
 (.exit 0)))
 (.block 1
 (.reg [⟨some 27, .move (.tmp 9), none⟩,
  ⟨some 28, .buildSlice none (.int .u8 0) 1 [(0, (.cst (.int .u8 0)))], none⟩,
  ⟨some 29, .appendV none 1 (.tmp 27) (.tmp 28), none⟩,
  ⟨some 9, .move (.tmp 29), none⟩]))
/- tollhouse/tollhouseref03.Out -/
def F54 : AFn := ⟨109, true, 4, [.tmp 8], .seq
 (.reg [⟨some 8, .move (.cst .nil), none⟩])
 (.seq
 (.reg [⟨some 16, .buildSlice none (.int .u8 0) 0 [], none⟩,
  ⟨some 17, .move (.tmp 3), none⟩,
  ⟨some 18, .appendV none 1 (.tmp 16) (.tmp 17), none⟩,
  ⟨some 19, .move (.tmp 2), none⟩,
  ⟨some 20, .buildSlice none (.int .u8 0) 1 [(0, (.tmp 19))], none⟩,
  ⟨some 21, .appendV none 1 (.tmp 18) (.tmp 20), none⟩,
  ⟨some 9, .move (.tmp 21), none⟩])
 (.seq
 (.block 0
 (.loop [0, 1, 9] false L54_4))
 (.seq
 (.reg [⟨some 30, .move (.tmp 9), none⟩,
  ⟨some 31, .move (.tmp 9), none⟩,
  ⟨some 32, .len (.tmp 31), none⟩,
  ⟨some 33, .bin .sub (.tmp 32) (.cst (.int .i64 1)), none⟩,
  ⟨some 34, .move (.tmp 9), none⟩,
  ⟨some 35, .move (.tmp 9), none⟩,
  ⟨some 36, .len (.tmp 35), none⟩,
  ⟨some 37, .bin .sub (.tmp 36) (.cst (.int .i64 1)), none⟩,
  ⟨some 38, .indexAddr .slice none (.tmp 34) (.tmp 37), none⟩,
  ⟨some 39, .load none (.tmp 38), none⟩,
  ⟨some 40, .bin .xor (.tmp 39) (.cst (.int .u8 128)), none⟩,
  ⟨some 41, .indexAddr .slice none (.tmp 30) (.tmp 33), none⟩,
  ⟨none, .store 1 (.tmp 41) (.tmp 40), none⟩])
 (.seq
 (.reg [⟨some 42, .call (.cst (.func (.func 64) [] [])) [], none⟩,
  ⟨some 10, .alloc [(.int .i64 0), (.int .i64 0), (.int .i64 0), (.int .i64 0), (.int .i64 0), (.int .i64 0), (.int .i64 0), (.int .i64 0), (.int .i64 0), (.int .i64 0), (.int .i64 0), (.int .i64 0), (.int .i64 0), (.int .i64 0), (.int .i64 0), (.int .i64 0), (.int .i64 0), (.int .i64 0), (.int .i64 0), (.int .i64 0), (.int .i64 0), (.int .i64 0), (.int .i64 0), (.int .i64 0), (.int .i64 0), (.int .u64 0), (.int .u64 0), (.int .u64 0), (.int .u64 0), (.int .u64 0), (.int .u64 0), (.int .u64 0), (.int .u64 0), (.int .u64 0), (.int .u64 0), (.int .u64 0), (.int .u64 0), (.int .u64 0), (.int .u64 0), (.int .u64 0), (.int .u64 0), (.int .u64 0), (.int .u64 0), (.int .u64 0), (.int .u64 0), (.int .u64 0), (.int .u64 0), (.int .u64 0), (.int .u64 0)], none⟩,
  ⟨none, .store 49 (.tmp 10) (.tmp 42), none⟩])
 (.seq
 (.reg [⟨some 11, .alloc [(.int .u64 0), (.int .u64 0), (.int .u64 0), (.int .u64 0), (.int .u64 0), (.int .u64 0), (.int .u64 0), (.int .u64 0), (.int .u64 0), (.int .u64 0), (.int .u64 0), (.int .u64 0), (.int .u64 0), (.int .u64 0), (.int .u64 0), (.int .u64 0), (.int .u64 0), (.int .u64 0), (.int .u64 0), (.int .u64 0), (.int .u64 0), (.int .u64 0), (.int .u64 0), (.int .u64 0), (.int .u64 0)], none⟩])
 (.seq
 (.seq
 (.reg [⟨some 12, .move (.cst (.int .i64 0)), none⟩])
 (.block 2
 (.loop [0, 1, 9, 10, 11, 12] false L54_3)))
 (.seq
 (.reg [⟨some 14, .acc none (.cst .nil), none⟩])
 (.seq
 (.block 6
 (.loop [0, 1, 10, 11, 14] false L54_1))
 (.seq
 (.reg [⟨some 108, .move (.tmp 14), none⟩,
  ⟨some 8, .move (.tmp 108), none⟩])
 (.ret))))))))))⟩
theorem c54 : compF Try.prog gl true [(14, none), (18, (some 0)), (21, (some 0)), (29, (some 0))] [([0, 1, 9], false), ([0, 1, 9, 10, 11, 12], false), ([0, 1, 9, 10, 11, 12, 13], false), ([0, 1, 10, 11, 14], false), ([0, 1, 10, 11, 14, 15], false)] Try.f54 = some F54 := by kernel_rfl
/- internal/stringslite.HasPrefix -/
def F55 : AFn := ⟨18, true, 2, [.tmp 4], .seq
 (.reg [⟨some 4, .move (.cst (.bool false)), none⟩])
 (.seq
 (.reg [⟨some 5, .move (.tmp 0), none⟩,
  ⟨some 6, .lenT (.tmp 5), none⟩,
  ⟨some 7, .move (.tmp 1), none⟩,
  ⟨some 8, .lenT (.tmp 7), none⟩,
  ⟨some 9, .bin .geq (.tmp 6) (.tmp 8), none⟩,
  ⟨some 10, .move (.tmp 9), none⟩,
  ⟨some 11, .move (.tmp 0), some (10, true)⟩,
  ⟨some 12, .move (.tmp 1), some (10, true)⟩,
  ⟨some 13, .lenT (.tmp 12), some (10, true)⟩,
  ⟨some 14, .slice .str none (.tmp 11) none (some (.tmp 13)) none, some (10, true)⟩,
  ⟨some 15, .move (.tmp 1), some (10, true)⟩,
  ⟨some 16, .bin .eql (.tmp 14) (.tmp 15), some (10, true)⟩,
  ⟨some 17, .pick (.tmp 10) (.tmp 16) (.cst (.bool false)), none⟩,
  ⟨some 4, .move (.tmp 17), none⟩])
 (.ret))⟩
theorem c55 : compF Try.prog gl true [] [] Try.f55 = some F55 := by kernel_rfl
def L56_0 : AC := .seq
 (.reg [⟨some 9, .bin .lss (.tmp 8) (.tmp 7), none⟩])
 (.seq
 (.cond (.tmp 9)
 (.skip)
 (.exit 0))
 (.seq
 (.block 1
 (.seq
 (.reg [⟨some 10, .move (.tmp 8), none⟩,
  ⟨some 5, .move (.tmp 10), none⟩])
 (.seq
 (.reg [⟨some 11, .move (.tmp 1), none⟩,
  ⟨some 12, .move (.tmp 0), none⟩,
  ⟨some 13, .move (.tmp 5), none⟩,
  ⟨some 14, .indexAddr .slice none (.tmp 12) (.tmp 13), none⟩,
  ⟨some 15, .load none (.tmp 14), none⟩,
  ⟨some 16, .bin .eql (.tmp 11) (.tmp 15), none⟩])
 (.cond (.tmp 16)
 (.seq
 (.reg [⟨some 17, .move (.tmp 5), none⟩,
  ⟨some 4, .move (.tmp 17), none⟩])
 (.ret))
 (.skip)))))
 (.reg [⟨some 18, .bin .add (.tmp 8) (.cst (.int .i64 1)), none⟩,
  ⟨some 8, .move (.tmp 18), none⟩])))
/- slices.Index[[]uint64,uint64] -/
def F56 : AFn := ⟨19, true, 2, [.tmp 4], .seq
 (.reg [⟨some 4, .move (.cst (.int .i64 0)), none⟩])
 (.seq
 (.seq
 (.reg [⟨some 6, .move (.tmp 0), none⟩,
  ⟨some 7, .len (.tmp 6), none⟩,
  ⟨some 8, .move (.cst (.int .i64 0)), none⟩])
 (.block 0
 (.loop [0, 1, 7, 8] true L56_0)))
 (.seq
 (.reg [⟨some 4, .move (.cst (.int .i64 (-1))), none⟩])
 (.ret)))⟩
theorem c56 : compF Try.prog gl true [] [([0, 1, 7, 8], true)] Try.f56 = some F56 := by kernel_rfl
def L57_0 : AC := .seq
 (.reg [⟨some 9, .bin .lss (.tmp 8) (.tmp 7), none⟩])
 (.seq
 (.cond (.tmp 9)
 (.skip)
 (.exit 0))
 (.seq
 (.block 1
 (.seq
 (.reg [⟨some 10, .move (.tmp 8), none⟩,
  ⟨some 5, .move (.tmp 10), none⟩])
 (.seq
 (.reg [⟨some 11, .move (.tmp 1), none⟩,
  ⟨some 12, .move (.tmp 0), none⟩,
  ⟨some 13, .move (.tmp 5), none⟩,
  ⟨some 14, .indexAddr .slice (some 2) (.tmp 12) (.tmp 13), none⟩,
  ⟨some 15, .load (some 2) (.tmp 14), none⟩,
  ⟨some 16, .call (.tmp 11) [(.tmp 15)], none⟩])
 (.cond (.tmp 16)
 (.seq
 (.reg [⟨some 17, .move (.tmp 5), none⟩,
  ⟨some 4, .move (.tmp 17), none⟩])
 (.ret))
 (.skip)))))
 (.reg [⟨some 18, .bin .add (.tmp 8) (.cst (.int .i64 1)), none⟩,
  ⟨some 8, .move (.tmp 18), none⟩])))
/- slices.IndexFunc[[]tollhouse/api.Record,tollhouse/api.Record] -/
def F57 : AFn := ⟨19, false, 2, [.tmp 4], .seq
 (.reg [⟨some 4, .move (.cst (.int .i64 0)), none⟩])
 (.seq
 (.seq
 (.reg [⟨some 6, .move (.tmp 0), none⟩,
  ⟨some 7, .len (.tmp 6), none⟩,
  ⟨some 8, .move (.cst (.int .i64 0)), none⟩])
 (.block 0
 (.loop [0, 1, 7, 8] true L57_0)))
 (.seq
 (.reg [⟨some 4, .move (.cst (.int .i64 (-1))), none⟩])
 (.ret)))⟩
theorem c57 : compF Try.prog gl false [] [([0, 1, 7, 8], true)] Try.f57 = some F57 := by kernel_rfl
/- tollhouse/bigsize.Find$1 -/
def F58 : AFn := ⟨8, false, 2, [.tmp 3], .seq
 (.reg [⟨some 2, .box (.tmp 0), none⟩,
  ⟨some 3, .move (.cst (.bool false)), none⟩])
 (.seq
 (.reg [⟨some 4, .fieldAddr 0 1 (.tmp 2), none⟩,
  ⟨some 5, .load none (.tmp 4), none⟩,
  ⟨some 6, .load none (.tmp 1), none⟩,
  ⟨some 7, .bin .eql (.tmp 5) (.tmp 6), none⟩,
  ⟨some 3, .move (.tmp 7), none⟩])
 (.ret))⟩
theorem c58 : compF Try.prog gl false [] [] Try.f58 = some F58 := by kernel_rfl
def L60_0 : AC := .seq
 (.reg [⟨some 5, .bin .lss (.tmp 4) (.cst (.int .i64 168)), none⟩])
 (.seq
 (.cond (.tmp 5)
 (.skip)
 (.exit 0))
 (.seq
 (.block 1
 (.seq
 (.reg [⟨some 6, .move (.tmp 4), none⟩,
  ⟨some 3, .move (.tmp 6), none⟩])
 (.seq
 (.seq
 (.regQ [⟨some 7, .move (.tmp 3), none⟩,
  ⟨some 8, .bin .quo (.tmp 7) (.cst (.int .i64 7)), none⟩,
  ⟨some 9, .indexAddr (.arr 24) none (.tmp 1) (.tmp 8), none⟩,
  ⟨some 10, .load none (.tmp 9), none⟩,
  ⟨some 11, .move (.tmp 2), none⟩,
  ⟨some 12, .bin .and (.tmp 11) (.cst (.int .u64 1)), none⟩,
  ⟨some 13, .move (.tmp 3), none⟩,
  ⟨some 14, .bin .rem (.tmp 13) (.cst (.int .i64 7)), none⟩,
  ⟨some 15, .bin .shl (.cst (.int .u64 1)) (.tmp 14), none⟩,
  ⟨some 16, .bin .sub (.tmp 15) (.cst (.int .u64 1)), none⟩,
  ⟨some 17, .bin .shl (.tmp 12) (.tmp 16), none⟩,
  ⟨some 18, .bin .or (.tmp 10) (.tmp 17), none⟩,
  ⟨some 19, .indexAddr (.arr 24) none (.tmp 1) (.tmp 8), none⟩])
 (.reg [⟨none, .store 1 (.tmp 19) (.tmp 18), none⟩]))
 (.seq
 (.reg [⟨some 20, .move (.tmp 2), none⟩,
  ⟨some 21, .bin .shl (.tmp 20) (.cst (.int .u64 1)), none⟩,
  ⟨some 2, .move (.tmp 21), none⟩])
 (.seq
 (.reg [⟨some 22, .move (.tmp 2), none⟩,
  ⟨some 23, .bin .gtr (.tmp 22) (.cst (.int .u64 255)), none⟩])
 (.cond (.tmp 23)
 (.reg [⟨some 24, .move (.tmp 2), none⟩,
  ⟨some 25, .bin .xor (.tmp 24) (.cst (.int .u64 369)), none⟩,
  ⟨some 2, .move (.tmp 25), none⟩])
 (.skip)))))))
 (.reg [⟨some 26, .bin .add (.tmp 4) (.cst (.int .i64 1)), none⟩,
  ⟨some 4, .move (.tmp 26), none⟩])))
/- tollhouse/keccak.constants -/
def F60 : AFn := ⟨28, true, 0, [.cell 0 (some 24)], .seq
 (.reg [⟨some 0, .alloc [(.int .u64 0), (.int .u64 0), (.int .u64 0), (.int .u64 0), (.int .u64 0), (.int .u64 0), (.int .u64 0), (.int .u64 0), (.int .u64 0), (.int .u64 0), (.int .u64 0), (.int .u64 0), (.int .u64 0), (.int .u64 0), (.int .u64 0), (.int .u64 0), (.int .u64 0), (.int .u64 0), (.int .u64 0), (.int .u64 0), (.int .u64 0), (.int .u64 0), (.int .u64 0), (.int .u64 0)], none⟩])
 (.seq
 (.reg [⟨some 1, .alloc [(.int .u64 0), (.int .u64 0), (.int .u64 0), (.int .u64 0), (.int .u64 0), (.int .u64 0), (.int .u64 0), (.int .u64 0), (.int .u64 0), (.int .u64 0), (.int .u64 0), (.int .u64 0), (.int .u64 0), (.int .u64 0), (.int .u64 0), (.int .u64 0), (.int .u64 0), (.int .u64 0), (.int .u64 0), (.int .u64 0), (.int .u64 0), (.int .u64 0), (.int .u64 0), (.int .u64 0)], none⟩])
 (.seq
 (.reg [⟨some 2, .move (.cst (.int .u64 1)), none⟩])
 (.seq
 (.seq
 (.reg [⟨some 4, .move (.cst (.int .i64 0)), none⟩])
 (.block 0
 (.loop [0, 1, 2, 4] true L60_0)))
 (.seq
 (.reg [⟨some 27, .load (some 24) (.tmp 1), none⟩,
  ⟨none, .store 24 (.tmp 0) (.tmp 27), none⟩])
 (.ret)))))⟩
theorem c60 : compF Try.prog gl true [] [([0, 1, 2, 4], true)] Try.f60 = some F60 := by kernel_rfl
def L61_0 : AC := .seq
 (.seq
 (.reg [⟨some 8, .move (.tmp 5), none⟩,
  ⟨some 9, .bin .leq (.tmp 8) (.cst (.int .i64 24)), none⟩])
 (.cond (.tmp 9)
 (.skip)
 (.exit 0)))
 (.seq
 (.block 1
 (.seq
 (.reg [⟨some 12, .move (.tmp 4), none⟩,
  ⟨some 13, .move (.tmp 5), none⟩,
  ⟨some 14, .bin .add (.tmp 12) (.tmp 13), none⟩,
  ⟨some 4, .move (.tmp 14), none⟩])
 (.seq
 (.reg [⟨some 16, .move (.tmp 2), none⟩,
  ⟨some 17, .move (.tmp 3), none⟩,
  ⟨some 18, .call (.cst (.func (.func 66) [] [])) [(.tmp 16), (.tmp 17)], none⟩,
  ⟨some 15, .move (.tmp 18), none⟩,
  ⟨some 19, .extract (.tmp 15) 0, none⟩,
  ⟨some 20, .extract (.tmp 15) 1, none⟩,
  ⟨some 6, .move (.tmp 19), none⟩,
  ⟨some 7, .move (.tmp 20), none⟩])
 (.seq
 (.reg [⟨some 21, .move (.tmp 3), none⟩,
  ⟨some 22, .bin .mul (.cst (.int .i64 5)) (.tmp 21), none⟩,
  ⟨some 23, .move (.tmp 2), none⟩,
  ⟨some 24, .bin .add (.tmp 22) (.tmp 23), none⟩,
  ⟨some 25, .move (.tmp 3), none⟩,
  ⟨some 26, .bin .mul (.cst (.int .i64 5)) (.tmp 25), none⟩,
  ⟨some 27, .move (.tmp 2), none⟩,
  ⟨some 28, .bin .add (.tmp 26) (.tmp 27), none⟩,
  ⟨some 29, .move (.tmp 4), none⟩,
  ⟨some 30, .bin .rem (.tmp 29) (.cst (.int .i64 64)), none⟩,
  ⟨some 31, .move (.tmp 7), none⟩,
  ⟨some 32, .bin .mul (.cst (.int .i64 5)) (.tmp 31), none⟩,
  ⟨some 33, .move (.tmp 6), none⟩,
  ⟨some 34, .bin .add (.tmp 32) (.tmp 33), none⟩,
  ⟨some 35, .indexAddr (.arr 25) none (.tmp 0) (.tmp 24), none⟩,
  ⟨none, .store 1 (.tmp 35) (.tmp 30), none⟩,
  ⟨some 36, .indexAddr (.arr 25) none (.tmp 1) (.tmp 28), none⟩,
  ⟨none, .store 1 (.tmp 36) (.tmp 34), none⟩])
 (.reg [⟨some 37, .move (.tmp 6), none⟩,
  ⟨some 38, .move (.tmp 7), none⟩,
  ⟨some 2, .move (.tmp 37), none⟩,
  ⟨some 3, .move (.tmp 38), none⟩])))))
 (.reg [⟨some 10, .move (.tmp 5), none⟩,
  ⟨some 11, .bin .add (.tmp 10) (.cst (.int .i64 1)), none⟩,
  ⟨some 5, .move (.tmp 11), none⟩]))
/- tollhouse/keccak.turns -/
def F61 : AFn := ⟨41, true, 0, [.cell 0 (some 25), .cell 1 (some 25)], .seq
 (.reg [⟨some 0, .alloc [(.int .i64 0), (.int .i64 0), (.int .i64 0), (.int .i64 0), (.int .i64 0), (.int .i64 0), (.int .i64 0), (.int .i64 0), (.int .i64 0), (.int .i64 0), (.int .i64 0), (.int .i64 0), (.int .i64 0), (.int .i64 0), (.int .i64 0), (.int .i64 0), (.int .i64 0), (.int .i64 0), (.int .i64 0), (.int .i64 0), (.int .i64 0), (.int .i64 0), (.int .i64 0), (.int .i64 0), (.int .i64 0)], none⟩,
  ⟨some 1, .alloc [(.int .i64 0), (.int .i64 0), (.int .i64 0), (.int .i64 0), (.int .i64 0), (.int .i64 0), (.int .i64 0), (.int .i64 0), (.int .i64 0), (.int .i64 0), (.int .i64 0), (.int .i64 0), (.int .i64 0), (.int .i64 0), (.int .i64 0), (.int .i64 0), (.int .i64 0), (.int .i64 0), (.int .i64 0), (.int .i64 0), (.int .i64 0), (.int .i64 0), (.int .i64 0), (.int .i64 0), (.int .i64 0)], none⟩])
 (.seq
 (.reg [⟨some 2, .move (.cst (.int .i64 1)), none⟩,
  ⟨some 3, .move (.cst (.int .i64 0)), none⟩,
  ⟨some 4, .move (.cst (.int .i64 0)), none⟩])
 (.seq
 (.seq
 (.reg [⟨some 5, .move (.cst (.int .i64 1)), none⟩])
 (.block 0
 (.loop [0, 1, 2, 3, 4, 5] true L61_0)))
 (.seq
 (.regD [⟨some 39, .load (some 25) (.tmp 0), none⟩,
  ⟨some 40, .load (some 25) (.tmp 1), none⟩,
  ⟨none, .store 25 (.tmp 0) (.tmp 39), none⟩,
  ⟨none, .store 25 (.tmp 1) (.tmp 40), none⟩] [(0, 0), (0, 1), (0, 0), (1, 1)])
 (.ret))))⟩
theorem c61 : compF Try.prog gl true [] [([0, 1, 2, 3, 4, 5], true)] Try.f61 = some F61 := by kernel_rfl
/- (*tollhouse/keccak.sponge).add -/
def F62 : AFn := ⟨23, false, 3, [], .seq
 (.regQ [⟨some 6, .move (.tmp 0), none⟩,
  ⟨some 7, .move (.tmp 1), none⟩,
  ⟨some 8, .bin .quo (.tmp 7) (.cst (.int .i64 8)), none⟩,
  ⟨some 9, .nilCheck (.tmp 6), none⟩,
  ⟨some 10, .fieldAddr 0 25 (.tmp 9), none⟩,
  ⟨some 11, .indexAddr (.arr 25) none (.tmp 10) (.tmp 8), none⟩,
  ⟨some 12, .load none (.tmp 11), none⟩,
  ⟨some 13, .move (.tmp 2), none⟩,
  ⟨some 14, .convInt .u64 (.tmp 13), none⟩,
  ⟨some 15, .move (.tmp 1), none⟩,
  ⟨some 16, .bin .rem (.tmp 15) (.cst (.int .i64 8)), none⟩,
  ⟨some 17, .bin .mul (.cst (.int .i64 8)) (.tmp 16), none⟩,
  ⟨some 18, .bin .shl (.tmp 14) (.tmp 17), none⟩,
  ⟨some 19, .bin .xor (.tmp 12) (.tmp 18), none⟩,
  ⟨some 20, .nilCheck (.tmp 6), none⟩,
  ⟨some 21, .fieldAddr 0 25 (.tmp 20), none⟩,
  ⟨some 22, .indexAddr (.arr 25) none (.tmp 21) (.tmp 8), none⟩])
 (.reg [⟨none, .store 1 (.tmp 22) (.tmp 19), none⟩])⟩
theorem c62 : compF Try.prog gl false [] [] Try.f62 = some F62 := by kernel_rfl
def L63_0 : AC := .seq
 (.reg [⟨some 9, .bin .lss (.tmp 8) (.cst (.int .i64 24)), none⟩])
 (.seq
 (.cond (.tmp 9)
 (.skip)
 (.exit 0))
 (.seq
 (.block 1
 (.seq
 (.reg [⟨some 10, .index none 24 (.tmp 7) (.tmp 8), none⟩,
  ⟨some 3, .move (.tmp 10), none⟩])
 (.seq
 (.regQ [⟨some 11, .move (.tmp 0), none⟩,
  ⟨some 12, .nilCheck (.tmp 11), none⟩,
  ⟨some 13, .fieldAddr 0 25 (.tmp 12), none⟩,
  ⟨some 14, .move (.tmp 0), none⟩,
  ⟨some 15, .nilCheck (.tmp 14), none⟩,
  ⟨some 16, .fieldAddr 25 25 (.tmp 15), none⟩,
  ⟨some 17, .move (.tmp 0), none⟩,
  ⟨some 18, .nilCheck (.tmp 17), none⟩,
  ⟨some 19, .fieldAddr 50 25 (.tmp 18), none⟩,
  ⟨some 20, .move (.tmp 3), none⟩])
 (.reg [⟨some 21, .call (.cst (.func (.func 67) [] [])) [(.tmp 13), (.tmp 16), (.tmp 19), (.tmp 20)], none⟩]))))
 (.reg [⟨some 22, .bin .add (.tmp 8) (.cst (.int .i64 1)), none⟩,
  ⟨some 8, .move (.tmp 22), none⟩])))
/- (*tollhouse/keccak.sponge).all -/
def F63 : AFn := ⟨26, false, 1, [], .seq
 (.seq
 (.reg [⟨some 4, .move (.tmp 0), none⟩,
  ⟨some 5, .nilCheck (.tmp 4), none⟩,
  ⟨some 6, .fieldAddr 75 24 (.tmp 5), none⟩,
  ⟨some 7, .load (some 24) (.tmp 6), none⟩,
  ⟨some 8, .move (.cst (.int .i64 0)), none⟩])
 (.block 0
 (.loop [0, 7, 8] true L63_0)))
 (.reg [⟨some 23, .move (.tmp 0), none⟩,
  ⟨some 24, .nilCheck (.tmp 23), none⟩,
  ⟨some 25, .fieldAddr 100 1 (.tmp 24), none⟩,
  ⟨none, .store 1 (.tmp 25) (.cst (.int .i64 0)), none⟩])⟩
theorem c63 : compF Try.prog gl false [] [([0, 7, 8], true)] Try.f63 = some F63 := by kernel_rfl
def L64_0 : AC := .seq
 (.seq
 (.reg [⟨some 32, .move (.tmp 6), none⟩,
  ⟨some 33, .bin .lss (.tmp 32) (.cst (.int .i64 168)), none⟩])
 (.cond (.tmp 33)
 (.skip)
 (.exit 2)))
 (.seq
 (.block 3
 (.seq
 (.seq
 (.reg [⟨some 36, .move (.tmp 5), none⟩,
  ⟨some 37, .bin .rem (.tmp 36) (.cst (.int .i64 2)), none⟩,
  ⟨some 38, .bin .eql (.tmp 37) (.cst (.int .i64 1)), none⟩])
 (.cond (.tmp 38)
 (.seq
 (.regQ [⟨some 39, .move (.tmp 6), none⟩,
  ⟨some 40, .bin .quo (.tmp 39) (.cst (.int .i64 7)), none⟩,
  ⟨some 41, .move (.tmp 6), none⟩,
  ⟨some 42, .bin .quo (.tmp 41) (.cst (.int .i64 7)), none⟩,
  ⟨some 43, .fieldAddr 25 24 (.tmp 1), none⟩,
  ⟨some 44, .indexAddr (.arr 24) none (.tmp 43) (.tmp 42), none⟩,
  ⟨some 45, .load none (.tmp 44), none⟩,
  ⟨some 46, .move (.tmp 6), none⟩,
  ⟨some 47, .bin .rem (.tmp 46) (.cst (.int .i64 7)), none⟩,
  ⟨some 48, .bin .shl (.cst (.int .u64 1)) (.tmp 47), none⟩,
  ⟨some 49, .bin .sub (.tmp 48) (.cst (.int .u64 1)), none⟩,
  ⟨some 50, .bin .shl (.cst (.int .u64 1)) (.tmp 49), none⟩,
  ⟨some 51, .bin .or (.tmp 45) (.tmp 50), none⟩,
  ⟨some 52, .fieldAddr 25 24 (.tmp 1), none⟩,
  ⟨some 53, .indexAddr (.arr 24) none (.tmp 52) (.tmp 40), none⟩])
 (.reg [⟨none, .store 1 (.tmp 53) (.tmp 51), none⟩]))
 (.skip)))
 (.seq
 (.reg [⟨some 54, .move (.tmp 5), none⟩,
  ⟨some 55, .bin .mul (.cst (.int .i64 2)) (.tmp 54), none⟩,
  ⟨some 5, .move (.tmp 55), none⟩])
 (.seq
 (.reg [⟨some 56, .move (.tmp 5), none⟩,
  ⟨some 57, .bin .gtr (.tmp 56) (.cst (.int .i64 255)), none⟩])
 (.cond (.tmp 57)
 (.reg [⟨some 58, .move (.tmp 5), none⟩,
  ⟨some 59, .bin .sub (.tmp 58) (.cst (.int .i64 256)), none⟩,
  ⟨some 60, .bin .xor (.tmp 59) (.cst (.int .i64 113)), none⟩,
  ⟨some 5, .move (.tmp 60), none⟩])
 (.skip))))))
 (.reg [⟨some 34, .move (.tmp 6), none⟩,
  ⟨some 35, .bin .add (.tmp 34) (.cst (.int .i64 1)), none⟩,
  ⟨some 6, .move (.tmp 35), none⟩]))
def L64_1 : AC := .seq
 (.seq
 (.reg [⟨some 8, .move (.tmp 4), none⟩,
  ⟨some 9, .bin .lss (.tmp 8) (.cst (.int .i64 24)), none⟩])
 (.cond (.tmp 9)
 (.skip)
 (.exit 0)))
 (.seq
 (.block 1
 (.seq
 (.reg [⟨some 12, .move (.tmp 3), none⟩,
  ⟨some 13, .bin .mul (.cst (.int .i64 5)) (.tmp 12), none⟩,
  ⟨some 14, .move (.tmp 2), none⟩,
  ⟨some 15, .bin .add (.tmp 13) (.tmp 14), none⟩,
  ⟨some 16, .move (.tmp 4), none⟩,
  ⟨some 17, .bin .add (.tmp 16) (.cst (.int .i64 1)), none⟩,
  ⟨some 18, .move (.tmp 4), none⟩,
  ⟨some 19, .bin .add (.tmp 18) (.cst (.int .i64 2)), none⟩,
  ⟨some 20, .bin .mul (.tmp 17) (.tmp 19), none⟩,
  ⟨some 21, .bin .quo (.tmp 20) (.cst (.int .i64 2)), none⟩,
  ⟨some 22, .bin .rem (.tmp 21) (.cst (.int .i64 64)), none⟩,
  ⟨some 23, .fieldAddr 0 25 (.tmp 1), none⟩,
  ⟨some 24, .indexAddr (.arr 25) none (.tmp 23) (.tmp 15), none⟩,
  ⟨none, .store 1 (.tmp 24) (.tmp 22), none⟩])
 (.reg [⟨some 25, .move (.tmp 3), none⟩,
  ⟨some 26, .move (.tmp 2), none⟩,
  ⟨some 27, .bin .mul (.cst (.int .i64 2)) (.tmp 26), none⟩,
  ⟨some 28, .move (.tmp 3), none⟩,
  ⟨some 29, .bin .mul (.cst (.int .i64 3)) (.tmp 28), none⟩,
  ⟨some 30, .bin .add (.tmp 27) (.tmp 29), none⟩,
  ⟨some 31, .bin .rem (.tmp 30) (.cst (.int .i64 5)), none⟩,
  ⟨some 2, .move (.tmp 25), none⟩,
  ⟨some 3, .move (.tmp 31), none⟩])))
 (.reg [⟨some 10, .move (.tmp 4), none⟩,
  ⟨some 11, .bin .add (.tmp 10) (.cst (.int .i64 1)), none⟩,
  ⟨some 4, .move (.tmp 11), none⟩]))
/- tollhouse/tollhouseref03.All -/
def F64 : AFn := ⟨62, true, 0, [.cell 0 (some 49)], .seq
 (.reg [⟨some 0, .alloc [(.int .i64 0), (.int .i64 0), (.int .i64 0), (.int .i64 0), (.int .i64 0), (.int .i64 0), (.int .i64 0), (.int .i64 0), (.int .i64 0), (.int .i64 0), (.int .i64 0), (.int .i64 0), (.int .i64 0), (.int .i64 0), (.int .i64 0), (.int .i64 0), (.int .i64 0), (.int .i64 0), (.int .i64 0), (.int .i64 0), (.int .i64 0), (.int .i64 0), (.int .i64 0), (.int .i64 0), (.int .i64 0), (.int .u64 0), (.int .u64 0), (.int .u64 0), (.int .u64 0), (.int .u64 0), (.int .u64 0), (.int .u64 0), (.int .u64 0), (.int .u64 0), (.int .u64 0), (.int .u64 0), (.int .u64 0), (.int .u64 0), (.int .u64 0), (.int .u64 0), (.int .u64 0), (.int .u64 0), (.int .u64 0), (.int .u64 0), (.int .u64 0), (.int .u64 0), (.int .u64 0), (.int .u64 0), (.int .u64 0)], none⟩])
 (.seq
 (.reg [⟨some 7, .build [(.int .i64 0), (.int .i64 0), (.int .i64 0), (.int .i64 0), (.int .i64 0), (.int .i64 0), (.int .i64 0), (.int .i64 0), (.int .i64 0), (.int .i64 0), (.int .i64 0), (.int .i64 0), (.int .i64 0), (.int .i64 0), (.int .i64 0), (.int .i64 0), (.int .i64 0), (.int .i64 0), (.int .i64 0), (.int .i64 0), (.int .i64 0), (.int .i64 0), (.int .i64 0), (.int .i64 0), (.int .i64 0), (.int .u64 0), (.int .u64 0), (.int .u64 0), (.int .u64 0), (.int .u64 0), (.int .u64 0), (.int .u64 0), (.int .u64 0), (.int .u64 0), (.int .u64 0), (.int .u64 0), (.int .u64 0), (.int .u64 0), (.int .u64 0), (.int .u64 0), (.int .u64 0), (.int .u64 0), (.int .u64 0), (.int .u64 0), (.int .u64 0), (.int .u64 0), (.int .u64 0), (.int .u64 0), (.int .u64 0)] [], none⟩,
  ⟨some 1, .alloc [(.int .i64 0), (.int .i64 0), (.int .i64 0), (.int .i64 0), (.int .i64 0), (.int .i64 0), (.int .i64 0), (.int .i64 0), (.int .i64 0), (.int .i64 0), (.int .i64 0), (.int .i64 0), (.int .i64 0), (.int .i64 0), (.int .i64 0), (.int .i64 0), (.int .i64 0), (.int .i64 0), (.int .i64 0), (.int .i64 0), (.int .i64 0), (.int .i64 0), (.int .i64 0), (.int .i64 0), (.int .i64 0), (.int .u64 0), (.int .u64 0), (.int .u64 0), (.int .u64 0), (.int .u64 0), (.int .u64 0), (.int .u64 0), (.int .u64 0), (.int .u64 0), (.int .u64 0), (.int .u64 0), (.int .u64 0), (.int .u64 0), (.int .u64 0), (.int .u64 0), (.int .u64 0), (.int .u64 0), (.int .u64 0), (.int .u64 0), (.int .u64 0), (.int .u64 0), (.int .u64 0), (.int .u64 0), (.int .u64 0)], none⟩,
  ⟨none, .store 49 (.tmp 1) (.tmp 7), none⟩])
 (.seq
 (.reg [⟨some 2, .move (.cst (.int .i64 1)), none⟩,
  ⟨some 3, .move (.cst (.int .i64 0)), none⟩])
 (.seq
 (.seq
 (.reg [⟨some 4, .move (.cst (.int .i64 0)), none⟩])
 (.block 0
 (.loop [0, 1, 2, 3, 4] true L64_1)))
 (.seq
 (.reg [⟨some 5, .move (.cst (.int .i64 1)), none⟩])
 (.seq
 (.seq
 (.reg [⟨some 6, .move (.cst (.int .i64 0)), none⟩])
 (.block 2
 (.loop [0, 1, 5, 6] true L64_0)))
 (.seq
 (.reg [⟨some 61, .load (some 49) (.tmp 1), none⟩,
  ⟨none, .store 49 (.tmp 0) (.tmp 61), none⟩])
 (.ret)))))))⟩
theorem c64 : compF Try.prog gl true [] [([0, 1, 2, 3, 4], true), ([0, 1, 5, 6], true)] Try.f64 = some F64 := by kernel_rfl
def L65_0 : AC := .seq
 (.seq
 (.reg [⟨some 6, .move (.tmp 5), none⟩,
  ⟨some 7, .bin .lss (.tmp 6) (.cst (.int .i64 24)), none⟩])
 (.cond (.tmp 7)
 (.skip)
 (.exit 0)))
 (.seq
 (.block 1
 (.reg [⟨some 10, .move (.tmp 0), none⟩,
  ⟨some 11, .load (some 25) (.tmp 3), none⟩,
  ⟨some 12, .move (.tmp 5), none⟩,
  ⟨some 13, .call (.cst (.func (.func 68) [] [])) [(.tmp 10), (.tmp 11), (.tmp 12)], none⟩,
  ⟨none, .store 25 (.tmp 3) (.tmp 13), none⟩]))
 (.reg [⟨some 8, .move (.tmp 5), none⟩,
  ⟨some 9, .bin .add (.tmp 8) (.cst (.int .i64 1)), none⟩,
  ⟨some 5, .move (.tmp 9), none⟩]))
/- (*tollhouse/tollhouseref03.Table).rounds -/
def F65 : AFn := ⟨15, true, 2, [.cell 4 (some 25)], .seq
 (.reg [⟨some 3, .box (.tmp 1), none⟩,
  ⟨some 4, .alloc [(.int .u64 0), (.int .u64 0), (.int .u64 0), (.int .u64 0), (.int .u64 0), (.int .u64 0), (.int .u64 0), (.int .u64 0), (.int .u64 0), (.int .u64 0), (.int .u64 0), (.int .u64 0), (.int .u64 0), (.int .u64 0), (.int .u64 0), (.int .u64 0), (.int .u64 0), (.int .u64 0), (.int .u64 0), (.int .u64 0), (.int .u64 0), (.int .u64 0), (.int .u64 0), (.int .u64 0), (.int .u64 0)], none⟩])
 (.seq
 (.seq
 (.reg [⟨some 5, .move (.cst (.int .i64 0)), none⟩])
 (.block 0
 (.loop [0, 3, 4, 5] true L65_0)))
 (.seq
 (.reg [⟨some 14, .load (some 25) (.tmp 3), none⟩,
  ⟨none, .store 25 (.tmp 4) (.tmp 14), none⟩])
 (.ret)))⟩
theorem c65 : compF Try.prog gl true [] [([0, 3, 4, 5], true)] Try.f65 = some F65 := by kernel_rfl
/- tollhouse/keccak.next -/
def F66 : AFn := ⟨15, true, 2, [.tmp 4, .tmp 5], .seq
 (.reg [⟨some 4, .move (.cst (.int .i64 0)), none⟩,
  ⟨some 5, .move (.cst (.int .i64 0)), none⟩])
 (.seq
 (.reg [⟨some 6, .move (.tmp 1), none⟩,
  ⟨some 7, .move (.tmp 0), none⟩,
  ⟨some 8, .bin .mul (.cst (.int .i64 2)) (.tmp 7), none⟩,
  ⟨some 9, .bin .add (.tmp 8) (.cst (.int .i64 5)), none⟩,
  ⟨some 10, .move (.tmp 1), none⟩,
  ⟨some 11, .bin .mul (.cst (.int .i64 2)) (.tmp 10), none⟩,
  ⟨some 12, .bin .sub (.tmp 9) (.tmp 11), none⟩,
  ⟨some 13, .bin .add (.tmp 12) (.cst (.int .i64 5)), none⟩,
  ⟨some 14, .bin .rem (.tmp 13) (.cst (.int .i64 5)), none⟩,
  ⟨some 4, .move (.tmp 6), none⟩,
  ⟨some 5, .move (.tmp 14), none⟩])
 (.ret))⟩
theorem c66 : compF Try.prog gl true [] [] Try.f66 = some F66 := by kernel_rfl
def L67_0 : AC := .seq
 (.reg [⟨some 106, .bin .lss (.tmp 105) (.cst (.int .i64 5)), none⟩])
 (.seq
 (.cond (.tmp 106)
 (.skip)
 (.exit 8))
 (.seq
 (.block 9
 (.seq
 (.reg [⟨some 107, .move (.tmp 105), none⟩,
  ⟨some 16, .move (.tmp 107), none⟩])
 (.seq
 (.regQ [⟨some 108, .move (.tmp 0), none⟩,
  ⟨some 109, .move (.tmp 14), none⟩,
  ⟨some 110, .move (.tmp 16), none⟩,
  ⟨some 111, .bin .add (.tmp 109) (.tmp 110), none⟩,
  ⟨some 112, .move (.tmp 16), none⟩,
  ⟨some 113, .indexAddr (.arr 5) none (.tmp 15) (.tmp 112), none⟩,
  ⟨some 114, .load none (.tmp 113), none⟩,
  ⟨some 115, .move (.tmp 16), none⟩,
  ⟨some 116, .bin .add (.tmp 115) (.cst (.int .i64 2)), none⟩,
  ⟨some 117, .bin .rem (.tmp 116) (.cst (.int .i64 5)), none⟩,
  ⟨some 118, .indexAddr (.arr 5) none (.tmp 15) (.tmp 117), none⟩,
  ⟨some 119, .load none (.tmp 118), none⟩,
  ⟨some 120, .move (.tmp 16), none⟩,
  ⟨some 121, .bin .add (.tmp 120) (.cst (.int .i64 1)), none⟩,
  ⟨some 122, .bin .rem (.tmp 121) (.cst (.int .i64 5)), none⟩,
  ⟨some 123, .indexAddr (.arr 5) none (.tmp 15) (.tmp 122), none⟩,
  ⟨some 124, .load none (.tmp 123), none⟩,
  ⟨some 125, .bin .andNot (.tmp 119) (.tmp 124), none⟩,
  ⟨some 126, .bin .xor (.tmp 114) (.tmp 125), none⟩,
  ⟨some 127, .nilCheck (.tmp 108), none⟩,
  ⟨some 128, .indexAddr (.arr 25) none (.tmp 127) (.tmp 111), none⟩])
 (.reg [⟨none, .store 1 (.tmp 128) (.tmp 126), none⟩]))))
 (.reg [⟨some 129, .bin .add (.tmp 105) (.cst (.int .i64 1)), none⟩,
  ⟨some 105, .move (.tmp 129), none⟩])))
def L67_1 : AC := .seq
 (.seq
 (.reg [⟨some 97, .move (.tmp 14), none⟩,
  ⟨some 98, .bin .lss (.tmp 97) (.cst (.int .i64 25)), none⟩])
 (.cond (.tmp 98)
 (.skip)
 (.exit 6)))
 (.seq
 (.block 7
 (.seq
 (.reg [⟨some 101, .move (.tmp 14), none⟩,
  ⟨some 102, .slice (.arr 25) none (.tmp 10) (some (.tmp 101)) none none, none⟩,
  ⟨some 103, .toArr 5 (.tmp 102), none⟩,
  ⟨some 104, .load (some 5) (.tmp 103), none⟩,
  ⟨some 15, .alloc [(.int .u64 0), (.int .u64 0), (.int .u64 0), (.int .u64 0), (.int .u64 0)], none⟩,
  ⟨none, .store 5 (.tmp 15) (.tmp 104), none⟩])
 (.seq
 (.reg [⟨some 105, .move (.cst (.int .i64 0)), none⟩])
 (.block 8
 (.loop [0, 3, 10, 14, 15, 105] true L67_0)))))
 (.reg [⟨some 99, .move (.tmp 14), none⟩,
  ⟨some 100, .bin .add (.tmp 99) (.cst (.int .i64 5)), none⟩,
  ⟨some 14, .move (.tmp 100), none⟩]))
def L67_2 : AC := .seq
 (.seq
 (.reg [⟨some 73, .move (.tmp 13), none⟩,
  ⟨some 74, .bin .lss (.tmp 73) (.cst (.int .i64 25)), none⟩])
 (.cond (.tmp 74)
 (.skip)
 (.exit 4)))
 (.seq
 (.block 5
 (.seq
 (.regQ [⟨some 77, .move (.tmp 2), none⟩,
  ⟨some 78, .move (.tmp 13), none⟩,
  ⟨some 79, .nilCheck (.tmp 77), none⟩,
  ⟨some 80, .indexAddr (.arr 25) none (.tmp 79) (.tmp 78), none⟩,
  ⟨some 81, .load none (.tmp 80), none⟩,
  ⟨some 82, .move (.tmp 0), none⟩,
  ⟨some 83, .move (.tmp 13), none⟩,
  ⟨some 84, .nilCheck (.tmp 82), none⟩,
  ⟨some 85, .indexAddr (.arr 25) none (.tmp 84) (.tmp 83), none⟩,
  ⟨some 86, .load none (.tmp 85), none⟩,
  ⟨some 87, .move (.tmp 12), none⟩,
  ⟨some 88, .bin .xor (.tmp 86) (.tmp 87), none⟩,
  ⟨some 89, .move (.tmp 1), none⟩,
  ⟨some 90, .move (.tmp 13), none⟩,
  ⟨some 91, .nilCheck (.tmp 89), none⟩,
  ⟨some 92, .indexAddr (.arr 25) none (.tmp 91) (.tmp 90), none⟩,
  ⟨some 93, .load none (.tmp 92), none⟩,
  ⟨some 94, .call (.cst (.func (.func 69) [] [])) [(.tmp 88), (.tmp 93)], none⟩,
  ⟨some 95, .indexAddr (.arr 25) none (.tmp 10) (.tmp 81), none⟩])
 (.reg [⟨none, .store 1 (.tmp 95) (.tmp 94), none⟩])))
 (.reg [⟨some 75, .move (.tmp 13), none⟩,
  ⟨some 76, .bin .add (.tmp 75) (.cst (.int .i64 5)), none⟩,
  ⟨some 13, .move (.tmp 76), none⟩]))
def L67_3 : AC := .seq
 (.reg [⟨some 57, .bin .lss (.tmp 56) (.cst (.int .i64 5)), none⟩])
 (.seq
 (.cond (.tmp 57)
 (.skip)
 (.exit 2))
 (.seq
 (.block 3
 (.seq
 (.reg [⟨some 58, .move (.tmp 56), none⟩,
  ⟨some 11, .move (.tmp 58), none⟩])
 (.seq
 (.regQ [⟨some 59, .move (.tmp 11), none⟩,
  ⟨some 60, .bin .add (.tmp 59) (.cst (.int .i64 5)), none⟩,
  ⟨some 61, .bin .sub (.tmp 60) (.cst (.int .i64 1)), none⟩,
  ⟨some 62, .bin .rem (.tmp 61) (.cst (.int .i64 5)), none⟩,
  ⟨some 63, .indexAddr (.arr 5) none (.tmp 8) (.tmp 62), none⟩,
  ⟨some 64, .load none (.tmp 63), none⟩,
  ⟨some 65, .move (.tmp 11), none⟩,
  ⟨some 66, .bin .add (.tmp 65) (.cst (.int .i64 1)), none⟩,
  ⟨some 67, .bin .rem (.tmp 66) (.cst (.int .i64 5)), none⟩,
  ⟨some 68, .indexAddr (.arr 5) none (.tmp 8) (.tmp 67), none⟩,
  ⟨some 69, .load none (.tmp 68), none⟩,
  ⟨some 70, .call (.cst (.func (.func 69) [] [])) [(.tmp 69), (.cst (.int .i64 1))], none⟩,
  ⟨some 71, .bin .xor (.tmp 64) (.tmp 70), none⟩,
  ⟨some 12, .move (.tmp 71), none⟩])
 (.seq
 (.reg [⟨some 72, .move (.tmp 11), none⟩,
  ⟨some 13, .move (.tmp 72), none⟩])
 (.block 4
 (.loop [0, 1, 2, 3, 8, 10, 12, 13, 56] true L67_2))))))
 (.reg [⟨some 96, .bin .add (.tmp 56) (.cst (.int .i64 1)), none⟩,
  ⟨some 56, .move (.tmp 96), none⟩])))
def L67_4 : AC := .seq
 (.reg [⟨some 18, .bin .lss (.tmp 17) (.cst (.int .i64 5)), none⟩])
 (.seq
 (.cond (.tmp 18)
 (.skip)
 (.exit 0))
 (.seq
 (.block 1
 (.seq
 (.reg [⟨some 19, .move (.tmp 17), none⟩,
  ⟨some 9, .move (.tmp 19), none⟩])
 (.seq
 (.regQ [⟨some 20, .move (.tmp 9), none⟩,
  ⟨some 21, .move (.tmp 0), none⟩,
  ⟨some 22, .move (.tmp 9), none⟩,
  ⟨some 23, .nilCheck (.tmp 21), none⟩,
  ⟨some 24, .indexAddr (.arr 25) none (.tmp 23) (.tmp 22), none⟩,
  ⟨some 25, .load none (.tmp 24), none⟩,
  ⟨some 26, .move (.tmp 0), none⟩,
  ⟨some 27, .move (.tmp 9), none⟩,
  ⟨some 28, .bin .add (.tmp 27) (.cst (.int .i64 5)), none⟩,
  ⟨some 29, .nilCheck (.tmp 26), none⟩,
  ⟨some 30, .indexAddr (.arr 25) none (.tmp 29) (.tmp 28), none⟩,
  ⟨some 31, .load none (.tmp 30), none⟩,
  ⟨some 32, .bin .xor (.tmp 25) (.tmp 31), none⟩,
  ⟨some 33, .move (.tmp 0), none⟩,
  ⟨some 34, .move (.tmp 9), none⟩,
  ⟨some 35, .bin .add (.tmp 34) (.cst (.int .i64 10)), none⟩,
  ⟨some 36, .nilCheck (.tmp 33), none⟩,
  ⟨some 37, .indexAddr (.arr 25) none (.tmp 36) (.tmp 35), none⟩,
  ⟨some 38, .load none (.tmp 37), none⟩,
  ⟨some 39, .bin .xor (.tmp 32) (.tmp 38), none⟩,
  ⟨some 40, .move (.tmp 0), none⟩,
  ⟨some 41, .move (.tmp 9), none⟩,
  ⟨some 42, .bin .add (.tmp 41) (.cst (.int .i64 15)), none⟩,
  ⟨some 43, .nilCheck (.tmp 40), none⟩,
  ⟨some 44, .indexAddr (.arr 25) none (.tmp 43) (.tmp 42), none⟩,
  ⟨some 45, .load none (.tmp 44), none⟩,
  ⟨some 46, .bin .xor (.tmp 39) (.tmp 45), none⟩,
  ⟨some 47, .move (.tmp 0), none⟩,
  ⟨some 48, .move (.tmp 9), none⟩,
  ⟨some 49, .bin .add (.tmp 48) (.cst (.int .i64 20)), none⟩,
  ⟨some 50, .nilCheck (.tmp 47), none⟩,
  ⟨some 51, .indexAddr (.arr 25) none (.tmp 50) (.tmp 49), none⟩,
  ⟨some 52, .load none (.tmp 51), none⟩,
  ⟨some 53, .bin .xor (.tmp 46) (.tmp 52), none⟩,
  ⟨some 54, .indexAddr (.arr 5) none (.tmp 8) (.tmp 20), none⟩])
 (.reg [⟨none, .store 1 (.tmp 54) (.tmp 53), none⟩]))))
 (.reg [⟨some 55, .bin .add (.tmp 17) (.cst (.int .i64 1)), none⟩,
  ⟨some 17, .move (.tmp 55), none⟩])))
/- tollhouse/keccak.mix -/
def F67 : AFn := ⟨138, false, 4, [], .seq
 (.reg [⟨some 8, .alloc [(.int .u64 0), (.int .u64 0), (.int .u64 0), (.int .u64 0), (.int .u64 0)], none⟩])
 (.seq
 (.seq
 (.reg [⟨some 17, .move (.cst (.int .i64 0)), none⟩])
 (.block 0
 (.loop [0, 1, 2, 3, 8, 17] true L67_4)))
 (.seq
 (.reg [⟨some 10, .alloc [(.int .u64 0), (.int .u64 0), (.int .u64 0), (.int .u64 0), (.int .u64 0), (.int .u64 0), (.int .u64 0), (.int .u64 0), (.int .u64 0), (.int .u64 0), (.int .u64 0), (.int .u64 0), (.int .u64 0), (.int .u64 0), (.int .u64 0), (.int .u64 0), (.int .u64 0), (.int .u64 0), (.int .u64 0), (.int .u64 0), (.int .u64 0), (.int .u64 0), (.int .u64 0), (.int .u64 0), (.int .u64 0)], none⟩])
 (.seq
 (.seq
 (.reg [⟨some 56, .move (.cst (.int .i64 0)), none⟩])
 (.block 2
 (.loop [0, 1, 2, 3, 8, 10, 56] true L67_3)))
 (.seq
 (.seq
 (.reg [⟨some 14, .move (.cst (.int .i64 0)), none⟩])
 (.block 6
 (.loop [0, 3, 10, 14] true L67_1)))
 (.seq
 (.regQ [⟨some 130, .move (.tmp 0), none⟩,
  ⟨some 131, .nilCheck (.tmp 130), none⟩,
  ⟨some 132, .indexAddr (.arr 25) none (.tmp 131) (.cst (.int .i64 0)), none⟩,
  ⟨some 133, .load none (.tmp 132), none⟩,
  ⟨some 134, .move (.tmp 3), none⟩,
  ⟨some 135, .bin .xor (.tmp 133) (.tmp 134), none⟩,
  ⟨some 136, .nilCheck (.tmp 130), none⟩,
  ⟨some 137, .indexAddr (.arr 25) none (.tmp 136) (.cst (.int .i64 0)), none⟩])
 (.reg [⟨none, .store 1 (.tmp 137) (.tmp 135), none⟩]))))))⟩
theorem c67 : compF Try.prog gl false [] [([0, 1, 2, 3, 8, 17], true), ([0, 1, 2, 3, 8, 10, 56], true), ([0, 1, 2, 3, 8, 10, 12, 13, 56], true), ([0, 3, 10, 14], true), ([0, 3, 10, 14, 15, 105], true)] Try.f67 = some F67 := by kernel_rfl
def L68_0 : AC := .seq
 (.seq
 (.reg [⟨some 106, .move (.tmp 16), none⟩,
  ⟨some 107, .bin .lss (.tmp 106) (.cst (.int .i64 5)), none⟩])
 (.cond (.tmp 107)
 (.skip)
 (.exit 10)))
 (.seq
 (.block 11
 (.seq
 (.regQ [⟨some 110, .move (.tmp 16), none⟩,
  ⟨some 111, .bin .mul (.cst (.int .i64 5)) (.tmp 110), none⟩,
  ⟨some 112, .move (.tmp 15), none⟩,
  ⟨some 113, .bin .add (.tmp 111) (.tmp 112), none⟩,
  ⟨some 114, .move (.tmp 16), none⟩,
  ⟨some 115, .bin .mul (.cst (.int .i64 5)) (.tmp 114), none⟩,
  ⟨some 116, .move (.tmp 15), none⟩,
  ⟨some 117, .bin .add (.tmp 115) (.tmp 116), none⟩,
  ⟨some 118, .indexAddr (.arr 25) none (.tmp 11) (.tmp 117), none⟩,
  ⟨some 119, .load none (.tmp 118), none⟩,
  ⟨some 120, .move (.tmp 16), none⟩,
  ⟨some 121, .bin .mul (.cst (.int .i64 5)) (.tmp 120), none⟩,
  ⟨some 122, .move (.tmp 15), none⟩,
  ⟨some 123, .bin .add (.tmp 122) (.cst (.int .i64 1)), none⟩,
  ⟨some 124, .bin .rem (.tmp 123) (.cst (.int .i64 5)), none⟩,
  ⟨some 125, .bin .add (.tmp 121) (.tmp 124), none⟩,
  ⟨some 126, .indexAddr (.arr 25) none (.tmp 11) (.tmp 125), none⟩,
  ⟨some 127, .load none (.tmp 126), none⟩,
  ⟨some 128, .un .xor (.tmp 127), none⟩,
  ⟨some 129, .move (.tmp 16), none⟩,
  ⟨some 130, .bin .mul (.cst (.int .i64 5)) (.tmp 129), none⟩,
  ⟨some 131, .move (.tmp 15), none⟩,
  ⟨some 132, .bin .add (.tmp 131) (.cst (.int .i64 2)), none⟩,
  ⟨some 133, .bin .rem (.tmp 132) (.cst (.int .i64 5)), none⟩,
  ⟨some 134, .bin .add (.tmp 130) (.tmp 133), none⟩,
  ⟨some 135, .indexAddr (.arr 25) none (.tmp 11) (.tmp 134), none⟩,
  ⟨some 136, .load none (.tmp 135), none⟩,
  ⟨some 137, .bin .and (.tmp 128) (.tmp 136), none⟩,
  ⟨some 138, .bin .xor (.tmp 119) (.tmp 137), none⟩,
  ⟨some 139, .indexAddr (.arr 25) none (.tmp 12) (.tmp 113), none⟩])
 (.reg [⟨none, .store 1 (.tmp 139) (.tmp 138), none⟩])))
 (.reg [⟨some 108, .move (.tmp 16), none⟩,
  ⟨some 109, .bin .add (.tmp 108) (.cst (.int .i64 1)), none⟩,
  ⟨some 16, .move (.tmp 109), none⟩]))
def L68_1 : AC := .seq
 (.seq
 (.reg [⟨some 102, .move (.tmp 15), none⟩,
  ⟨some 103, .bin .lss (.tmp 102) (.cst (.int .i64 5)), none⟩])
 (.cond (.tmp 103)
 (.skip)
 (.exit 8)))
 (.seq
 (.block 9
 (.seq
 (.reg [⟨some 16, .move (.cst (.int .i64 0)), none⟩])
 (.block 10
 (.loop [0, 2, 6, 11, 12, 15, 16] true L68_0))))
 (.reg [⟨some 104, .move (.tmp 15), none⟩,
  ⟨some 105, .bin .add (.tmp 104) (.cst (.int .i64 1)), none⟩,
  ⟨some 15, .move (.tmp 105), none⟩]))
def L68_2 : AC := .seq
 (.seq
 (.reg [⟨some 68, .move (.tmp 14), none⟩,
  ⟨some 69, .bin .lss (.tmp 68) (.cst (.int .i64 5)), none⟩])
 (.cond (.tmp 69)
 (.skip)
 (.exit 6)))
 (.seq
 (.block 7
 (.seq
 (.regQ [⟨some 72, .move (.tmp 13), none⟩,
  ⟨some 73, .bin .mul (.cst (.int .i64 2)) (.tmp 72), none⟩,
  ⟨some 74, .move (.tmp 14), none⟩,
  ⟨some 75, .bin .mul (.cst (.int .i64 3)) (.tmp 74), none⟩,
  ⟨some 76, .bin .add (.tmp 73) (.tmp 75), none⟩,
  ⟨some 77, .bin .rem (.tmp 76) (.cst (.int .i64 5)), none⟩,
  ⟨some 78, .bin .mul (.cst (.int .i64 5)) (.tmp 77), none⟩,
  ⟨some 79, .move (.tmp 14), none⟩,
  ⟨some 80, .bin .add (.tmp 78) (.tmp 79), none⟩,
  ⟨some 81, .move (.tmp 0), none⟩,
  ⟨some 82, .move (.tmp 14), none⟩,
  ⟨some 83, .bin .mul (.cst (.int .i64 5)) (.tmp 82), none⟩,
  ⟨some 84, .move (.tmp 13), none⟩,
  ⟨some 85, .bin .add (.tmp 83) (.tmp 84), none⟩,
  ⟨some 86, .nilCheck (.tmp 81), none⟩,
  ⟨some 87, .fieldAddr 0 25 (.tmp 86), none⟩,
  ⟨some 88, .indexAddr (.arr 25) none (.tmp 87) (.tmp 85), none⟩,
  ⟨some 89, .load none (.tmp 88), none⟩,
  ⟨some 90, .move (.tmp 14), none⟩,
  ⟨some 91, .bin .mul (.cst (.int .i64 5)) (.tmp 90), none⟩,
  ⟨some 92, .move (.tmp 13), none⟩,
  ⟨some 93, .bin .add (.tmp 91) (.tmp 92), none⟩,
  ⟨some 94, .indexAddr (.arr 25) none (.tmp 4) (.tmp 93), none⟩,
  ⟨some 95, .load none (.tmp 94), none⟩,
  ⟨some 96, .move (.tmp 13), none⟩,
  ⟨some 97, .indexAddr (.arr 5) none (.tmp 8) (.tmp 96), none⟩,
  ⟨some 98, .load none (.tmp 97), none⟩,
  ⟨some 99, .bin .xor (.tmp 95) (.tmp 98), none⟩,
  ⟨some 100, .call (.cst (.func (.func 70) [] [])) [(.tmp 89), (.tmp 99)], none⟩,
  ⟨some 101, .indexAddr (.arr 25) none (.tmp 11) (.tmp 80), none⟩])
 (.reg [⟨none, .store 1 (.tmp 101) (.tmp 100), none⟩])))
 (.reg [⟨some 70, .move (.tmp 14), none⟩,
  ⟨some 71, .bin .add (.tmp 70) (.cst (.int .i64 1)), none⟩,
  ⟨some 14, .move (.tmp 71), none⟩]))
def L68_3 : AC := .seq
 (.seq
 (.reg [⟨some 64, .move (.tmp 13), none⟩,
  ⟨some 65, .bin .lss (.tmp 64) (.cst (.int .i64 5)), none⟩])
 (.cond (.tmp 65)
 (.skip)
 (.exit 4)))
 (.seq
 (.block 5
 (.seq
 (.reg [⟨some 14, .move (.cst (.int .i64 0)), none⟩])
 (.block 6
 (.loop [0, 2, 4, 6, 8, 11, 12, 13, 14] true L68_2))))
 (.reg [⟨some 66, .move (.tmp 13), none⟩,
  ⟨some 67, .bin .add (.tmp 66) (.cst (.int .i64 1)), none⟩,
  ⟨some 13, .move (.tmp 67), none⟩]))
def L68_4 : AC := .seq
 (.seq
 (.reg [⟨some 46, .move (.tmp 10), none⟩,
  ⟨some 47, .bin .lss (.tmp 46) (.cst (.int .i64 5)), none⟩])
 (.cond (.tmp 47)
 (.skip)
 (.exit 2)))
 (.seq
 (.block 3
 (.seq
 (.regQ [⟨some 50, .move (.tmp 10), none⟩,
  ⟨some 51, .move (.tmp 10), none⟩,
  ⟨some 52, .bin .add (.tmp 51) (.cst (.int .i64 4)), none⟩,
  ⟨some 53, .bin .rem (.tmp 52) (.cst (.int .i64 5)), none⟩,
  ⟨some 54, .indexAddr (.arr 5) none (.tmp 7) (.tmp 53), none⟩,
  ⟨some 55, .load none (.tmp 54), none⟩,
  ⟨some 56, .move (.tmp 10), none⟩,
  ⟨some 57, .bin .add (.tmp 56) (.cst (.int .i64 1)), none⟩,
  ⟨some 58, .bin .rem (.tmp 57) (.cst (.int .i64 5)), none⟩,
  ⟨some 59, .indexAddr (.arr 5) none (.tmp 7) (.tmp 58), none⟩,
  ⟨some 60, .load none (.tmp 59), none⟩,
  ⟨some 61, .call (.cst (.func (.func 70) [] [])) [(.cst (.int .i64 1)), (.tmp 60)], none⟩,
  ⟨some 62, .bin .xor (.tmp 55) (.tmp 61), none⟩,
  ⟨some 63, .indexAddr (.arr 5) none (.tmp 8) (.tmp 50), none⟩])
 (.reg [⟨none, .store 1 (.tmp 63) (.tmp 62), none⟩])))
 (.reg [⟨some 48, .move (.tmp 10), none⟩,
  ⟨some 49, .bin .add (.tmp 48) (.cst (.int .i64 1)), none⟩,
  ⟨some 10, .move (.tmp 49), none⟩]))
def L68_5 : AC := .seq
 (.seq
 (.reg [⟨some 17, .move (.tmp 9), none⟩,
  ⟨some 18, .bin .lss (.tmp 17) (.cst (.int .i64 5)), none⟩])
 (.cond (.tmp 18)
 (.skip)
 (.exit 0)))
 (.seq
 (.block 1
 (.seq
 (.regQ [⟨some 21, .move (.tmp 9), none⟩,
  ⟨some 22, .move (.tmp 9), none⟩,
  ⟨some 23, .indexAddr (.arr 25) none (.tmp 4) (.tmp 22), none⟩,
  ⟨some 24, .load none (.tmp 23), none⟩,
  ⟨some 25, .move (.tmp 9), none⟩,
  ⟨some 26, .bin .add (.cst (.int .i64 5)) (.tmp 25), none⟩,
  ⟨some 27, .indexAddr (.arr 25) none (.tmp 4) (.tmp 26), none⟩,
  ⟨some 28, .load none (.tmp 27), none⟩,
  ⟨some 29, .bin .xor (.tmp 24) (.tmp 28), none⟩,
  ⟨some 30, .move (.tmp 9), none⟩,
  ⟨some 31, .bin .add (.cst (.int .i64 10)) (.tmp 30), none⟩,
  ⟨some 32, .indexAddr (.arr 25) none (.tmp 4) (.tmp 31), none⟩,
  ⟨some 33, .load none (.tmp 32), none⟩,
  ⟨some 34, .bin .xor (.tmp 29) (.tmp 33), none⟩,
  ⟨some 35, .move (.tmp 9), none⟩,
  ⟨some 36, .bin .add (.cst (.int .i64 15)) (.tmp 35), none⟩,
  ⟨some 37, .indexAddr (.arr 25) none (.tmp 4) (.tmp 36), none⟩,
  ⟨some 38, .load none (.tmp 37), none⟩,
  ⟨some 39, .bin .xor (.tmp 34) (.tmp 38), none⟩,
  ⟨some 40, .move (.tmp 9), none⟩,
  ⟨some 41, .bin .add (.cst (.int .i64 20)) (.tmp 40), none⟩,
  ⟨some 42, .indexAddr (.arr 25) none (.tmp 4) (.tmp 41), none⟩,
  ⟨some 43, .load none (.tmp 42), none⟩,
  ⟨some 44, .bin .xor (.tmp 39) (.tmp 43), none⟩,
  ⟨some 45, .indexAddr (.arr 5) none (.tmp 7) (.tmp 21), none⟩])
 (.reg [⟨none, .store 1 (.tmp 45) (.tmp 44), none⟩])))
 (.reg [⟨some 19, .move (.tmp 9), none⟩,
  ⟨some 20, .bin .add (.tmp 19) (.cst (.int .i64 1)), none⟩,
  ⟨some 9, .move (.tmp 20), none⟩]))
/- (*tollhouse/tollhouseref03.Table).round -/
def F68 : AFn := ⟨151, true, 3, [.cell 6 (some 25)], .seq
 (.reg [⟨some 4, .box (.tmp 1), none⟩,
  ⟨some 6, .alloc [(.int .u64 0), (.int .u64 0), (.int .u64 0), (.int .u64 0), (.int .u64 0), (.int .u64 0), (.int .u64 0), (.int .u64 0), (.int .u64 0), (.int .u64 0), (.int .u64 0), (.int .u64 0), (.int .u64 0), (.int .u64 0), (.int .u64 0), (.int .u64 0), (.int .u64 0), (.int .u64 0), (.int .u64 0), (.int .u64 0), (.int .u64 0), (.int .u64 0), (.int .u64 0), (.int .u64 0), (.int .u64 0)], none⟩])
 (.seq
 (.reg [⟨some 7, .alloc [(.int .u64 0), (.int .u64 0), (.int .u64 0), (.int .u64 0), (.int .u64 0)], none⟩,
  ⟨some 8, .alloc [(.int .u64 0), (.int .u64 0), (.int .u64 0), (.int .u64 0), (.int .u64 0)], none⟩])
 (.seq
 (.seq
 (.reg [⟨some 9, .move (.cst (.int .i64 0)), none⟩])
 (.block 0
 (.loop [0, 2, 4, 6, 7, 8, 9] true L68_5)))
 (.seq
 (.seq
 (.reg [⟨some 10, .move (.cst (.int .i64 0)), none⟩])
 (.block 2
 (.loop [0, 2, 4, 6, 7, 8, 10] true L68_4)))
 (.seq
 (.reg [⟨some 11, .alloc [(.int .u64 0), (.int .u64 0), (.int .u64 0), (.int .u64 0), (.int .u64 0), (.int .u64 0), (.int .u64 0), (.int .u64 0), (.int .u64 0), (.int .u64 0), (.int .u64 0), (.int .u64 0), (.int .u64 0), (.int .u64 0), (.int .u64 0), (.int .u64 0), (.int .u64 0), (.int .u64 0), (.int .u64 0), (.int .u64 0), (.int .u64 0), (.int .u64 0), (.int .u64 0), (.int .u64 0), (.int .u64 0)], none⟩,
  ⟨some 12, .alloc [(.int .u64 0), (.int .u64 0), (.int .u64 0), (.int .u64 0), (.int .u64 0), (.int .u64 0), (.int .u64 0), (.int .u64 0), (.int .u64 0), (.int .u64 0), (.int .u64 0), (.int .u64 0), (.int .u64 0), (.int .u64 0), (.int .u64 0), (.int .u64 0), (.int .u64 0), (.int .u64 0), (.int .u64 0), (.int .u64 0), (.int .u64 0), (.int .u64 0), (.int .u64 0), (.int .u64 0), (.int .u64 0)], none⟩])
 (.seq
 (.seq
 (.reg [⟨some 13, .move (.cst (.int .i64 0)), none⟩])
 (.block 4
 (.loop [0, 2, 4, 6, 8, 11, 12, 13] true L68_3)))
 (.seq
 (.seq
 (.reg [⟨some 15, .move (.cst (.int .i64 0)), none⟩])
 (.block 8
 (.loop [0, 2, 6, 11, 12, 15] true L68_1)))
 (.seq
 (.seq
 (.regQ [⟨some 140, .indexAddr (.arr 25) none (.tmp 12) (.cst (.int .i64 0)), none⟩,
  ⟨some 141, .load none (.tmp 140), none⟩,
  ⟨some 142, .move (.tmp 0), none⟩,
  ⟨some 143, .move (.tmp 2), none⟩,
  ⟨some 144, .nilCheck (.tmp 142), none⟩,
  ⟨some 145, .fieldAddr 25 24 (.tmp 144), none⟩,
  ⟨some 146, .indexAddr (.arr 24) none (.tmp 145) (.tmp 143), none⟩,
  ⟨some 147, .load none (.tmp 146), none⟩,
  ⟨some 148, .bin .xor (.tmp 141) (.tmp 147), none⟩,
  ⟨some 149, .indexAddr (.arr 25) none (.tmp 12) (.cst (.int .i64 0)), none⟩])
 (.reg [⟨none, .store 1 (.tmp 149) (.tmp 148), none⟩]))
 (.seq
 (.reg [⟨some 150, .load (some 25) (.tmp 12), none⟩,
  ⟨none, .store 25 (.tmp 6) (.tmp 150), none⟩])
 (.ret)))))))))⟩
theorem c68 : compF Try.prog gl true [] [([0, 2, 4, 6, 7, 8, 9], true), ([0, 2, 4, 6, 7, 8, 10], true), ([0, 2, 4, 6, 8, 11, 12, 13], true), ([0, 2, 4, 6, 8, 11, 12, 13, 14], true), ([0, 2, 6, 11, 12, 15], true), ([0, 2, 6, 11, 12, 15, 16], true)] Try.f68 = some F68 := by kernel_rfl
/- math/bits.RotateLeft64 -/
def F69 : AFn := ⟨17, true, 2, [.tmp 4], .seq
 (.reg [⟨some 4, .move (.cst (.int .u64 0)), none⟩])
 (.seq
 (.reg [⟨some 6, .move (.tmp 1), none⟩,
  ⟨some 7, .convInt .u64 (.tmp 6), none⟩,
  ⟨some 8, .bin .and (.tmp 7) (.cst (.int .u64 63)), none⟩,
  ⟨some 5, .move (.tmp 8), none⟩])
 (.seq
 (.reg [⟨some 9, .move (.tmp 0), none⟩,
  ⟨some 10, .move (.tmp 5), none⟩,
  ⟨some 11, .bin .shl (.tmp 9) (.tmp 10), none⟩,
  ⟨some 12, .move (.tmp 0), none⟩,
  ⟨some 13, .move (.tmp 5), none⟩,
  ⟨some 14, .bin .sub (.cst (.int .u64 64)) (.tmp 13), none⟩,
  ⟨some 15, .bin .shr (.tmp 12) (.tmp 14), none⟩,
  ⟨some 16, .bin .or (.tmp 11) (.tmp 15), none⟩,
  ⟨some 4, .move (.tmp 16), none⟩])
 (.ret)))⟩
theorem c69 : compF Try.prog gl true [] [] Try.f69 = some F69 := by kernel_rfl
/- tollhouse/tollhouseref03.left -/
def F70 : AFn := ⟨13, true, 2, [.tmp 4], .seq
 (.reg [⟨some 4, .move (.cst (.int .u64 0)), none⟩])
 (.seq
 (.regQ [⟨some 5, .move (.tmp 1), none⟩,
  ⟨some 6, .move (.tmp 0), none⟩,
  ⟨some 7, .bin .shl (.tmp 5) (.tmp 6), none⟩,
  ⟨some 8, .move (.tmp 1), none⟩,
  ⟨some 9, .move (.tmp 0), none⟩,
  ⟨some 10, .bin .sub (.cst (.int .i64 64)) (.tmp 9), none⟩,
  ⟨some 11, .bin .shr (.tmp 8) (.tmp 10), none⟩,
  ⟨some 12, .bin .or (.tmp 7) (.tmp 11), none⟩,
  ⟨some 4, .move (.tmp 12), none⟩])
 (.ret))⟩
theorem c70 : compF Try.prog gl true [] [] Try.f70 = some F70 := by kernel_rfl
def fns : List (Nat × AFn) := [(3, F3), (6, F6), (7, F7), (8, F8), (9, F9), (10, F10), (11, F11), (12, F12), (13, F13), (14, F14), (15, F15), (16, F16), (17, F17), (18, F18), (19, F19), (20, F20), (21, F21), (22, F22), (23, F23), (24, F24), (25, F25), (26, F26), (27, F27), (28, F28), (29, F29), (30, F30), (31, F31), (32, F32), (33, F33), (34, F34), (35, F35), (36, F36), (37, F37), (38, F38), (39, F39), (40, F40), (41, F41), (42, F42), (43, F43), (44, F44), (45, F45), (46, F46), (47, F47), (48, F48), (49, F49), (51, F51), (52, F52), (53, F53), (54, F54), (55, F55), (56, F56), (57, F57), (58, F58), (60, F60), (61, F61), (62, F62), (63, F63), (64, F64), (65, F65), (66, F66), (67, F67), (68, F68), (69, F69), (70, F70)]
def nats : List (Nat × (List AV → Heap → Option (AV × Heap))) := [(50, growG)]
def exts : List (Nat × (List AV → Option AV)) := [(42, cloneE none 1), (46, ixE)]
def T : Tab := ⟨fun n => exts.lookup n, fun n => fns.lookup n, fun n => nats.lookup n⟩
theorem lookup_mem {α : Type} {f : Nat} {F : α} : ∀ {l : List (Nat × α)}, l.lookup f = some F → (f, F) ∈ l
  | [], h => by cases h
  | (g, G) :: r, h => by
    rw [List.lookup_cons] at h
    split at h
    · rename_i hb; cases h; rw [eq_of_beq hb]; exact List.mem_cons_self
    · exact List.mem_cons_of_mem _ (lookup_mem h)
theorem fnsOK : ∀ p ∈ fns, FnOK Try.prog gl p.1 p.2 := by
  intro p hp
  simp only [fns, List.mem_cons, List.not_mem_nil, or_false] at hp
  rcases hp with rfl | rfl | rfl | rfl | rfl | rfl | rfl | rfl | rfl | rfl | rfl | rfl | rfl | rfl | rfl | rfl | rfl | rfl | rfl | rfl | rfl | rfl | rfl | rfl | rfl | rfl | rfl | rfl | rfl | rfl | rfl | rfl | rfl | rfl | rfl | rfl | rfl | rfl | rfl | rfl | rfl | rfl | rfl | rfl | rfl | rfl | rfl | rfl | rfl | rfl | rfl | rfl | rfl | rfl | rfl | rfl | rfl | rfl | rfl | rfl | rfl | rfl | rfl | rfl
  · exact ⟨_, _, _, _, Try.func3, c3⟩
  · exact ⟨_, _, _, _, Try.func6, c6⟩
  · exact ⟨_, _, _, _, Try.func7, c7⟩
  · exact ⟨_, _, _, _, Try.func8, c8⟩
  · exact ⟨_, _, _, _, Try.func9, c9⟩
  · exact ⟨_, _, _, _, Try.func10, c10⟩
  · exact ⟨_, _, _, _, Try.func11, c11⟩
  · exact ⟨_, _, _, _, Try.func12, c12⟩
  · exact ⟨_, _, _, _, Try.func13, c13⟩
  · exact ⟨_, _, _, _, Try.func14, c14⟩
  · exact ⟨_, _, _, _, Try.func15, c15⟩
  · exact ⟨_, _, _, _, Try.func16, c16⟩
  · exact ⟨_, _, _, _, Try.func17, c17⟩
  · exact ⟨_, _, _, _, Try.func18, c18⟩
  · exact ⟨_, _, _, _, Try.func19, c19⟩
  · exact ⟨_, _, _, _, Try.func20, c20⟩
  · exact ⟨_, _, _, _, Try.func21, c21⟩
  · exact ⟨_, _, _, _, Try.func22, c22⟩
  · exact ⟨_, _, _, _, Try.func23, c23⟩
  · exact ⟨_, _, _, _, Try.func24, c24⟩
  · exact ⟨_, _, _, _, Try.func25, c25⟩
  · exact ⟨_, _, _, _, Try.func26, c26⟩
  · exact ⟨_, _, _, _, Try.func27, c27⟩
  · exact ⟨_, _, _, _, Try.func28, c28⟩
  · exact ⟨_, _, _, _, Try.func29, c29⟩
  · exact ⟨_, _, _, _, Try.func30, c30⟩
  · exact ⟨_, _, _, _, Try.func31, c31⟩
  · exact ⟨_, _, _, _, Try.func32, c32⟩
  · exact ⟨_, _, _, _, Try.func33, c33⟩
  · exact ⟨_, _, _, _, Try.func34, c34⟩
  · exact ⟨_, _, _, _, Try.func35, c35⟩
  · exact ⟨_, _, _, _, Try.func36, c36⟩
  · exact ⟨_, _, _, _, Try.func37, c37⟩
  · exact ⟨_, _, _, _, Try.func38, c38⟩
  · exact ⟨_, _, _, _, Try.func39, c39⟩
  · exact ⟨_, _, _, _, Try.func40, c40⟩
  · exact ⟨_, _, _, _, Try.func41, c41⟩
  · exact ⟨_, _, _, _, Try.func42, c42⟩
  · exact ⟨_, _, _, _, Try.func43, c43⟩
  · exact ⟨_, _, _, _, Try.func44, c44⟩
  · exact ⟨_, _, _, _, Try.func45, c45⟩
  · exact ⟨_, _, _, _, Try.func46, c46⟩
  · exact ⟨_, _, _, _, Try.func47, c47⟩
  · exact ⟨_, _, _, _, Try.func48, c48⟩
  · exact ⟨_, _, _, _, Try.func49, c49⟩
  · exact ⟨_, _, _, _, Try.func51, c51⟩
  · exact ⟨_, _, _, _, Try.func52, c52⟩
  · exact ⟨_, _, _, _, Try.func53, c53⟩
  · exact ⟨_, _, _, _, Try.func54, c54⟩
  · exact ⟨_, _, _, _, Try.func55, c55⟩
  · exact ⟨_, _, _, _, Try.func56, c56⟩
  · exact ⟨_, _, _, _, Try.func57, c57⟩
  · exact ⟨_, _, _, _, Try.func58, c58⟩
  · exact ⟨_, _, _, _, Try.func60, c60⟩
  · exact ⟨_, _, _, _, Try.func61, c61⟩
  · exact ⟨_, _, _, _, Try.func62, c62⟩
  · exact ⟨_, _, _, _, Try.func63, c63⟩
  · exact ⟨_, _, _, _, Try.func64, c64⟩
  · exact ⟨_, _, _, _, Try.func65, c65⟩
  · exact ⟨_, _, _, _, Try.func66, c66⟩
  · exact ⟨_, _, _, _, Try.func67, c67⟩
  · exact ⟨_, _, _, _, Try.func68, c68⟩
  · exact ⟨_, _, _, _, Try.func69, c69⟩
  · exact ⟨_, _, _, _, Try.func70, c70⟩
theorem natsOK : ∀ p ∈ nats, Callable Try.prog p.1 ∧ ∀ (args : List AV) (h : Heap) (v : AV) (h2 : Heap), p.2 args h = some (v, h2) → ∀ (S : St) (B : Nat) (W : World) (cargs : Array Value), Rel S h B W → VL S args cargs.toList → GlobOK gl S.imm → Calls Try.prog p.1 cargs W (GPost S h2 v B W) := by
  intro p hp
  simp only [nats, List.mem_cons, List.not_mem_nil, or_false] at hp
  rcases hp with rfl
  · exact ⟨grow_nat.1, fun args h v h2 hx S B W cargs r hv hg => grow_nat.2 args h v h2 hx gl S B W cargs r hv hg⟩
theorem mixed : Try.prog.follows .mixedOrders = true := by kernel_rfl
theorem x42 : PSound Try.prog gl 42 (cloneE none 1) := by
  refine clone_PSound mixed ⟨_, _, _, _, Try.func42, c42⟩ rfl (fun o els ho he hc hf => ?_) (fun a cap => ?_) (fun cap => ?_)
  · obtain ⟨y, ys, rfl⟩ := List.exists_cons_of_ne_nil he
    have hf' : fitsB (0 + (y :: ys).length) 1 = true := by rw [Nat.zero_add]; exact hf
    rcases ho with rfl | rfl
    all_goals
      refine WP_eq (prun_wp ?_)
      simp -implicitDefEqProofs (disch := omega) only [F42, isNil, elemsOf, setEls, aappend, List.replicate_zero, hf', initE, ax_seq, ax_skip, ax_ret, ax_exit, ax_scope, ax_regK, ax_regQK, ax_condK, ax_blockK, condK_t, condK_f, blkR_normal, blkR_ret, blkR_if, norR_eq, norQ_eq, nextR_normal, nextR_ret, nextR_exit, aops_nil, aops_none, aops_some, opsK_some, opsG_tt, opsG_ft, opsG_tf, opsG_ff, aopsQ_nil, aopsQ_none, aopsQ_some, quiK_some, quiG_tt, quiG_ft, quiG_tf, quiG_ff, aop, evO_tmp, evO_cst, getE_cons, setE_some, setE_none, bin_leq, bin_geq, bin_lss, bin_gtr, bin_eql, bin_neq, bin_add, bin_sub, bin_mul, Option.bind_some, Option.map_some, Option.bind_none, Option.map_none, Nat.reduceEqDiff, ↓reduceIte, Nat.reduceAdd, finish, resOf, tupOf, frz_eq, AM.freeze, freezeL, closed, nam, namL, if_true, if_false, Bool.false_eq_true, Bool.true_and, Bool.false_and, Bool.and_true, Bool.and_false, cellsOf, deref, boxAt, exAt, ldCells, oneL, oneCell, one, List.length_nil, List.nil_append, List.cons_append, List.getElem?_cons_zero, List.getElem?_cons_succ, List.drop_zero, List.drop_succ_cons, List.take_succ_cons, List.take_zero, Nat.reduceLeDiff, Nat.le_refl, evL, List.map_cons, List.map_nil, List.append_nil, adopt, bin_quo, bin_rem, rigK_sc, rigK_agg, rigK_tup, fstV_eq, quiet_load, quiet_convStr, quiet_call, rigid, rigidL, trim, Nat.lt_irrefl, and_false, false_and, Int.reduceEq, decide_true, decide_false, Int.reduceMod, Int.reduceDiv, Int.mul_zero, Int.add_zero, ax_loop, quiet_move, quiet_pick, quiet_build, quiet_nilCheck, quiet_bin, quiet_eqBool, quiet_eqArr, quiet_eqAgg, quiet_eqNil, quiet_un, quiet_convInt, quiet_makeFunc, quiet_slice, quiet_toArr, quiet_fieldAddr, quiet_field, quiet_indexAddr, quiet_index, quiet_indexStr, quiet_extract, quiet_len, quiet_lenT, quiet_convSS, quiet_minmax, opsG_undef, quiG_undef, fin_ret, fin_normal, WP_some, WP_bind, WP_map, WP_ite, WP_opsK_ite, WP_quiK_ite, BQ_eq, MQ_eq, LQ_normal, LQ_exit, LQ_ret, if_pos, if_neg, Bool.not_true, Bool.not_false, asI, elCells, kz_some, kz_none, Nat.mul_one, Nat.zero_add, Int.toNat_natCast, lenOf, List.length_map, true_and, and_true, trim_off, forall_const, implies_true, and_self, aun_not, decide_eq_true, decide_eq_false, IntWalk.i64_in, IntWalk.u64_in, cast_succ', List.set_cons_zero, List.set_cons_succ, List.length_set, List.length_append, List.length_replicate, Int.natCast_nonneg, flat_one', List.getElem?_drop, Nat.add_zero, ax_regD, runD_nil, runD_none, runD_some, dK_some, dG_tt, dG_ft, dG_tf, dG_ff, dG_undef, WP_dK_ite, chkR_eq, chkD, chkO, chkW, chkV_some, chkV_off, grow_eq, effB, reB, beqV, beqVL, vEq, wantE_none, wantE_some, beq_self_eq_true, Nat.reduceSub, Nat.reduceLT, strip, stripO, storeB_K, stB_eq, splice_nil, splice_one, splice_more, setParts_nil, setParts_K, spK_eq, nxE_some, nxE_none, bne_ff, bne_tf, bne_ft, bne_tt, beq_ff, beq_tf, beq_ft, beq_tt, bne_f, bne_t, fits_of, Int.reduceSub, Int.reduceAdd, Int.reduceMul, Int.reduceLT, Int.reduceLE, Int.reduceToNat, optI, aslice, cutSl, cutMs, cutStr, cutOwn, Option.getD_some, Option.getD_none, get_app, get_app0, set_app, set_app0, tn_pred, convS]
      simp [freeze1, hc, WP]
  · refine WP_eq (prun_wp ?_)
    simp -implicitDefEqProofs (disch := omega) only [F42, isNil, elemsOf, setEls, aappend, List.replicate_zero, show fitsB 0 1 = true from rfl, initE, ax_seq, ax_skip, ax_ret, ax_exit, ax_scope, ax_regK, ax_regQK, ax_condK, ax_blockK, condK_t, condK_f, blkR_normal, blkR_ret, blkR_if, norR_eq, norQ_eq, nextR_normal, nextR_ret, nextR_exit, aops_nil, aops_none, aops_some, opsK_some, opsG_tt, opsG_ft, opsG_tf, opsG_ff, aopsQ_nil, aopsQ_none, aopsQ_some, quiK_some, quiG_tt, quiG_ft, quiG_tf, quiG_ff, aop, evO_tmp, evO_cst, getE_cons, setE_some, setE_none, bin_leq, bin_geq, bin_lss, bin_gtr, bin_eql, bin_neq, bin_add, bin_sub, bin_mul, Option.bind_some, Option.map_some, Option.bind_none, Option.map_none, Nat.reduceEqDiff, ↓reduceIte, Nat.reduceAdd, finish, resOf, tupOf, frz_eq, AM.freeze, freezeL, closed, nam, namL, if_true, if_false, Bool.false_eq_true, Bool.true_and, Bool.false_and, Bool.and_true, Bool.and_false, cellsOf, deref, boxAt, exAt, ldCells, oneL, oneCell, one, List.length_cons, List.length_nil, List.nil_append, List.cons_append, List.getElem?_cons_zero, List.getElem?_cons_succ, List.drop_zero, List.drop_succ_cons, List.take_succ_cons, List.take_zero, Nat.reduceLeDiff, Nat.le_refl, evL, List.map_cons, List.map_nil, List.append_nil, adopt, bin_quo, bin_rem, rigK_sc, rigK_agg, rigK_tup, fstV_eq, quiet_load, quiet_convStr, quiet_call, rigid, rigidL, trim, Nat.lt_irrefl, and_false, false_and, Int.reduceEq, decide_true, decide_false, Int.reduceMod, Int.reduceDiv, Int.mul_zero, Int.add_zero, ax_loop, quiet_move, quiet_pick, quiet_build, quiet_nilCheck, quiet_bin, quiet_eqBool, quiet_eqArr, quiet_eqAgg, quiet_eqNil, quiet_un, quiet_convInt, quiet_makeFunc, quiet_slice, quiet_toArr, quiet_fieldAddr, quiet_field, quiet_indexAddr, quiet_index, quiet_indexStr, quiet_extract, quiet_len, quiet_lenT, quiet_convSS, quiet_minmax, opsG_undef, quiG_undef, fin_ret, fin_normal, WP_some, WP_bind, WP_map, WP_ite, WP_opsK_ite, WP_quiK_ite, BQ_eq, MQ_eq, LQ_normal, LQ_exit, LQ_ret, if_pos, if_neg, Bool.not_true, Bool.not_false, asI, elCells, kz_some, kz_none, Nat.mul_one, Nat.zero_add, Int.toNat_natCast, lenOf, List.length_map, true_and, and_true, trim_off, forall_const, implies_true, and_self, aun_not, decide_eq_true, decide_eq_false, IntWalk.i64_in, IntWalk.u64_in, cast_succ', List.set_cons_zero, List.set_cons_succ, List.length_set, List.length_append, List.length_replicate, Int.natCast_nonneg, flat_one', List.getElem?_drop, Nat.add_zero, ax_regD, runD_nil, runD_none, runD_some, dK_some, dG_tt, dG_ft, dG_tf, dG_ff, dG_undef, WP_dK_ite, chkR_eq, chkD, chkO, chkW, chkV_some, chkV_off, grow_eq, effB, reB, beqV, beqVL, vEq, wantE_none, wantE_some, beq_self_eq_true, Nat.reduceSub, Nat.reduceLT, strip, stripO, storeB_K, stB_eq, splice_nil, splice_one, splice_more, setParts_nil, setParts_K, spK_eq, nxE_some, nxE_none, bne_ff, bne_tf, bne_ft, bne_tt, beq_ff, beq_tf, beq_ft, beq_tt, bne_f, bne_t, fits_of, Int.reduceSub, Int.reduceAdd, Int.reduceMul, Int.reduceLT, Int.reduceLE, Int.reduceToNat, optI, aslice, cutSl, cutMs, cutStr, cutOwn, Option.getD_some, Option.getD_none, get_app, get_app0, set_app, set_app0, tn_pred, convS]
    simp [freeze1, closed, closedL, namL, WP]
  · refine WP_eq (prun_wp ?_)
    simp -implicitDefEqProofs (disch := omega) only [F42, isNil, initE, ax_seq, ax_skip, ax_ret, ax_exit, ax_scope, ax_regK, ax_regQK, ax_condK, ax_blockK, condK_t, condK_f, blkR_normal, blkR_ret, blkR_if, norR_eq, norQ_eq, nextR_normal, nextR_ret, nextR_exit, aops_nil, aops_none, aops_some, opsK_some, opsG_tt, opsG_ft, opsG_tf, opsG_ff, aopsQ_nil, aopsQ_none, aopsQ_some, quiK_some, quiG_tt, quiG_ft, quiG_tf, quiG_ff, aop, evO_tmp, evO_cst, getE_cons, setE_some, setE_none, bin_leq, bin_geq, bin_lss, bin_gtr, bin_eql, bin_neq, bin_add, bin_sub, bin_mul, Option.bind_some, Option.map_some, Option.bind_none, Option.map_none, Nat.reduceEqDiff, ↓reduceIte, Nat.reduceAdd, finish, resOf, tupOf, frz_eq, AM.freeze, freeze1, freezeL, closed, nam, namL, if_true, if_false, Bool.false_eq_true, Bool.true_and, Bool.false_and, Bool.and_true, Bool.and_false, cellsOf, deref, boxAt, exAt, ldCells, oneL, oneCell, one, List.length_cons, List.length_nil, List.nil_append, List.cons_append, List.getElem?_cons_zero, List.getElem?_cons_succ, List.drop_zero, List.drop_succ_cons, List.take_succ_cons, List.take_zero, Nat.reduceLeDiff, Nat.le_refl, evL, List.map_cons, List.map_nil, List.append_nil, adopt, bin_quo, bin_rem, rigK_sc, rigK_agg, rigK_tup, fstV_eq, quiet_load, quiet_convStr, quiet_call, rigid, rigidL, trim, Nat.lt_irrefl, and_false, false_and, Int.reduceEq, decide_true, decide_false, Int.reduceMod, Int.reduceDiv, Int.mul_zero, Int.add_zero, ax_loop, quiet_move, quiet_pick, quiet_build, quiet_nilCheck, quiet_bin, quiet_eqBool, quiet_eqArr, quiet_eqAgg, quiet_eqNil, quiet_un, quiet_convInt, quiet_makeFunc, quiet_slice, quiet_toArr, quiet_fieldAddr, quiet_field, quiet_indexAddr, quiet_index, quiet_indexStr, quiet_extract, quiet_len, quiet_lenT, quiet_convSS, quiet_minmax, opsG_undef, quiG_undef, fin_ret, fin_normal, WP_some, WP_bind, WP_map, WP_ite, WP_opsK_ite, WP_quiK_ite, BQ_eq, MQ_eq, LQ_normal, LQ_exit, LQ_ret, if_pos, if_neg, Bool.not_true, Bool.not_false, asI, elCells, kz_some, kz_none, Nat.mul_one, Nat.zero_add, Int.toNat_natCast, lenOf, List.length_map, true_and, and_true, trim_off, forall_const, implies_true, and_self, aun_not, decide_eq_true, decide_eq_false, IntWalk.i64_in, IntWalk.u64_in, cast_succ', List.set_cons_zero, List.set_cons_succ, List.length_set, List.length_append, List.length_replicate, Int.natCast_nonneg, flat_one', List.getElem?_drop, Nat.add_zero, ax_regD, runD_nil, runD_none, runD_some, dK_some, dG_tt, dG_ft, dG_tf, dG_ff, dG_undef, WP_dK_ite, chkR_eq, chkD, chkO, chkW, chkV_some, chkV_off, grow_eq, effB, reB, beqV, beqVL, vEq, wantE_none, wantE_some, beq_self_eq_true, Nat.reduceSub, Nat.reduceLT, strip, stripO, storeB_K, stB_eq, splice_nil, splice_one, splice_more, setParts_nil, setParts_K, spK_eq, nxE_some, nxE_none, bne_ff, bne_tf, bne_ft, bne_tt, beq_ff, beq_tf, beq_ft, beq_tt, bne_f, bne_t, fits_of, Int.reduceSub, Int.reduceAdd, Int.reduceMul, Int.reduceLT, Int.reduceLE, Int.reduceToNat, optI, aslice, cutSl, cutMs, cutStr, cutOwn, Option.getD_some, Option.getD_none, get_app, get_app0, set_app, set_app0, tn_pred, convS]
theorem extsOK : ∀ p ∈ exts, Callable Try.prog p.1 ∧ PSound Try.prog gl p.1 p.2 := by
  intro p hp
  simp only [exts, List.mem_cons, List.not_mem_nil, or_false] at hp
  rcases hp with rfl | rfl
  · exact ⟨(fnsOK (42, F42) (lookup_mem (l := fns) (f := 42) rfl)).callable, x42⟩
  · exact ⟨(fnsOK (46, F46) (lookup_mem (l := fns) (f := 46) rfl)).callable, xIx gl⟩
theorem e46 : T.ext 46 = some ixE := rfl
theorem e42 : T.ext 42 = some (cloneE none 1) := rfl
theorem tabOK : TabOK Try.prog gl T := ⟨fun f g h => extsOK (f, g) (lookup_mem h), fun f F h => fnsOK (f, F) (lookup_mem h), fun f g h => natsOK (f, g) (lookup_mem h)⟩
theorem n50 : T.nat 50 = some growG := rfl
theorem nf50 : T.fn 50 = none := rfl
theorem t3 : T.fn 3 = some F3 := rfl
theorem t6 : T.fn 6 = some F6 := rfl
theorem t7 : T.fn 7 = some F7 := rfl
theorem t8 : T.fn 8 = some F8 := rfl
theorem t9 : T.fn 9 = some F9 := rfl
theorem t10 : T.fn 10 = some F10 := rfl
theorem t11 : T.fn 11 = some F11 := rfl
theorem t12 : T.fn 12 = some F12 := rfl
theorem t13 : T.fn 13 = some F13 := rfl
theorem t14 : T.fn 14 = some F14 := rfl
theorem t15 : T.fn 15 = some F15 := rfl
theorem t16 : T.fn 16 = some F16 := rfl
theorem t17 : T.fn 17 = some F17 := rfl
theorem t18 : T.fn 18 = some F18 := rfl
theorem t19 : T.fn 19 = some F19 := rfl
theorem t20 : T.fn 20 = some F20 := rfl
theorem t21 : T.fn 21 = some F21 := rfl
theorem t22 : T.fn 22 = some F22 := rfl
theorem t23 : T.fn 23 = some F23 := rfl
theorem t24 : T.fn 24 = some F24 := rfl
theorem t25 : T.fn 25 = some F25 := rfl
theorem t26 : T.fn 26 = some F26 := rfl
theorem t27 : T.fn 27 = some F27 := rfl
theorem t28 : T.fn 28 = some F28 := rfl
theorem t29 : T.fn 29 = some F29 := rfl
theorem t30 : T.fn 30 = some F30 := rfl
theorem t31 : T.fn 31 = some F31 := rfl
theorem t32 : T.fn 32 = some F32 := rfl
theorem t33 : T.fn 33 = some F33 := rfl
theorem t34 : T.fn 34 = some F34 := rfl
theorem t35 : T.fn 35 = some F35 := rfl
theorem t36 : T.fn 36 = some F36 := rfl
theorem t37 : T.fn 37 = some F37 := rfl
theorem t38 : T.fn 38 = some F38 := rfl
theorem t39 : T.fn 39 = some F39 := rfl
theorem t40 : T.fn 40 = some F40 := rfl
theorem t41 : T.fn 41 = some F41 := rfl
theorem t42 : T.fn 42 = some F42 := rfl
theorem t43 : T.fn 43 = some F43 := rfl
theorem t44 : T.fn 44 = some F44 := rfl
theorem t45 : T.fn 45 = some F45 := rfl
theorem t46 : T.fn 46 = some F46 := rfl
theorem t47 : T.fn 47 = some F47 := rfl
theorem t48 : T.fn 48 = some F48 := rfl
theorem t49 : T.fn 49 = some F49 := rfl
theorem t51 : T.fn 51 = some F51 := rfl
theorem t52 : T.fn 52 = some F52 := rfl
theorem t53 : T.fn 53 = some F53 := rfl
theorem t54 : T.fn 54 = some F54 := rfl
theorem t55 : T.fn 55 = some F55 := rfl
theorem t56 : T.fn 56 = some F56 := rfl
theorem t57 : T.fn 57 = some F57 := rfl
theorem t58 : T.fn 58 = some F58 := rfl
theorem t60 : T.fn 60 = some F60 := rfl
theorem t61 : T.fn 61 = some F61 := rfl
theorem t62 : T.fn 62 = some F62 := rfl
theorem t63 : T.fn 63 = some F63 := rfl
theorem t64 : T.fn 64 = some F64 := rfl
theorem t65 : T.fn 65 = some F65 := rfl
theorem t66 : T.fn 66 = some F66 := rfl
theorem t67 : T.fn 67 = some F67 := rfl
theorem t68 : T.fn 68 = some F68 := rfl
theorem t69 : T.fn 69 = some F69 := rfl
theorem t70 : T.fn 70 = some F70 := rfl
theorem p3 : T.pure 3 = true := rfl
theorem p6 : T.pure 6 = true := rfl
theorem p7 : T.pure 7 = true := rfl
theorem p8 : T.pure 8 = true := rfl
theorem p9 : T.pure 9 = true := rfl
theorem p10 : T.pure 10 = true := rfl
theorem p11 : T.pure 11 = true := rfl
theorem p12 : T.pure 12 = true := rfl
theorem p13 : T.pure 13 = true := rfl
theorem p14 : T.pure 14 = true := rfl
theorem p15 : T.pure 15 = true := rfl
theorem p16 : T.pure 16 = true := rfl
theorem p17 : T.pure 17 = true := rfl
theorem p18 : T.pure 18 = true := rfl
theorem p19 : T.pure 19 = true := rfl
theorem p20 : T.pure 20 = true := rfl
theorem p21 : T.pure 21 = true := rfl
theorem p22 : T.pure 22 = true := rfl
theorem p23 : T.pure 23 = true := rfl
theorem p24 : T.pure 24 = true := rfl
theorem p25 : T.pure 25 = true := rfl
theorem p26 : T.pure 26 = true := rfl
theorem p27 : T.pure 27 = true := rfl
theorem p28 : T.pure 28 = true := rfl
theorem p29 : T.pure 29 = true := rfl
theorem p30 : T.pure 30 = true := rfl
theorem p31 : T.pure 31 = true := rfl
theorem p32 : T.pure 32 = true := rfl
theorem p33 : T.pure 33 = true := rfl
theorem p34 : T.pure 34 = true := rfl
theorem p35 : T.pure 35 = true := rfl
theorem p36 : T.pure 36 = true := rfl
theorem p37 : T.pure 37 = true := rfl
theorem p38 : T.pure 38 = true := rfl
theorem p39 : T.pure 39 = true := rfl
theorem p40 : T.pure 40 = true := rfl
theorem p41 : T.pure 41 = true := rfl
theorem p42 : T.pure 42 = true := rfl
theorem p44 : T.pure 44 = true := rfl
theorem p45 : T.pure 45 = true := rfl
theorem p46 : T.pure 46 = true := rfl
theorem p47 : T.pure 47 = true := rfl
theorem p48 : T.pure 48 = true := rfl
theorem p49 : T.pure 49 = true := rfl
theorem p54 : T.pure 54 = true := rfl
theorem p55 : T.pure 55 = true := rfl
theorem p56 : T.pure 56 = true := rfl
theorem p60 : T.pure 60 = true := rfl
theorem p61 : T.pure 61 = true := rfl
theorem p64 : T.pure 64 = true := rfl
theorem p65 : T.pure 65 = true := rfl
theorem p66 : T.pure 66 = true := rfl
theorem p68 : T.pure 68 = true := rfl
theorem p69 : T.pure 69 = true := rfl
theorem p70 : T.pure 70 = true := rfl
end Go.Proofs.Ytejnficfhoekiaa.AM

/- Bytes and numbers, in plain Lean. -/
namespace Go.Proofs.Ytejnficfhoekiaa.AM
open Go
set_option linter.unusedVariables false
set_option linter.unusedSimpArgs false
section
variable {k : IntKind} {n : Int} {b : Bool} {s : ByteArray} {o o2 : AOwn} {q q2 : Option Nat} {l l2 : List AV} {i j i2 j2 n2 n3 : Nat} {f : Fn} {v v2 : Value} {h : Heap} {x x2 : AV}
theorem cellsOf_int : cellsOf (.sc (.int k n)) = some [.sc (.int k n)] := rfl
theorem one_int : one (.sc (.int k n)) = true := rfl
theorem cellsOf_bool : cellsOf (.sc (.bool b)) = some [.sc (.bool b)] := rfl
theorem one_bool : one (.sc (.bool b)) = true := rfl
theorem cellsOf_str : cellsOf (.sc (.string s)) = some [.sc (.string s)] := rfl
theorem one_str : one (.sc (.string s)) = true := rfl
theorem cellsOf_nil : cellsOf (.sc (.slice none 0 0)) = some [.sc (.slice none 0 0)] := rfl
theorem one_nil : one (.sc (.slice none 0 0)) = true := rfl
theorem cellsOf_nilp : cellsOf (.sc (.pointer none)) = some [.sc (.pointer none)] := rfl
theorem one_nilp : one (.sc (.pointer none)) = true := rfl
theorem cellsOf_nilm : cellsOf (.sc (.map none)) = some [.sc (.map none)] := rfl
theorem one_nilm : one (.sc (.map none)) = true := rfl
theorem cellsOf_nilf : cellsOf (.sc .nilFunc) = some [.sc .nilFunc] := rfl
theorem one_nilf : one (.sc .nilFunc) = true := rfl
theorem cellsOf_slice : cellsOf (.slice o q l) = some [.slice o q l] := rfl
theorem one_slice : one (.slice o q l) = true := rfl
theorem cellsOf_ptr : cellsOf (.ptr i j) = some [.ptr i j] := rfl
theorem one_ptr : one (.ptr i j) = true := rfl
theorem cellsOf_ref : cellsOf (.ref l) = some [.ref l] := rfl
theorem one_ref : one (.ref l) = true := rfl
theorem cellsOf_ms : cellsOf (.ms i j q n2) = some [.ms i j q n2] := rfl
theorem one_ms : one (.ms i j q n2) = true := rfl
theorem cellsOf_func : cellsOf (.func f l l2) = some [.func f l l2] := rfl
theorem one_func : one (.func f l l2) = true := rfl
theorem cellsOf_agg : cellsOf (.agg l) = some l := rfl
theorem one_agg : one (.agg l) = false := rfl
theorem strip_sc : strip (.sc v) = .sc v := rfl
theorem strip_slice : strip (.slice o q l) = .slice (stripO o) q l := rfl
theorem strip_ptr : strip (.ptr i j) = .ptr i j := rfl
theorem strip_ref : strip (.ref l) = .ref l := rfl
theorem strip_ms : strip (.ms i j q n2) = .ms i j q n2 := rfl
theorem strip_func : strip (.func f l l2) = .func f l l2 := rfl
theorem strip_agg : strip (.agg l) = .agg l := rfl
theorem strip_tup : strip (.tup l) = .tup l := rfl
theorem lenOf_slice : lenOf (.slice o q l) = some l.length := rfl
theorem lenOf_ms : lenOf (.ms i j q n2) = some n2 := rfl
theorem lenOf_nil : lenOf (.sc (.slice none 0 0)) = some 0 := rfl
theorem elems_slice : elemsOf h q (.slice o q l) = some l := if_pos rfl
theorem elems_ms : elemsOf h q (.ms i j q n2) = msEls h i j q n2 := if_pos rfl
theorem elems_nil : elemsOf h q (.sc (.slice none 0 0)) = some [] := rfl
theorem elems_str : elemsOf h none (.sc (.string s)) = some (strEls s) := rfl
theorem convS_slice : convS h (.slice o none l) = (byteEls l).map fun r => .str (strOfNums r) := by simp [convS, elemsOf]
theorem convS_nil : convS h (.sc (.slice none 0 0)) = some (.str (strOfNums [])) := rfl
theorem convS_ms : convS h (.ms i j none n2) = ((msEls h i j none n2).bind byteEls).map fun r => .str (strOfNums r) := by simp [convS, elemsOf]
theorem stripO_none : stripO .none = .none := rfl
theorem stripO_full : stripO .full = .full := rfl
theorem stripO_tok : stripO (.tok i) = .none := rfl
theorem stripO_fresh : stripO .fresh = .none := rfl
theorem isNil_pn : isNil .ptr (.sc (.pointer none)) = some true := rfl
theorem isNil_pp : isNil .ptr (.ptr i j) = some false := rfl
theorem isNil_pr : isNil .ptr (.ref l) = some false := rfl
theorem isNil_sn : isNil .slice (.sc (.slice none 0 0)) = some true := rfl
theorem isNil_sc : isNil .slice (.slice o q (x :: l)) = some false := rfl
theorem isNil_ms : isNil .slice (.ms i j q n2) = some false := rfl
theorem elC_agg : elCells (.agg l) = l := rfl
theorem elC_int : elCells (.sc v) = [.sc v] := rfl
theorem elC_slice : elCells (.slice o q l) = [.slice o q l] := rfl
theorem elC_ref : elCells (.ref l) = [.ref l] := rfl
theorem elC_ptr : elCells (.ptr i j) = [.ptr i j] := rfl
theorem elC_ms : elCells (.ms i j q n2) = [.ms i j q n2] := rfl
theorem stripEl_agg : stripEl (.agg l) = .agg (l.map strip) := rfl
theorem stripEl_sc : stripEl (.sc v) = .sc v := rfl
theorem stripEl_slice : stripEl (.slice o q l) = .slice (stripO o) q l := rfl
theorem elFits_agg : elFits q (.agg l) = (q == some l.length && oneL l) := rfl
theorem elFits_sc : elFits q (.sc v) = (one (.sc v) && q == none) := rfl
theorem elFits_slice : elFits q (.slice o q2 l) = (one (.slice o q2 l) && q == none) := rfl
theorem beqV_ref : beqV (.ref l) (.ref l2) = beqVL l l2 := rfl
theorem beqV_agg : beqV (.agg l) (.agg l2) = beqVL l l2 := rfl
theorem beqV_slice : beqV (.slice o q l) (.slice o2 q2 l2) = (o == o2 && q == q2 && beqVL l l2) := rfl
theorem beqV_ptr : beqV (.ptr i j) (.ptr i2 j2) = (i == i2 && j == j2) := rfl
theorem beqV_ms : beqV (.ms i j q n2) (.ms i2 j2 q2 n3) = (i == i2 && j == j2 && q == q2 && n2 == n3) := rfl
theorem beqV_tup : beqV (.tup l) (.tup l2) = beqVL l l2 := rfl
theorem beqV_sc : beqV (.sc v) (.sc v2) = vEq v v2 := rfl
theorem beqVL_nil : beqVL [] [] = true := rfl
theorem beqVL_cons : beqVL (x :: l) (x2 :: l2) = (beqV x x2 && beqVL l l2) := rfl
end
abbrev i64 (x : Int) : AV := .int .i64 x
abbrev u8 (x : Int) : AV := .int .u8 x
abbrev u64 (x : Int) : AV := .int .u64 x
def I64 (x : Int) : Prop := -9223372036854775808 ≤ x ∧ x ≤ 9223372036854775807
def U64 (x : Int) : Prop := 0 ≤ x ∧ x ≤ 18446744073709551615
def be (l : List Int) : Int := l.foldl (fun x c => x * 256 + c) 0
def Bytes (l : List Int) : Prop := ∀ c ∈ l, 0 ≤ c ∧ c ≤ 255
def wideS (b : Int) : Nat := if b = 253 then 2 else if b = 254 then 4 else 8
def sizeS (x : Int) : Int := if x < 253 then 1 else if x ≤ 65535 then 3 else if x ≤ 4294967295 then 5 else 9
/-- the number with which bytes begin -/
def readS : List Int → Int × Int × Int
  | [] => (0, 0, 10)
  | b :: r => if b < 253 then (b, 1, 0) else if r.length < wideS b then (0, 0, 10) else if sizeS (be (r.take (wideS b))) = wideS b + 1 then (be (r.take (wideS b)), wideS b + 1, 0) else (0, 0, 10)
def tailS : Nat → Int → List Int
  | 0, _ => []
  | j + 1, x => (x / 256 ^ j % 256) :: tailS j x
/-- a number's bytes -/
def numS (x : Int) : List Int := if x < 253 then [x] else if x ≤ 65535 then 253 :: tailS 2 x else if x ≤ 4294967295 then 254 :: tailS 4 x else 255 :: tailS 8 x
def firstS (x : Int) : Int := if x < 253 then 0 else if x ≤ 65535 then 253 else if x ≤ 4294967295 then 254 else 255
def widthS (x : Int) : Nat := if x < 253 then 0 else if x ≤ 65535 then 2 else if x ≤ 4294967295 then 4 else 8
theorem be_snoc (l : List Int) (c : Int) : be (l ++ [c]) = be l * 256 + c := by unfold be; rw [List.foldl_append]; rfl
theorem be_from (l : List Int) (h : Bytes l) : ∀ x : Int, 0 ≤ x → 0 ≤ l.foldl (fun x c => x * 256 + c) x ∧ l.foldl (fun x c => x * 256 + c) x < (x + 1) * 256 ^ l.length := by
  induction l with
  | nil => intro x hx; simp; omega
  | cons c l ih =>
    intro x hx
    have hc := h c List.mem_cons_self
    have hz := ih (fun y hy => h y (List.mem_cons_of_mem _ hy)) (x * 256 + c) (by omega)
    refine ⟨hz.1, Int.lt_of_lt_of_le hz.2 ?_⟩
    rw [List.length_cons, Int.pow_succ, Int.mul_comm (256 ^ l.length) 256, ← Int.mul_assoc]
    exact Int.mul_le_mul_of_nonneg_right (by omega) (Int.le_of_lt (Int.pow_pos (by omega)))
theorem be_bound (l : List Int) (h : Bytes l) : 0 ≤ be l ∧ be l < 256 ^ l.length := by
  have := be_from l h 0 (by omega)
  rw [Int.zero_add, Int.one_mul] at this
  exact this
theorem take_bytes {l : List Int} (h : Bytes l) (n : Nat) : Bytes (l.take n) := fun c hc => h c (List.mem_of_mem_take hc)
theorem drop_bytes {l : List Int} (h : Bytes l) (n : Nat) : Bytes (l.drop n) := fun c hc => h c (List.mem_of_mem_drop hc)
theorem sizeS_le (x : Int) : 0 ≤ sizeS x ∧ sizeS x ≤ 9 := by
  unfold sizeS
  split
  · omega
  · split
    · omega
    · split <;> omega
theorem tailS_len (n : Nat) (x : Int) : (tailS n x).length = n := by
  induction n with
  | zero => rfl
  | succ n ih => unfold tailS; rw [List.length_cons, ih]
theorem numS_eq (x : Int) (h : ¬ x < 253) : numS x = firstS x :: tailS (widthS x) x := by
  unfold numS firstS widthS
  rw [if_neg h, if_neg h, if_neg h]
  split
  · rfl
  · split <;> rfl
theorem readS_cons (b : Int) (r : List Int) : readS (b :: r) = if b < 253 then (b, 1, 0) else if r.length < wideS b then (0, 0, 10) else if sizeS (be (r.take (wideS b))) = wideS b + 1 then (be (r.take (wideS b)), (wideS b : Int) + 1, 0) else (0, 0, 10) := rfl
theorem emod_split (x : Int) (h : 0 ≤ x) (j : Nat) : x % 256 ^ (j + 1) = x / 256 ^ j % 256 * 256 ^ j + x % 256 ^ j := by
  obtain ⟨n, rfl⟩ := Int.eq_ofNat_of_zero_le h
  have := @Nat.mod_mul (256 ^ j) 256 n
  rw [← Nat.pow_succ] at this
  have z : ((n % 256 ^ (j + 1) : Nat) : Int) = ((n % 256 ^ j + 256 ^ j * (n / 256 ^ j % 256) : Nat) : Int) := by rw [this]
  rw [Int.natCast_add, Int.natCast_mul, Int.natCast_emod, Int.natCast_emod, Int.natCast_emod, Int.natCast_ediv, Int.natCast_pow, Int.natCast_pow] at z
  show (n : Int) % ((256 : Nat) : Int) ^ (j + 1) = _
  rw [z, Int.mul_comm, Int.add_comm]; rfl
theorem be_tail (x : Int) (h : 0 ≤ x) : ∀ (n : Nat) (a : Int), (tailS n x).foldl (fun x c => x * 256 + c) a = a * 256 ^ n + x % 256 ^ n
  | 0, a => by simp [tailS]
  | n + 1, a => by
    unfold tailS
    rw [List.foldl_cons, be_tail x h n, emod_split x h n, Int.pow_succ, Int.add_mul, Int.mul_assoc, Int.mul_comm 256, Int.add_assoc]
theorem be_tailS (x : Int) (h : 0 ≤ x) (n : Nat) (hx : x < 256 ^ n) : be (tailS n x) = x := by
  unfold be
  rw [be_tail x h, Int.zero_mul, Int.zero_add, Int.emod_eq_of_lt h hx]
theorem tailS_bytes (x : Int) (h : 0 ≤ x) (n : Nat) : Bytes (tailS n x) := by
  induction n with
  | zero => intro c hc; simp [tailS] at hc
  | succ n ih =>
    intro c hc
    unfold tailS at hc
    rcases List.mem_cons.1 hc with rfl | hc
    · omega
    · exact ih c hc
theorem numS_bytes (x : Int) (h : 0 ≤ x) : Bytes (numS x) := by
  unfold numS
  split
  · intro c hc; simp at hc; omega
  · split
    · intro c hc; rcases List.mem_cons.1 hc with rfl | hc; (· omega); exact tailS_bytes x h _ c hc
    · split
      · intro c hc; rcases List.mem_cons.1 hc with rfl | hc; (· omega); exact tailS_bytes x h _ c hc
      · intro c hc; rcases List.mem_cons.1 hc with rfl | hc; (· omega); exact tailS_bytes x h _ c hc
theorem numS_len (x : Int) : ((numS x).length : Int) = sizeS x := by
  unfold numS sizeS
  split
  · rfl
  · split
    · rw [List.length_cons, tailS_len]; rfl
    · split <;> (rw [List.length_cons, tailS_len]; rfl)
theorem readS_num (x : Int) (h : 0 ≤ x) (h1 : x ≤ 18446744073709551615) (t : List Int) : readS (numS x ++ t) = (x, ((numS x).length : Int), 0) := by
  rw [numS_len]
  have key : ∀ (b : Int) (n : Nat), ¬ b < 253 → wideS b = n → x < 256 ^ n → sizeS x = n + 1 → readS (b :: tailS n x ++ t) = (x, sizeS x, 0) := by
    intro b n hb hw hx hs
    rw [List.cons_append, readS_cons]
    have ht : (tailS n x ++ t).take n = tailS n x := by
      have := @List.take_left _ (tailS n x) t
      rwa [tailS_len] at this
    have hl : ¬ (tailS n x ++ t).length < n := by rw [List.length_append, tailS_len]; omega
    rw [if_neg hb, hw, if_neg hl, ht, be_tailS x h n hx, if_pos hs, hs]
  unfold numS
  split
  · rename_i h2
    simp [readS, sizeS, h2]
  · rename_i h2
    split
    · rename_i h3
      exact key 253 2 (by omega) rfl (by omega) (by unfold sizeS; rw [if_neg h2, if_pos h3]; rfl)
    · rename_i h3
      split
      · rename_i h4
        exact key 254 4 (by omega) rfl (by omega) (by unfold sizeS; rw [if_neg h2, if_neg h3, if_pos h4]; rfl)
      · rename_i h4
        exact key 255 8 (by omega) rfl (by omega) (by unfold sizeS; rw [if_neg h2, if_neg h3, if_neg h4]; rfl)
theorem wideS_le (b : Int) : wideS b ≤ 8 := by unfold wideS; split; (· omega); split <;> omega
theorem str_append (a b : List Int) : strOfNums a ++ strOfNums b = strOfNums (a ++ b) := by
  apply ByteArray.ext
  simp [strOfNums]
theorem str_inj {a b : List Int} (ha : Bytes a) (hb : Bytes b) (h : (strOfNums a).toList = (strOfNums b).toList) : a = b := by
  rw [ByteArray.toList_eq, ByteArray.toList_eq, strOfNums_data, strOfNums_data] at h
  induction a generalizing b with
  | nil => cases b with | nil => rfl | cons _ _ => simp at h
  | cons x a ih =>
    cases b with
    | nil => simp at h
    | cons y b =>
      simp only [List.map_cons, List.cons.injEq] at h
      have hx := ha x List.mem_cons_self
      have hy := hb y List.mem_cons_self
      have e : x = y := by
        have := congrArg UInt8.toNat h.1
        simp [UInt8.toNat_ofNat'] at this
        omega
      rw [e, ih (fun c hc => ha c (List.mem_cons_of_mem _ hc)) (fun c hc => hb c (List.mem_cons_of_mem _ hc)) h.2]
theorem bytes_append {a b : List Int} (ha : Bytes a) (hb : Bytes b) : Bytes (a ++ b) := fun c hc => by
  rcases List.mem_append.1 hc with h | h
  · exact ha c h
  · exact hb c h
theorem readS_fine (l : List Int) (h : Bytes l) : (0 ≤ (readS l).1 ∧ (readS l).1 ≤ 18446744073709551615) ∧ (0 ≤ (readS l).2.1 ∧ (readS l).2.1 ≤ l.length) ∧ ((readS l).2.2 = 0 ∨ (readS l).2.2 = 10) ∧ ((readS l).2.2 = 0 → 1 ≤ (readS l).2.1) := by
  cases l with
  | nil => simp [readS]
  | cons b r =>
    have hb := h b List.mem_cons_self
    have hr : Bytes r := fun c hc => h c (List.mem_cons_of_mem _ hc)
    rw [readS_cons]
    split
    · simp; omega
    · split
      · simp; omega
      · rename_i h1 h2
        have hw := wideS_le b
        have hbd := be_bound (r.take (wideS b)) (take_bytes hr _)
        have hlen : (r.take (wideS b)).length = wideS b := by rw [List.length_take]; omega
        rw [hlen] at hbd
        have hp : (256 : Int) ^ wideS b ≤ 256 ^ 8 := by
          have z : ((256 ^ wideS b : Nat) : Int) ≤ ((256 ^ 8 : Nat) : Int) := Int.ofNat_le.2 (Nat.pow_le_pow_right (by omega) hw)
          simpa using z
        split
        · rw [List.length_cons]; refine ⟨⟨hbd.1, by show be (r.take (wideS b)) ≤ _; omega⟩, ⟨by show 0 ≤ (wideS b : Int) + 1; omega, by show (wideS b : Int) + 1 ≤ _; omega⟩, Or.inl rfl, fun _ => by show (1 : Int) ≤ (wideS b : Int) + 1; omega⟩
        · simp; omega
theorem size_mono (x y : Int) (h : x ≤ y) : sizeS x ≤ sizeS y := by
  unfold sizeS
  repeat' split
  all_goals omega
theorem num_inj {x y : Int} (hx : 0 ≤ x) (hx1 : x ≤ 18446744073709551615) (hy : 0 ≤ y) (hy1 : y ≤ 18446744073709551615) (h : numS x = numS y) : x = y := by
  have a := readS_num x hx hx1 []
  have b := readS_num y hy hy1 []
  rw [h, b] at a
  exact (congrArg Prod.fst a).symm
theorem u8_closed : ∀ (l : List Int), closedL (l.map u8) = true
  | [] => rfl
  | x :: l => by
    have := u8_closed l
    simp only [closedL, List.map_cons, namL, nam, Bool.true_and] at this ⊢
    exact this
theorem byteEls_u8 : ∀ (l : List Int), byteEls (l.map u8) = some l
  | [] => rfl
  | x :: l => by simp only [List.map_cons, byteEls, byteEls_u8 l, Option.map_some]
theorem get_u8 {l : List Int} {i : Nat} (h : i < l.length) : (l.map u8)[i]? = some (u8 l[i]) := by rw [List.getElem?_map, List.getElem?_eq_getElem h]; rfl
theorem bytes_get {l : List Int} (h : Bytes l) {i : Nat} (hi : i < l.length) : 0 ≤ l[i] ∧ l[i] ≤ 255 := h _ (List.getElem_mem hi)
theorem w_u8 (x : Int) : IntKind.u8.wrap x = x % 256 := IntKind.wrap_u8 x
theorem shl_c (k k2 : IntKind) (x : Int) (n : Nat) (hn : n ≤ k.bits) : abin .shl (.int k x) (.int k2 (n : Int)) = some (.int k (k.wrap (x * 2 ^ n))) := by
  simp only [abin, ashift, if_neg (show ¬ (n : Int) < 0 by omega), Int.toNat_natCast, Nat.min_eq_left hn]
theorem shr_c (k k2 : IntKind) (x : Int) (n : Nat) (hn : n ≤ k.bits) : abin .shr (.int k x) (.int k2 (n : Int)) = some (.int k (x.fdiv (2 ^ n))) := by
  simp only [abin, ashift, if_neg (show ¬ (n : Int) < 0 by omega), Int.toNat_natCast, Nat.min_eq_left hn]
theorem or_byte (x c : Int) (h0 : 0 ≤ x) (h1 : x * 256 + 255 ≤ 18446744073709551615) (c0 : 0 ≤ c) (c1 : c ≤ 255) : abin .or (.int .u64 (x * 256)) (.int .u64 c) = some (.int .u64 (x * 256 + c)) := by
  obtain ⟨a, rfl⟩ := Int.eq_ofNat_of_zero_le h0
  obtain ⟨b, rfl⟩ := Int.eq_ofNat_of_zero_le c0
  simp only [abin, aint, abit, if_true, Option.map_some, Option.some.injEq, Value.int.injEq, true_and]
  have e : (BitVec.ofInt IntKind.u64.bits ((a : Int) * 256) ||| BitVec.ofInt IntKind.u64.bits (b : Int)).toNat = a * 256 + b := by
    show (BitVec.ofInt 64 ((a : Int) * 256) ||| BitVec.ofInt 64 (b : Int)).toNat = _
    rw [BitVec.toNat_or, BitVec.toNat_ofInt, BitVec.toNat_ofInt]
    have e1 : (((a : Int) * 256) % (2 ^ 64 : Nat)).toNat = a <<< 8 := by
      rw [Nat.shiftLeft_eq]
      omega
    have e2 : ((b : Int) % (2 ^ 64 : Nat)).toNat = b := by omega
    rw [e1, e2, ← Nat.shiftLeft_add_eq_or_of_lt (show b < 2 ^ 8 by omega), Nat.shiftLeft_eq]
  rw [e, IntKind.wrap_u64]
  omega
end Go.Proofs.Ytejnficfhoekiaa.AM

/- The sets for runs, each as one fact. -/
namespace Go.Proofs.Ytejnficfhoekiaa.AM
open Go
set_option maxRecDepth 100000
set_option maxHeartbeats 4000000
set_option linter.defProp false
def wC := (And.intro (And.intro (And.intro (And.intro (And.intro (And.intro (And.intro @ax_seq (And.intro @ax_skip @ax_ret)) (And.intro @ax_exit (And.intro @ax_scope @ax_regK))) (And.intro (And.intro @ax_regQK (And.intro @ax_condK @ax_blockK)) (And.intro @condK_t (And.intro @condK_f @blkR_normal)))) (And.intro (And.intro (And.intro @blkR_ret (And.intro @blkR_if @norR_eq)) (And.intro @norQ_eq (And.intro @nextR_normal @nextR_ret))) (And.intro (And.intro @nextR_exit (And.intro @aops_nil @aops_none)) (And.intro (And.intro @aops_some @opsK_some) (And.intro @opsG_tt @opsG_ft))))) (And.intro (And.intro (And.intro (And.intro @opsG_tf (And.intro @opsG_ff @aopsQ_nil)) (And.intro @aopsQ_none (And.intro @aopsQ_some @quiK_some))) (And.intro (And.intro @quiG_tt (And.intro @quiG_ft @quiG_tf)) (And.intro @quiG_ff (And.intro @evO_tmp @evO_cst)))) (And.intro (And.intro (And.intro @getE_cons (And.intro @setE_some @setE_none)) (And.intro @bin_leq (And.intro @bin_geq @bin_lss))) (And.intro (And.intro @bin_gtr (And.intro @bin_eql @bin_neq)) (And.intro (And.intro @bin_add @bin_sub) (And.intro @bin_mul @Option.bind_some.{0, 0})))))) (And.intro (And.intro (And.intro (And.intro (And.intro @Option.map_some.{0, 0} (And.intro @Option.bind_none.{0, 0} @Option.map_none.{0, 0})) (And.intro @frz_eq (And.intro @Bool.false_eq_true @Bool.true_and))) (And.intro (And.intro @Bool.false_and (And.intro @Bool.and_true @Bool.and_false)) (And.intro @List.length_cons.{0} (And.intro @List.length_nil.{0} @List.nil_append.{0})))) (And.intro (And.intro (And.intro @List.cons_append.{0} (And.intro @List.getElem?_cons_zero.{0} @List.getElem?_cons_succ.{0})) (And.intro @List.drop_zero.{0} (And.intro @List.drop_succ_cons.{0} @List.take_succ_cons.{0}))) (And.intro (And.intro @List.take_zero.{0} (And.intro @Nat.le_refl @List.map_cons.{0, 0})) (And.intro (And.intro @List.map_nil.{0, 0} @List.append_nil.{0}) (And.intro @bin_quo @bin_rem))))) (And.intro (And.intro (And.intro (And.intro @rigK_sc (And.intro @rigK_agg @rigK_tup)) (And.intro @fstV_eq (And.intro @quiet_load @quiet_convStr))) (And.intro (And.intro @quiet_call (And.intro @Nat.lt_irrefl @and_false)) (And.intro @false_and (And.intro @decide_true @decide_false)))) (And.intro (And.intro (And.intro @Int.mul_zero (And.intro @Int.add_zero @ax_loop)) (And.intro @quiet_move (And.intro @quiet_pick @quiet_build))) (And.intro (And.intro @quiet_nilCheck (And.intro @quiet_bin @quiet_eqBool)) (And.intro (And.intro @quiet_eqArr @quiet_eqNil) (And.intro @quiet_un @quiet_convInt))))))) (And.intro (And.intro (And.intro (And.intro (And.intro (And.intro @quiet_makeFunc (And.intro @quiet_slice @quiet_toArr)) (And.intro @quiet_fieldAddr (And.intro @quiet_field @quiet_indexAddr))) (And.intro (And.intro @quiet_index (And.intro @quiet_indexStr @quiet_extract)) (And.intro @quiet_len (And.intro @quiet_lenT @quiet_convSS)))) (And.intro (And.intro (And.intro @quiet_minmax (And.intro @opsG_undef @quiG_undef)) (And.intro @fin_ret (And.intro @fin_normal @WP_some))) (And.intro (And.intro @WP_bind (And.intro @WP_map @WP_ite)) (And.intro (And.intro @WP_opsK_ite @WP_quiK_ite) (And.intro @BQ_eq @MQ_eq))))) (And.intro (And.intro (And.intro (And.intro @LQ_normal (And.intro @LQ_exit @LQ_ret)) (And.intro @Bool.not_true (And.intro @Bool.not_false @kz_some))) (And.intro (And.intro @kz_none (And.intro @Nat.mul_one @Nat.zero_add)) (And.intro @Int.toNat_natCast (And.intro @List.length_map.{0, 0} @true_and)))) (And.intro (And.intro (And.intro @and_true (And.intro @trim_off @and_self)) (And.intro @aun_not (And.intro @decide_eq_true @decide_eq_false))) (And.intro (And.intro @IntWalk.i64_in (And.intro @IntWalk.u64_in @cast_succ')) (And.intro (And.intro @List.set_cons_zero.{0} @List.set_cons_succ.{0}) (And.intro @List.length_set.{0} @List.length_append.{0})))))) (And.intro (And.intro (And.intro (And.intro (And.intro @List.length_replicate.{0} (And.intro @Int.natCast_nonneg @flat_one')) (And.intro @List.getElem?_drop.{0} (And.intro @Nat.add_zero @ax_regD))) (And.intro (And.intro @runD_nil (And.intro @runD_none @runD_some)) (And.intro @dK_some (And.intro @dG_tt @dG_ft)))) (And.intro (And.intro (And.intro @dG_tf (And.intro @dG_ff @dG_undef)) (And.intro @WP_dK_ite (And.intro @chkR_eq @chkV_some))) (And.intro (And.intro @chkV_off (And.intro @grow_eq @wantE_none)) (And.intro (And.intro @wantE_some @storeB_K) (And.intro @stB_eq @splice_nil))))) (And.intro (And.intro (And.intro (And.intro @splice_one (And.intro @splice_more @setParts_nil)) (And.intro @setParts_K (And.intro @spK_eq @nxE_some))) (And.intro (And.intro @nxE_none (And.intro @bne_ff @bne_tf)) (And.intro @bne_ft (And.intro @bne_tt @beq_ff)))) (And.intro (And.intro (And.intro @beq_tf (And.intro @beq_ft @beq_tt)) (And.intro @bne_f (And.intro @bne_t @fits_of))) (And.intro (And.intro @Option.getD_some.{0} (And.intro @Option.getD_none.{0} @get_app)) (And.intro (And.intro @get_app0 @set_app) (And.intro @set_app0 @tn_pred))))))))
def wO := (And.intro (And.intro (And.intro (And.intro (And.intro (And.intro @cellsOf_int @one_int) (And.intro @cellsOf_bool @one_bool)) (And.intro (And.intro @cellsOf_str @one_str) (And.intro @cellsOf_nil (And.intro @one_nil @cellsOf_nilp)))) (And.intro (And.intro (And.intro @one_nilp @cellsOf_nilm) (And.intro @one_nilm @cellsOf_nilf)) (And.intro (And.intro @one_nilf @cellsOf_slice) (And.intro @one_slice (And.intro @cellsOf_ptr @one_ptr))))) (And.intro (And.intro (And.intro (And.intro @cellsOf_ref @one_ref) (And.intro @cellsOf_ms @one_ms)) (And.intro (And.intro @cellsOf_func @one_func) (And.intro @cellsOf_agg (And.intro @one_agg @strip_sc)))) (And.intro (And.intro (And.intro @strip_slice @strip_ptr) (And.intro @strip_ref (And.intro @strip_ms @strip_func))) (And.intro (And.intro @strip_agg @strip_tup) (And.intro @lenOf_slice (And.intro @lenOf_ms @lenOf_nil)))))) (And.intro (And.intro (And.intro (And.intro (And.intro @elems_slice @elems_ms) (And.intro @elems_nil @elems_str)) (And.intro (And.intro @stripO_none @stripO_full) (And.intro @stripO_tok (And.intro @stripO_fresh @isNil_pn)))) (And.intro (And.intro (And.intro @isNil_pp @isNil_pr) (And.intro @isNil_sn (And.intro @isNil_sc @isNil_ms))) (And.intro (And.intro @elC_agg @elC_int) (And.intro @elC_slice (And.intro @elC_ref @elC_ptr))))) (And.intro (And.intro (And.intro (And.intro @elC_ms @stripEl_agg) (And.intro @stripEl_sc @stripEl_slice)) (And.intro (And.intro @elFits_agg @elFits_sc) (And.intro @elFits_slice (And.intro @beqV_ref @beqV_agg)))) (And.intro (And.intro (And.intro @beqV_slice @beqV_ptr) (And.intro @beqV_ms (And.intro @beqV_tup @beqV_sc))) (And.intro (And.intro @beqVL_nil @beqVL_cons) (And.intro @convS_slice (And.intro @convS_nil @convS_ms)))))))
theorem dq1 {p : Prop} [Decidable p] (h : decide p = true) : p := of_decide_eq_true h
theorem dq2 {p : Prop} [Decidable p] (h : decide p = false) : ¬p := of_decide_eq_false h
theorem dq3 {p : Prop} [Decidable p] (h : (!decide p) = true) : ¬p := of_decide_eq_false ((Bool.not_eq_true' _).mp h)
theorem dq4 {p : Prop} [Decidable p] (h : (!decide p) = false) : p := of_decide_eq_true ((Bool.not_eq_false' _).mp h)
end Go.Proofs.Ytejnficfhoekiaa.AM

/- bigsize's numbers in the plain machine. -/
namespace Go.Proofs.Ytejnficfhoekiaa.AM
open Go
set_option maxRecDepth 100000
set_option linter.unusedSimpArgs false
set_option linter.unusedVariables false
theorem width_ok (x : Int) : prun T F49 [u64 x] = some (.tup [u8 (firstS x), i64 (widthS x)]) := by
  refine WP_eq (prun_wp ?_)
  first | have hb := hb | have hb := trivial
  repeat' (first | (simp -implicitDefEqProofs (disch := omega) only [hb, F49, wC, initE, aop, Nat.reduceEqDiff, ↓reduceIte, Nat.reduceAdd, finish, resOf, tupOf, AM.freeze, freeze1, freezeL, closed, nam, namL, if_true, if_false, deref, boxAt, exAt, ldCells, oneL, oneCell, Nat.reduceLeDiff, evL, adopt, rigid, rigidL, trim, Int.reduceEq, Int.reduceMod, Int.reduceDiv, if_pos, if_neg, asI, forall_const, implies_true, chkD, chkO, chkW, effB, reB, vEq, beq_self_eq_true, Nat.reduceSub, Nat.reduceLT, Int.reduceSub, Int.reduceAdd, Int.reduceMul, Int.reduceLT, Int.reduceLE, Int.reduceToNat, optI, aslice, cutSl, cutMs, cutStr, cutOwn, cellsOf, one, elCells, lenOf, beqV, beqVL, strip, stripO, convS]) | ((first | rw [WP_condK] | rw [WP_opsG] | rw [WP_quiG] | rw [WP_dG]); refine And.intro (fun hb => ?_) (fun hb => ?_) <;> (first | have hd := dq1 hb | have hd := dq2 hb | have hd := dq3 hb | have hd := dq4 hb | skip)))
  all_goals simp [firstS, widthS, *]
theorem call_width (x : Int) (h : Heap) : ag T 49 [u64 x] h = some (.tup [u8 (firstS x), i64 (widthS x)], h) := call_tup rfl t49 rfl rfl rfl rfl (width_ok x)
theorem size_width (x : Int) : (widthS x : Int) + 1 = sizeS x := by
  unfold widthS sizeS
  repeat' split
  all_goals rfl
theorem size_ok (x : Int) : prun T F34 [u64 x] = some (i64 (sizeS x)) := by
  refine WP_eq (prun_wp ?_)
  have h1 := size_width x
  have h2 := sizeS_le x
  have h3 : ((widthS x + 1 : Nat) : Int) = sizeS x := h1
  simp -implicitDefEqProofs (disch := omega) only [F34, call_width, h3, wC, initE, aop, Nat.reduceEqDiff, ↓reduceIte, Nat.reduceAdd, finish, resOf, tupOf, AM.freeze, freeze1, freezeL, closed, nam, namL, if_true, if_false, deref, boxAt, exAt, ldCells, oneL, oneCell, Nat.reduceLeDiff, evL, adopt, rigid, rigidL, trim, Int.reduceEq, Int.reduceMod, Int.reduceDiv, if_pos, if_neg, asI, forall_const, implies_true, chkD, chkO, chkW, effB, reB, vEq, beq_self_eq_true, Nat.reduceSub, Nat.reduceLT, Int.reduceSub, Int.reduceAdd, Int.reduceMul, Int.reduceLT, Int.reduceLE, Int.reduceToNat, optI, aslice, cutSl, cutMs, cutStr, cutOwn, cellsOf, one, elCells, lenOf, beqV, beqVL, strip, stripO, convS]
theorem call_size (x : Int) (h : Heap) : ag T 34 [u64 x] h = some (i64 (sizeS x), h) := call_sc rfl t34 rfl rfl rfl rfl (size_ok x)
theorem sizeS_pos (x : Int) : 0 < sizeS x := by
  have := size_width x
  omega
theorem fits1 {n : Nat} (h : n ≤ 140737488355328) : fitsB n 1 = true := by simp [fitsB]; omega
theorem tail_snoc (x : Int) (n : Nat) : tailS (n + 1) x = x / 256 ^ n % 256 :: tailS n x := rfl
theorem shr_byte (x : Int) (j : Nat) (hj : j ≤ 8) : abin .shr (.int .u64 x) (.int .i64 (8 * (j : Int))) = some (.int .u64 (x / 256 ^ j)) := by
  have := shr_c .u64 .i64 x (8 * j) (by simp [IntKind.bits]; omega)
  rw [show ((8 * j : Nat) : Int) = 8 * (j : Int) by omega] at this
  rw [this, Int.fdiv_eq_ediv_of_nonneg _ (by exact Int.le_of_lt (Int.pow_pos (by omega)))]
  congr 3
  rw [show (256 : Int) = 2 ^ 8 by decide, ← Int.pow_mul]
/-- Put -/
theorem put_gen (a : AV) (l : List Int) (x : Int) (hx : U64 x) (hn : l.length ≤ 140737488200000) (k1 : ∀ h, ag T 42 [a] h = some (.slice (.tok h.length) none (l.map u8), h ++ [.row none l.length])) : prun T F35 [a, u64 x] = some (.slice .fresh none ((l ++ numS x).map u8)) := by
  obtain ⟨x0, x1⟩ := hx
  have hs0 := sizeS_pos x
  have hs1 := (sizeS_le x).2
  have hc := u8_closed l
  have k2 : ag T 50 [.slice (.tok 0) none (l.map u8), i64 (sizeS x)] [.row none (l.map u8).length] = _ := call_grow rfl nf50 n50 rfl hs0 (by omega) (by simp; omega)
  simp only [List.length_map] at k2
  refine WP_eq (prun_wp ?_)
  first | have hb := hb | have hb := trivial
  repeat' (first | (simp -implicitDefEqProofs (disch := omega) only [hb, F35, k1, k2, call_size, call_width, setEls, elFits, stripEl, List.replicate_succ, List.replicate_zero, elemsOf, aappend, wC, initE, aop, Nat.reduceEqDiff, ↓reduceIte, Nat.reduceAdd, finish, resOf, tupOf, AM.freeze, freeze1, freezeL, closed, nam, namL, if_true, if_false, deref, boxAt, exAt, ldCells, oneL, oneCell, Nat.reduceLeDiff, evL, adopt, rigid, rigidL, trim, Int.reduceEq, Int.reduceMod, Int.reduceDiv, if_pos, if_neg, asI, forall_const, implies_true, chkD, chkO, chkW, effB, reB, vEq, beq_self_eq_true, Nat.reduceSub, Nat.reduceLT, Int.reduceSub, Int.reduceAdd, Int.reduceMul, Int.reduceLT, Int.reduceLE, Int.reduceToNat, optI, aslice, cutSl, cutMs, cutStr, cutOwn, cellsOf, one, elCells, lenOf, beqV, beqVL, strip, stripO, convS]) | ((first | rw [WP_condK] | rw [WP_opsG] | rw [WP_quiG] | rw [WP_dG]); refine And.intro (fun hb => ?_) (fun hb => ?_) <;> (first | have hd := dq1 hb | have hd := dq2 hb | have hd := dq3 hb | have hd := dq4 hb | skip)))
  · have hw : widthS x = 0 := by omega
    have hx : x < 253 := by
      have := size_width x
      rw [hw] at this
      unfold sizeS at this
      split at this
      · assumption
      · split at this
        · omega
        · split at this <;> omega
    have e1 : IntKind.u8.wrap x = x := by rw [w_u8]; omega
    have e2 : numS x = [x] := by unfold numS; rw [if_pos hx]
    rw [e1, e2]
    refine ⟨?_, ?_⟩
    · have := u8_closed (l ++ [x])
      simpa using this
    · simp
  · have hw : ¬ widthS x = 0 := by omega
    have hx : ¬ x < 253 := by
      intro h
      unfold widthS at hw
      rw [if_pos h] at hw
      exact hw rfl
    have e2 := numS_eq x hx
    have hw8 : widthS x ≤ 8 := by have := size_width x; omega
    refine WP_loop (I := fun n e h => ∃ D : List Int, n ≤ 8 ∧ D ++ tailS n x = l ++ numS x ∧ D.length ≤ l.length + 9 ∧ h = [.row none (l.length + 1), .row none D.length] ∧ getE e 1 = u64 x ∧ getE e 5 = .slice (.tok 1) none (D.map u8) ∧ getE e 7 = i64 ((n : Int) - 1)) ?_ (widthS x) _ _ ⟨l ++ [firstS x], hw8, by rw [e2]; simp, by (simp <;> omega), by simp, rfl, by simp [getE], by simp [getE]; rw [IntWalk.i64_in _ ⟨by omega, by omega⟩]⟩
    rintro n e h ⟨D, hn8, hD, hDl, rfl, h1, h5, h7⟩
    rw [trim_same' (by simp)]
    have hDl2 : D.length + n = l.length + (numS x).length := by
      have := congrArg List.length hD
      rw [List.length_append, List.length_append, tailS_len] at this
      exact this
    cases n with
    | zero =>
      have hD' : D = l ++ numS x := by simpa [tailS] using hD
      subst hD'
      have hcl := u8_closed (l ++ numS x)
      first | have hb := hb | have hb := trivial
      repeat' (first | (simp -implicitDefEqProofs (disch := omega) only [hb, L35_0, h1, h5, h7, wC, initE, aop, Nat.reduceEqDiff, ↓reduceIte, Nat.reduceAdd, finish, resOf, tupOf, AM.freeze, freezeL, closed, nam, namL, if_true, if_false, deref, boxAt, exAt, ldCells, oneL, oneCell, Nat.reduceLeDiff, evL, adopt, rigid, rigidL, trim, Int.reduceEq, Int.reduceMod, Int.reduceDiv, if_pos, if_neg, asI, forall_const, implies_true, chkD, chkO, chkW, effB, reB, vEq, beq_self_eq_true, Nat.reduceSub, Nat.reduceLT, Int.reduceSub, Int.reduceAdd, Int.reduceMul, Int.reduceLT, Int.reduceLE, Int.reduceToNat, optI, aslice, cutSl, cutMs, cutStr, cutOwn, cellsOf, one, elCells, lenOf, beqV, beqVL, strip, stripO, convS]) | ((first | rw [WP_condK] | rw [WP_opsG] | rw [WP_quiG] | rw [WP_dG]); refine And.intro (fun hb => ?_) (fun hb => ?_) <;> (first | have hd := dq1 hb | have hd := dq2 hb | have hd := dq3 hb | have hd := dq4 hb | skip)))
      simp only [freeze1, if_pos hcl, WP, if_true]
      simp
    | succ j =>
      have e1 : (((j + 1 : Nat) : Int) - 1) = (j : Int) := by omega
      rw [e1] at h7
      have hsh : abin .shr (.int .u64 x) (.int .i64 (8 * (j : Int))) = some (.int .u64 (x / 256 ^ j)) := shr_byte x j (by omega)
      first | have hb := hb | have hb := trivial
      repeat' (first | (simp -implicitDefEqProofs (disch := omega) only [hb, L35_0, h1, h5, h7, hsh, w_u8, setEls, elFits, stripEl, List.replicate_succ, List.replicate_zero, elemsOf, aappend, wC, initE, aop, Nat.reduceEqDiff, ↓reduceIte, Nat.reduceAdd, finish, resOf, tupOf, AM.freeze, freeze1, freezeL, closed, nam, namL, if_true, if_false, deref, boxAt, exAt, ldCells, oneL, oneCell, Nat.reduceLeDiff, evL, adopt, rigid, rigidL, trim, Int.reduceEq, Int.reduceMod, Int.reduceDiv, if_pos, if_neg, asI, forall_const, implies_true, chkD, chkO, chkW, effB, reB, vEq, beq_self_eq_true, Nat.reduceSub, Nat.reduceLT, Int.reduceSub, Int.reduceAdd, Int.reduceMul, Int.reduceLT, Int.reduceLE, Int.reduceToNat, optI, aslice, cutSl, cutMs, cutStr, cutOwn, cellsOf, one, elCells, lenOf, beqV, beqVL, strip, stripO, convS]) | ((first | rw [WP_condK] | rw [WP_opsG] | rw [WP_quiG] | rw [WP_dG]); refine And.intro (fun hb => ?_) (fun hb => ?_) <;> (first | have hd := dq1 hb | have hd := dq2 hb | have hd := dq3 hb | have hd := dq4 hb | skip)))
      refine ⟨j, by omega, D ++ [x / 256 ^ j % 256], by omega, ?_, ?_, by simp, by simp⟩
      · rw [List.append_assoc, ← hD]
        rfl
      · have := numS_len x
        rw [List.length_append, List.length_cons, List.length_nil]
        omega
theorem u8_len (l : List Int) : (l.map u8).length = l.length := List.length_map ..
theorem call_clone8 (o : AOwn) (l : List Int) (h : Heap) (hn : l.length ≤ 140737488355328) : ag T 42 [.slice o none (l.map u8)] h = some (.slice (.tok h.length) none (l.map u8), h ++ [.row none l.length]) := by
  have := call_clone e42 (o := o) h (u8_closed l) (fits1 (by simp; omega))
  rwa [u8_len] at this
theorem put_ok (o : AOwn) (l : List Int) (x : Int) (hx : U64 x) (hn : l.length ≤ 140737488200000) : prun T F35 [.slice o none (l.map u8), u64 x] = some (.slice .fresh none ((l ++ numS x).map u8)) :=
  put_gen _ l x hx hn fun h => call_clone8 o l h (by omega)
theorem call_put (o : AOwn) (l : List Int) (x : Int) (hx : U64 x) (hn : l.length ≤ 140737488200000) (h : Heap) : ag T 35 [.slice o none (l.map u8), u64 x] h = some (.slice (.tok h.length) none ((l ++ numS x).map u8), h ++ [.row none (l ++ numS x).length]) := by
  have := call_pure (T := T) (f := 35) (args := [.slice o none (l.map u8), u64 x]) (h := h) rfl t35 rfl rfl (by
    have := u8_closed l
    simp only [List.map_cons, List.map_nil, strip, closedL, namL, nam, Bool.and_true] at this ⊢
    rw [this]
    cases o <;> rfl) (put_ok (stripO o) l x hx hn)
  rw [this]
  simp only [Go.Proofs.Ytejnficfhoekiaa.AM.adopt, u8_len]
theorem call_put_nil (x : Int) (hx : U64 x) (h : Heap) : ag T 35 [.nil, u64 x] h = some (.slice (.tok h.length) none ((numS x).map u8), h ++ [.row none (numS x).length]) := by
  have hp := put_gen .nil [] x hx (by simp) fun h => call_clone_nil e42 h
  have := call_pure (T := T) (f := 35) (args := [.nil, u64 x]) (h := h) rfl t35 rfl rfl rfl hp
  rw [this]
  simp only [Go.Proofs.Ytejnficfhoekiaa.AM.adopt, u8_len, List.nil_append]
/-- the reference's number -/
theorem num_ok (x : Int) (hx : U64 x) : ∃ o, (o = .full ∨ o = .fresh) ∧ prun T F37 [u64 x] = some (.slice o none ((numS x).map u8)) := by
  obtain ⟨x0, x1⟩ := hx
  by_cases hx : x < 253
  · refine ⟨.full, .inl rfl, ?_⟩
    have e1 : IntKind.u8.wrap x = x := by rw [w_u8]; omega
    have e2 : numS x = [x] := by unfold numS; rw [if_pos hx]
    rw [e2]
    refine WP_eq (prun_wp ?_)
    first | have hb := hb | have hb := trivial
    repeat' (first | (simp -implicitDefEqProofs (disch := omega) only [hb, F37, e1, setEls, elFits, stripEl, List.replicate_succ, List.replicate_zero, wC, initE, aop, Nat.reduceEqDiff, ↓reduceIte, Nat.reduceAdd, finish, resOf, tupOf, AM.freeze, freeze1, freezeL, closed, nam, namL, if_true, if_false, deref, boxAt, exAt, ldCells, oneL, oneCell, Nat.reduceLeDiff, evL, adopt, rigid, rigidL, trim, Int.reduceEq, Int.reduceMod, Int.reduceDiv, if_pos, if_neg, asI, forall_const, implies_true, chkD, chkO, chkW, effB, reB, vEq, beq_self_eq_true, Nat.reduceSub, Nat.reduceLT, Int.reduceSub, Int.reduceAdd, Int.reduceMul, Int.reduceLT, Int.reduceLE, Int.reduceToNat, optI, aslice, cutSl, cutMs, cutStr, cutOwn, cellsOf, one, elCells, lenOf, beqV, beqVL, strip, stripO, convS]) | ((first | rw [WP_condK] | rw [WP_opsG] | rw [WP_quiG] | rw [WP_dG]); refine And.intro (fun hb => ?_) (fun hb => ?_) <;> (first | have hd := dq1 hb | have hd := dq2 hb | have hd := dq3 hb | have hd := dq4 hb | skip)))
  · refine ⟨.fresh, .inr rfl, ?_⟩
    have e2 := numS_eq x hx
    refine WP_eq (prun_wp ?_)
    first | have hb := hb | have hb := trivial
    repeat' (first | (simp -implicitDefEqProofs (disch := omega) only [hb, F37, setEls, elFits, stripEl, List.replicate_succ, List.replicate_zero, wC, initE, aop, Nat.reduceEqDiff, ↓reduceIte, Nat.reduceAdd, finish, resOf, tupOf, AM.freeze, freeze1, freezeL, closed, nam, namL, if_true, if_false, deref, boxAt, exAt, ldCells, oneL, oneCell, Nat.reduceLeDiff, evL, adopt, rigid, rigidL, trim, Int.reduceEq, Int.reduceMod, Int.reduceDiv, if_pos, if_neg, asI, forall_const, implies_true, chkD, chkO, chkW, effB, reB, vEq, beq_self_eq_true, Nat.reduceSub, Nat.reduceLT, Int.reduceSub, Int.reduceAdd, Int.reduceMul, Int.reduceLT, Int.reduceLE, Int.reduceToNat, optI, aslice, cutSl, cutMs, cutStr, cutOwn, cellsOf, one, elCells, lenOf, beqV, beqVL, strip, stripO, convS]) | ((first | rw [WP_condK] | rw [WP_opsG] | rw [WP_quiG] | rw [WP_dG]); refine And.intro (fun hb => ?_) (fun hb => ?_) <;> (first | have hd := dq1 hb | have hd := dq2 hb | have hd := dq3 hb | have hd := dq4 hb | skip)))
    all_goals
      refine WP_loop (I := fun n e h => ∃ (D : List Int) (o : AOwn), n ≤ 8 ∧ D ++ tailS n x = numS x ∧ D.length + n ≤ 9 ∧ ((o = .full ∧ h = [.row none 0] ∧ 0 < n) ∨ (o = .tok 1 ∧ h = [.row none 0, .row none D.length])) ∧ getE e 0 = u64 x ∧ getE e 4 = .slice o none (D.map u8) ∧ getE e 5 = i64 ((n : Int) - 1)) ?_ (widthS x) _ _ ⟨[firstS x], .full, by simp [widthS, *], by rw [e2]; rfl, by simp [widthS, *], .inl ⟨rfl, rfl, by simp [widthS, *]⟩, rfl, by simp [getE, firstS, *], by simp [getE, widthS, *]⟩
      rintro n e h ⟨D, o, hn8, hD, hDl, ho, h0, h4, h5⟩
      rw [trim_off]
      cases n with
      | zero =>
        have hD' : D = numS x := by simpa [tailS] using hD
        subst hD'
        have hcl := u8_closed (numS x)
        rcases ho with ⟨_, _, hh⟩ | ⟨rfl, rfl⟩
        · omega
        first | have hb := hb | have hb := trivial
        repeat' (first | (simp -implicitDefEqProofs (disch := omega) only [hb, L37_0, h0, h4, h5, wC, initE, aop, Nat.reduceEqDiff, ↓reduceIte, Nat.reduceAdd, finish, resOf, tupOf, AM.freeze, freezeL, closed, nam, namL, if_true, if_false, deref, boxAt, exAt, ldCells, oneL, oneCell, Nat.reduceLeDiff, evL, adopt, rigid, rigidL, trim, Int.reduceEq, Int.reduceMod, Int.reduceDiv, if_pos, if_neg, asI, forall_const, implies_true, chkD, chkO, chkW, effB, reB, vEq, beq_self_eq_true, Nat.reduceSub, Nat.reduceLT, Int.reduceSub, Int.reduceAdd, Int.reduceMul, Int.reduceLT, Int.reduceLE, Int.reduceToNat, optI, aslice, cutSl, cutMs, cutStr, cutOwn, cellsOf, one, elCells, lenOf, beqV, beqVL, strip, stripO, convS]) | ((first | rw [WP_condK] | rw [WP_opsG] | rw [WP_quiG] | rw [WP_dG]); refine And.intro (fun hb => ?_) (fun hb => ?_) <;> (first | have hd := dq1 hb | have hd := dq2 hb | have hd := dq3 hb | have hd := dq4 hb | skip)))
        simp only [freeze1, if_pos hcl, WP, if_true]
        simp
      | succ j =>
        have e1 : (((j + 1 : Nat) : Int) - 1) = (j : Int) := by omega
        rw [e1] at h5
        have hsh : abin .shr (.int .u64 x) (.int .i64 (8 * (j : Int))) = some (.int .u64 (x / 256 ^ j)) := shr_byte x j (by omega)
        rcases ho with ⟨rfl, rfl, _⟩ | ⟨rfl, rfl⟩
        all_goals
          first | have hb := hb | have hb := trivial
          repeat' (first | (simp -implicitDefEqProofs (disch := omega) only [hb, L37_0, h0, h4, h5, hsh, w_u8, setEls, elFits, stripEl, List.replicate_succ, List.replicate_zero, elemsOf, aappend, wC, initE, aop, Nat.reduceEqDiff, ↓reduceIte, Nat.reduceAdd, finish, resOf, tupOf, AM.freeze, freeze1, freezeL, closed, nam, namL, if_true, if_false, deref, boxAt, exAt, ldCells, oneL, oneCell, Nat.reduceLeDiff, evL, adopt, rigid, rigidL, trim, Int.reduceEq, Int.reduceMod, Int.reduceDiv, if_pos, if_neg, asI, forall_const, implies_true, chkD, chkO, chkW, effB, reB, vEq, beq_self_eq_true, Nat.reduceSub, Nat.reduceLT, Int.reduceSub, Int.reduceAdd, Int.reduceMul, Int.reduceLT, Int.reduceLE, Int.reduceToNat, optI, aslice, cutSl, cutMs, cutStr, cutOwn, cellsOf, one, elCells, lenOf, beqV, beqVL, strip, stripO, convS]) | ((first | rw [WP_condK] | rw [WP_opsG] | rw [WP_quiG] | rw [WP_dG]); refine And.intro (fun hb => ?_) (fun hb => ?_) <;> (first | have hd := dq1 hb | have hd := dq2 hb | have hd := dq3 hb | have hd := dq4 hb | skip)))
          refine ⟨j, by omega, D ++ [x / 256 ^ j % 256], .tok 1, by omega, by rw [List.append_assoc, ← hD]; rfl, by rw [List.length_append, List.length_cons, List.length_nil]; omega, .inr ⟨rfl, by simp⟩, by simp⟩
end Go.Proofs.Ytejnficfhoekiaa.AM
