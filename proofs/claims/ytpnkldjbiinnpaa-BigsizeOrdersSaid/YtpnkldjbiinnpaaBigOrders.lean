import Derived.Test.YtpnkldjbiinnpaaBigPure
import Derived.Test.YtpnkldjbiinnpaaPO1
/- How numbers are ordered. -/
namespace Go.Proofs.Ytpnkldjbiinnpaa.Pure
open Go.RowKit Go.Proofs.Ytpnkldjbiinnpaa.PC Go.Proofs.Ytpnkldjbiinnpaa.PO Go.Proofs.YtpnkldjbiinnpaaW.PrintWords Go.Proofs.YtpnkldjbiinnpaaW.PrintLast
set_option linter.unusedVariables false
set_option linter.unusedSimpArgs false
theorem less_cons (a b : Int) (x y : List Int) (ha : 0 ≤ a ∧ a ≤ 255) (hb : 0 ≤ b ∧ b ≤ 255) : Op.bytesLess ((strOfNums (b :: y)).toList) ((strOfNums (a :: x)).toList) = (decide (b < a) || (decide (b = a) && Op.bytesLess ((strOfNums y).toList) ((strOfNums x).toList))) := by
  rw [ByteArray.toList_eq, ByteArray.toList_eq, ByteArray.toList_eq, ByteArray.toList_eq, strOfNums_data, strOfNums_data, strOfNums_data, strOfNums_data, List.map_cons, List.map_cons]
  simp only [Op.bytesLess]
  have e1 : (UInt8.ofNat b.toNat).toNat = b.toNat := by simp [UInt8.toNat_ofNat']; omega
  have e2 : (UInt8.ofNat a.toNat).toNat = a.toNat := by simp [UInt8.toNat_ofNat']; omega
  have h1 : (decide (UInt8.ofNat b.toNat < UInt8.ofNat a.toNat)) = decide (b < a) := by
    rw [decide_eq_decide, UInt8.lt_iff_toNat_lt, e1, e2]; omega
  have h2 : (UInt8.ofNat b.toNat == UInt8.ofNat a.toNat) = decide (b = a) := by
    rw [Bool.eq_iff_iff, beq_iff_eq, decide_eq_true_iff, ← UInt8.toNat_inj, e1, e2]; omega
  rw [h1, h2]
theorem less_tail (x y : Int) (hx : 0 ≤ x) (hy : 0 ≤ y) : ∀ n : Nat, x % 256 ^ n ≤ y % 256 ^ n → Op.bytesLess ((strOfNums (tailS n y)).toList) ((strOfNums (tailS n x)).toList) = false
  | 0, _ => by simp [tailS, strOfNums, ByteArray.toList_eq, Op.bytesLess]
  | n + 1, h => by
    rw [emod_split x hx, emod_split y hy] at h
    have hp : (0 : Int) < 256 ^ n := Int.pow_pos (by omega)
    have bx := Int.emod_nonneg x (show (256 : Int) ^ n ≠ 0 by omega)
    have bx2 := Int.emod_lt_of_pos x hp
    have by1 := Int.emod_nonneg y (show (256 : Int) ^ n ≠ 0 by omega)
    have by2 := Int.emod_lt_of_pos y hp
    unfold tailS
    rw [less_cons _ _ _ _ (by omega) (by omega)]
    have ih := less_tail x y hx hy n
    generalize x / 256 ^ n % 256 = a at *
    generalize y / 256 ^ n % 256 = b at *
    generalize x % 256 ^ n = lx at *
    generalize y % 256 ^ n = ly at *
    generalize (256 : Int) ^ n = P at *
    have hab : ¬ b < a := fun hlt => by
      have z := Int.mul_le_mul_of_nonneg_right (show b + 1 ≤ a by omega) (show 0 ≤ P by omega)
      rw [Int.add_mul, Int.one_mul] at z
      omega
    rw [decide_eq_false hab, Bool.false_or]
    by_cases e : b = a
    · subst e
      rw [ih (by omega), Bool.and_false]
    · rw [decide_eq_false e, Bool.false_and]
theorem less_num (x y : Int) (hx : 0 ≤ x) (hy : y ≤ 18446744073709551615) (h : x ≤ y) (hs : sizeS x = sizeS y) : Op.bytesLess ((strOfNums (numS y)).toList) ((strOfNums (numS x)).toList) = false := by
  have key : ∀ (b : Int) (n : Nat), 0 ≤ b → b ≤ 255 → y < 256 ^ n → Op.bytesLess ((strOfNums (b :: tailS n y)).toList) ((strOfNums (b :: tailS n x)).toList) = false := by
    intro b n h0 h1 hn
    rw [less_cons b b _ _ ⟨h0, h1⟩ ⟨h0, h1⟩, less_tail x y hx (by omega) n (by rw [Int.emod_eq_of_lt hx (by omega), Int.emod_eq_of_lt (by omega) hn]; exact h)]
    simp
  unfold sizeS at hs
  unfold numS
  by_cases a1 : y < 253
  · rw [if_pos a1, if_pos (by omega), less_cons _ _ _ _ (by omega) (by omega), decide_eq_false (by omega)]
    simp [strOfNums, ByteArray.toList_eq, Op.bytesLess]
  · rw [if_neg a1] at hs ⊢
    by_cases b1 : x < 253
    · rw [if_pos b1] at hs
      split at hs
      · omega
      · split at hs <;> omega
    · rw [if_neg b1] at hs ⊢
      by_cases a2 : y ≤ 65535
      · rw [if_pos a2, if_pos (by omega)]
        exact key 253 2 (by omega) (by omega) (by omega)
      · rw [if_neg a2] at hs ⊢
        by_cases b2 : x ≤ 65535
        · rw [if_pos b2] at hs
          split at hs <;> omega
        · rw [if_neg b2] at hs ⊢
          by_cases a3 : y ≤ 4294967295
          · rw [if_pos a3, if_pos (by omega)]
            exact key 254 4 (by omega) (by omega) (by omega)
          · rw [if_neg a3] at hs ⊢
            by_cases b3 : x ≤ 4294967295
            · rw [if_pos b3] at hs; omega
            · rw [if_neg b3]
              exact key 255 8 (by omega) (by omega) (by omega)
theorem size_mono (x y : Int) (h : x ≤ y) : sizeS x ≤ sizeS y := by
  unfold sizeS
  repeat' split
  all_goals omega
theorem num_inj {x y : Int} (hx : 0 ≤ x) (hx1 : x ≤ 18446744073709551615) (hy : 0 ≤ y) (hy1 : y ≤ 18446744073709551615) (h : numS x = numS y) : x = y := by
  have a := readS_num x hx hx1 []
  have b := readS_num y hy hy1 []
  rw [h, b] at a
  exact (congrArg Prod.fst a).symm
theorem orders (K : Nat) (x y : Int) (hx : 0 ≤ x) (hy : y ≤ 18446744073709551615) (h : x ≤ y) : tollhouselaw01_BigsizeOrders.j0 (K + 1) x y = some true := by
  have nx := numS_len x
  have ny := numS_len y
  have hm := size_mono x y h
  have hlast : ((x == y) == ((strOfNums (numS x)).toList == (strOfNums (numS y)).toList)) = true := by
    by_cases e : x = y
    · subst e; simp
    · have : ¬ (strOfNums (numS x)).toList = (strOfNums (numS y)).toList := fun z => e (num_inj hx (by omega) (by omega) hy (str_inj (numS_bytes x hx) (numS_bytes y (by omega)) z))
      rw [beq_eq_false_iff_ne.2 e, beq_eq_false_iff_ne.2 this]; rfl
  unfold tollhouselaw01_BigsizeOrders.j0
  dsimp only
  rw [put_f [] x hx (by decide), Option.bind_some, put_f [] y (by omega) (by decide), Option.bind_some, lives_f, Option.bind_some, if_pos rfl, List.nil_append, List.nil_append, if_pos (by omega), size_f x hx, Option.bind_some, if_pos nx, hlast]
  by_cases e : ((numS x).length : Int) = (numS y).length
  · rw [if_pos e, less_num x y hx hy h (by omega), if_neg (by decide)]
  · rw [if_neg e]
theorem BigsizeOrders : tollhouselaw01_BigsizeOrders.Pure := by
  intro x y hx hy
  have hx := (U64_iff x).1 hx
  have hy := (U64_iff y).1 hy
  refine ⟨1, ?_⟩
  unfold tollhouselaw01_BigsizeOrders.f
  by_cases h : x > y
  · rw [if_pos h]; exact orders 0 y x hy.1 hx.2 (by omega)
  · rw [if_neg h]; exact orders 0 x y hx.1 hy.2 (by omega)
end Go.Proofs.Ytpnkldjbiinnpaa.Pure
