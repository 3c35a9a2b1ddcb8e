import Derived.Test.YtlhafpkkgocpnaaDiv
import Derived.Test.YtlhafpkkgocpnaaPA3
/- What the functions of amount come to, in plain numbers. -/
namespace Go.Proofs.Ytlhafpkkgocpnaa.PA
open Go.RowKit Go.Proofs.YtlhafpkkgocpnaaW.PrintWords Go.Proofs.YtlhafpkkgocpnaaW.PrintLast Go.Proofs.YtlhafpkkgocpnaaW.PrintMore

theorem div64_any (k : Nat) (hi lo y : Int) (hy0 : 524288 ≤ y) (hy1 : y < 2097152) (h0 : 0 ≤ hi) (h1 : hi < y) (hl0 : 0 ≤ lo) (hl1 : lo ≤ 18446744073709551615) :
    bits_Div64.f (k + 6) hi lo y = some ((hi * 18446744073709551616 + lo) / y, (hi * 18446744073709551616 + lo) % y) := by
  by_cases hz : hi = 0
  · subst hz
    unfold bits_Div64.f
    rw [if_neg (by omega), if_neg (by omega), if_pos rfl, IntWalk.u64_quo lo y ⟨hl0, hl1, by omega⟩, Int.tmod_eq_emod_of_nonneg hl0, Int.zero_mul, Int.zero_add]
  · by_cases hy : y < 1048576
    · exact div64_44 k hi lo y hy0 hy (by omega) h1 hl0 hl1
    · exact div64_43 k hi lo y (by omega) hy1 (by omega) h1 hl0 hl1

def I64 (x : Int) : Prop := -9223372036854775808 ≤ x ∧ x ≤ 9223372036854775807
def addS (a b : Int) : Int × Int := if a < 0 ∨ b < 0 then (0, 1) else if a + b > 9223372036854775807 then (0, 20) else (a + b, 0)
def subS (a b : Int) : Int × Int := if a < 0 ∨ b < 0 then (0, 1) else if b > a then (0, 20) else (a - b, 0)
def mayS (b r : Int) : Bool := decide (0 ≤ b ∧ 0 ≤ r ∧ r ≤ 1000000)
def feeS (b r x : Int) : Int × Int := if mayS b r = true ∧ 0 ≤ x then addS b (x * r / 1000000) else (0, 1)
def inS (b r x : Int) : Int × Int := if (feeS b r x).2 = 0 then addS x (feeS b r x).1 else (0, (feeS b r x).2)

theorem wrap64_of {x : Int} (h : I64 x) : wrap64 x = x := by unfold I64 at h; unfold wrap64; omega

theorem add_f (k : Nat) (a b : Int) (ha : I64 a) (hb : I64 b) : amount_Add.f (k + 1) a b = some (addS a b) := by
  unfold amount_Add.f addS
  unfold I64 at ha hb
  by_cases h1 : a < 0
  · rw [if_pos h1, amount_Add.j0, if_pos rfl, if_pos (Or.inl h1)]
  · rw [if_neg h1, amount_Add.j0]
    by_cases h2 : b < 0
    · rw [if_pos (decide_eq_true h2), if_pos (Or.inr h2)]
    · rw [if_neg (show ¬ (decide (b < 0) = true) by simp; omega), wrap64_of (x := 9223372036854775807 - b) ⟨by omega, by omega⟩, if_neg (show ¬ (a < 0 ∨ b < 0) by omega)]
      by_cases h3 : a + b > 9223372036854775807
      · rw [if_pos (by omega), if_pos h3]
      · rw [if_neg (by omega), if_neg h3, wrap64_of ⟨by omega, by omega⟩]
theorem addS_I64 {a b : Int} (ha : I64 a) (hb : I64 b) : I64 (addS a b).1 := by
  unfold addS I64 at *
  split
  · simp
  · split
    · simp
    · simp only []; omega
theorem addS_snd (a b : Int) : ((addS a b).2 = 0 ∧ 0 ≤ a ∧ 0 ≤ b ∧ a + b ≤ 9223372036854775807 ∧ (addS a b).1 = a + b) ∨ ((addS a b).2 = 1 ∧ (addS a b).1 = 0 ∧ (a < 0 ∨ b < 0)) ∨ ((addS a b).2 = 20 ∧ (addS a b).1 = 0 ∧ 0 ≤ a ∧ 0 ≤ b ∧ a + b > 9223372036854775807) := by
  unfold addS
  split
  · rename_i h; exact Or.inr (Or.inl ⟨rfl, rfl, h⟩)
  · split
    · rename_i h1 h2; exact Or.inr (Or.inr ⟨rfl, rfl, by omega, by omega, h2⟩)
    · rename_i h1 h2; exact Or.inl ⟨rfl, by omega, by omega, by omega, rfl⟩
theorem part_lt {x r : Int} (_hx : I64 x) (h0 : 0 ≤ x) (r0 : 0 ≤ r) (r1 : r ≤ 1000000) : 0 ≤ x * r ∧ x * r ≤ x * 1000000 ∧ 0 ≤ x * r / 1000000 ∧ x * r / 1000000 ≤ x := by
  have a := Int.mul_nonneg h0 r0
  have b : x * r ≤ x * 1000000 := Int.mul_le_mul_of_nonneg_left r1 h0
  refine ⟨a, b, by omega, by omega⟩
theorem may_f (b r : Int) : amount_may.f b r = some (mayS b r) := by
  unfold amount_may.f mayS
  by_cases h1 : b ≥ 0
  · rw [if_pos h1]
    by_cases h2 : r ≥ 0
    · rw [if_pos h2]; exact congrArg some (decide_eq_decide.2 (by omega))
    · rw [if_neg h2, decide_eq_false (by omega)]
  · rw [if_neg h1, decide_eq_false (by omega)]
theorem fee_f (k : Nat) (b r x : Int) (hb : I64 b) (hr : I64 r) (hx : I64 x) : amount_Fee.f (k + 7) b r x = some (feeS b r x) := by
  unfold amount_Fee.f feeS
  rw [may_f]
  simp only [Option.bind_some]
  cases hm : mayS b r with
  | false => rw [if_neg (by simp), amount_Fee.j0, if_pos rfl, if_neg (by simp)]
  | true =>
    rw [if_pos rfl, amount_Fee.j0]
    by_cases h0 : x < 0
    · rw [if_pos (decide_eq_true h0), if_neg (by omega)]
    · have hm' := hm
      unfold mayS at hm'
      have hm2 := of_decide_eq_true hm'
      unfold I64 at hb hr
      have hx' := hx
      unfold I64 at hx
      obtain ⟨p1, p2, p3, p4⟩ := part_lt hx' (by omega) hm2.2.1 hm2.2.2
      rw [if_neg (by simp; omega), if_pos ⟨rfl, by omega⟩, IntWalk.u64_in x ⟨by omega, by omega⟩, IntWalk.u64_in r ⟨by omega, by omega⟩]
      unfold bits_Mul64.f
      rw [if_pos ⟨by omega, by omega, by omega, by omega⟩]
      simp only [Option.bind_some]
      generalize hM : x * r = M at *
      rw [div64_any k (M / 18446744073709551616) (M % 18446744073709551616) 1000000 (by omega) (by omega) (by omega) (by omega) (by omega) (by omega)]
      simp only [Option.bind_some]
      rw [show M / 18446744073709551616 * 18446744073709551616 + M % 18446744073709551616 = M by omega, wrap64_of (x := M / 1000000) ⟨by omega, by omega⟩]
      rw [add_f (k + 5) b (M / 1000000) ⟨by omega, by omega⟩ ⟨by omega, by omega⟩]
      rfl
end Go.Proofs.Ytlhafpkkgocpnaa.PA
