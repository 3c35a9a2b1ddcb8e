import Derived.Test.YtlhafpkkgocpnaaPlain
import Derived.Test.YtlhafpkkgocpnaaPA4
/- What the functions of amount and of its reference come to, in plain numbers. -/
namespace Go.Proofs.Ytlhafpkkgocpnaa.PA
open Go.RowKit Go.Proofs.YtlhafpkkgocpnaaW.PrintWords Go.Proofs.YtlhafpkkgocpnaaW.PrintLast Go.Proofs.YtlhafpkkgocpnaaW.PrintMore

theorem radd_f (k : Nat) (a b : Int) (ha : I64 a) (hb : I64 b) : tollhouseref02_Add.f (k + 1) a b = some (addS a b) := by
  unfold tollhouseref02_Add.f addS
  unfold I64 at ha hb
  by_cases h1 : a < 0
  · rw [if_pos h1, tollhouseref02_Add.j0, if_pos rfl, if_pos (Or.inl h1)]
  · rw [if_neg h1, tollhouseref02_Add.j0]
    by_cases h2 : b < 0
    · rw [if_pos (decide_eq_true h2), if_pos (Or.inr h2)]
    · rw [if_neg (show ¬ (decide (b < 0) = true) by simp; omega), wrap64_of (x := 9223372036854775807 - b) ⟨by omega, by omega⟩, if_neg (show ¬ (a < 0 ∨ b < 0) by omega)]
      by_cases h3 : a + b > 9223372036854775807
      · rw [if_pos (by omega), if_pos h3]
      · rw [if_neg (by omega), if_neg h3, wrap64_of ⟨by omega, by omega⟩]
theorem right_f (b r : Int) : tollhouseref02_Right.f b r = some (mayS b r) := by
  unfold tollhouseref02_Right.f mayS
  by_cases h1 : b ≥ 0
  · rw [if_pos h1]
    by_cases h2 : r ≥ 0
    · rw [if_pos h2]; exact congrArg some (decide_eq_decide.2 (by omega))
    · rw [if_neg h2, decide_eq_false (by omega)]
  · rw [if_neg h1, decide_eq_false (by omega)]
theorem rpart_f (x r : Int) (hx : I64 x) (h0 : 0 ≤ x) (r0 : 0 ≤ r) (r1 : r ≤ 1000000) : tollhouseref02_Part.f x r = some (x * r / 1000000) := by
  unfold tollhouseref02_Part.f
  rw [Int.tdiv_eq_ediv_of_nonneg h0, Int.tmod_eq_emod_of_nonneg h0]
  have a1 : x * r = x / 1000000 * r * 1000000 + x % 1000000 * r := by
    have e : x = x / 1000000 * 1000000 + x % 1000000 := by omega
    have e2 : (x / 1000000 * 1000000 + x % 1000000) * r = x / 1000000 * r * 1000000 + x % 1000000 * r := by rw [Int.add_mul]; congr 1; ac_rfl
    rw [← e2, ← e]
  have a2 := Int.mul_nonneg (show 0 ≤ x / 1000000 by omega) r0
  have a3 : x / 1000000 * r ≤ x / 1000000 * 1000000 := Int.mul_le_mul_of_nonneg_left r1 (by omega)
  have a4 := Int.mul_nonneg (show 0 ≤ x % 1000000 by omega) r0
  have a5 : x % 1000000 * r ≤ x % 1000000 * 1000000 := Int.mul_le_mul_of_nonneg_left r1 (by omega)
  unfold I64 at hx
  rw [wrap64_of (x := x / 1000000) ⟨by omega, by omega⟩, wrap64_of (x := x / 1000000 * r) ⟨by omega, by omega⟩, wrap64_of (x := x % 1000000 * r) ⟨by omega, by omega⟩, Int.tdiv_eq_ediv_of_nonneg a4]
  generalize x / 1000000 * r = P at *
  generalize x % 1000000 * r = Q at *
  rw [wrap64_of (x := Q / 1000000) ⟨by omega, by omega⟩, wrap64_of (x := P + Q / 1000000) ⟨by omega, by omega⟩]
  congr 1
  omega
theorem rfee_f (k : Nat) (b r x : Int) (hb : I64 b) (hx : I64 x) : tollhouseref02_Fee.f (k + 2) b r x = some (feeS b r x) := by
  unfold tollhouseref02_Fee.f feeS
  rw [right_f]
  simp only [Option.bind_some]
  cases hm : mayS b r with
  | false => rw [if_neg (by simp), tollhouseref02_Fee.j0, if_pos rfl, if_neg (by simp)]
  | true =>
    rw [if_pos rfl, tollhouseref02_Fee.j0]
    by_cases h0 : x < 0
    · rw [if_pos (decide_eq_true h0), if_neg (by omega)]
    · have hm' := hm
      unfold mayS at hm'
      have hm2 := of_decide_eq_true hm'
      obtain ⟨p1, p2, p3, p4⟩ := part_lt hx (by omega) hm2.2.1 hm2.2.2
      have hx' := hx
      unfold I64 at hx'
      rw [if_neg (by simp; omega), if_pos ⟨rfl, by omega⟩, rpart_f x r hx (by omega) hm2.2.1 hm2.2.2]
      simp only [Option.bind_some]
      rw [radd_f k b (x * r / 1000000) hb ⟨by omega, by omega⟩]
      rfl
theorem addS_comm (a b : Int) : addS a b = addS b a := by
  unfold addS
  rw [Int.add_comm]
  by_cases h : a < 0 ∨ b < 0
  · rw [if_pos h, if_pos (by omega)]
  · rw [if_neg h, if_neg (show ¬ (b < 0 ∨ a < 0) by omega)]
theorem feeS_I64 (b r x : Int) (hb : I64 b) (hx : I64 x) : I64 (feeS b r x).1 := by
  unfold feeS
  split
  · rename_i h
    have hm := h.1
    unfold mayS at hm
    have hm2 := of_decide_eq_true hm
    obtain ⟨p1, p2, p3, p4⟩ := part_lt hx h.2 hm2.2.1 hm2.2.2
    have hx' := hx
    unfold I64 at hx'
    exact addS_I64 hb ⟨by omega, by omega⟩
  · unfold I64; simp
theorem in_f (k : Nat) (b r x : Int) (hb : I64 b) (hr : I64 r) (hx : I64 x) : amount_In.f (k + 7) b r x = some (inS b r x) := by
  unfold amount_In.f inS
  rw [fee_f k b r x hb hr hx]
  simp only [Option.bind_some]
  split
  · rw [add_f (k + 6) x _ hx (feeS_I64 b r x hb hx)]
    rfl
  · rfl
theorem rin_f (k : Nat) (b r x : Int) (hb : I64 b) (hx : I64 x) : tollhouseref02_In.f (k + 7) b r x = some (inS b r x) := by
  unfold tollhouseref02_In.f inS
  rw [rfee_f (k + 5) b r x hb hx]
  simp only [Option.bind_some]
  split
  · rw [radd_f (k + 6) _ x (feeS_I64 b r x hb hx) hx, addS_comm]
    rfl
  · rfl
def shareS (x n i : Int) : Int := if x < 0 ∨ n < 1 ∨ n > 65536 ∨ i < 0 ∨ i ≥ n then 0 else if i < x % n then x / n + 1 else x / n
theorem share_j (k : Nat) (x n i : Int) (hx : I64 x) (h : ¬ (x < 0 ∨ n < 1 ∨ n > 65536 ∨ i < 0 ∨ i ≥ n)) : amount_Share.j0 (k + 1) x n i false = some (shareS x n i) ∧ tollhouseref02_Share.j0 (k + 1) x n i false = some (shareS x n i) := by
  rw [amount_Share.j0, tollhouseref02_Share.j0]
  unfold shareS
  have e1 : Int.tdiv x n = x / n := Int.tdiv_eq_ediv_of_nonneg (by omega)
  have e2 : Int.tmod x n = x % n := Int.tmod_eq_emod_of_nonneg (by omega)
  have b1 : 0 ≤ x / n := Int.ediv_nonneg (by omega) (by omega)
  have b2 : x / n ≤ x := Int.ediv_le_self n (by omega)
  have hx' := hx
  unfold I64 at hx'
  rw [if_neg (show ¬ false = true by simp), if_neg h, if_neg (show ¬ n = 0 by omega), e1, e2, wrap64_of (x := x / n) ⟨by omega, by omega⟩]
  have hlt : i < x % n → x / n + 1 ≤ 9223372036854775807 := by
    intro hi
    by_cases h1 : n = 1
    · subst h1; omega
    · have : x / n < x ∨ x = 0 := by
        by_cases hx0 : x = 0
        · exact Or.inr hx0
        · left
          exact Int.ediv_lt_of_lt_mul (by omega) (by
            have : x * 2 ≤ x * n := Int.mul_le_mul_of_nonneg_left (by omega) (by omega)
            omega)
      rcases this with h2 | h2
      · omega
      · subst h2; simp
  split
  · rename_i hi
    have := hlt hi
    rw [wrap64_of (x := x / n + 1) ⟨by omega, by omega⟩]
    exact ⟨rfl, rfl⟩
  · exact ⟨rfl, rfl⟩
theorem share_bad (k : Nat) (x n i : Int) (h : x < 0 ∨ n < 1 ∨ n > 65536 ∨ i < 0 ∨ i ≥ n) : amount_Share.j0 (k + 1) x n i true = some (shareS x n i) ∧ tollhouseref02_Share.j0 (k + 1) x n i true = some (shareS x n i) := by
  rw [amount_Share.j0, tollhouseref02_Share.j0]
  unfold shareS
  rw [if_pos rfl, if_pos h]
  exact ⟨rfl, rfl⟩
theorem share_f (k : Nat) (x n i : Int) (hx : I64 x) : amount_Share.f (k + 1) x n i = some (shareS x n i) ∧ tollhouseref02_Share.f (k + 1) x n i = some (shareS x n i) := by
  unfold amount_Share.f tollhouseref02_Share.f
  by_cases h1 : x < 0
  · rw [if_pos h1, if_pos h1]; exact share_bad k x n i (by omega)
  rw [if_neg h1, if_neg h1]
  by_cases h2 : n < 1
  · rw [if_pos h2, if_pos h2]; exact share_bad k x n i (by omega)
  rw [if_neg h2, if_neg h2]
  by_cases h3 : n > 65536
  · rw [if_pos h3, if_pos h3]; exact share_bad k x n i (by omega)
  rw [if_neg h3, if_neg h3]
  by_cases h4 : i < 0
  · rw [if_pos h4, if_pos h4]; exact share_bad k x n i (by omega)
  rw [if_neg h4, if_neg h4]
  by_cases h5 : i ≥ n
  · rw [decide_eq_true h5]; exact share_bad k x n i (by omega)
  · rw [decide_eq_false h5]; exact share_j k x n i hx (by omega)
theorem lives_f (k : Nat) : tollhouselaw02_lives.f (k + 7) = some true := by
  unfold tollhouselaw02_lives.f
  have i1 : ∀ x : Int, -9223372036854775808 ≤ x → x ≤ 9223372036854775807 → I64 x := fun x a b => ⟨a, b⟩
  rw [fee_f k 1000 100 1000000 (i1 _ (by omega) (by omega)) (i1 _ (by omega) (by omega)) (i1 _ (by omega) (by omega)), in_f k 1000 100 1000000 (i1 _ (by omega) (by omega)) (i1 _ (by omega) (by omega)) (i1 _ (by omega) (by omega)), add_f (k + 6) 4611686018427387904 4611686018427387904 (i1 _ (by omega) (by omega)) (i1 _ (by omega) (by omega)), (share_f (k + 6) 10 3 0 (i1 _ (by omega) (by omega))).1]
  simp only [Option.bind_some]
  rw [show feeS 1000 100 1000000 = (1100, 0) by decide, show inS 1000 100 1000000 = (1001100, 0) by decide, show addS 4611686018427387904 4611686018427387904 = (0, 20) by decide, show shareS 10 3 0 = 4 by decide]
  rfl
theorem fees_f (k : Nat) (b r x : Int) (hb : I64 b) (hr : I64 r) (hx : I64 x) : tollhouselaw02_AmountFees.f (k + 7) b r x = some true := by
  unfold tollhouselaw02_AmountFees.f
  rw [fee_f k b r x hb hr hx, rfee_f (k + 5) b r x hb hx, in_f k b r x hb hr hx, rin_f k b r x hb hx, lives_f]
  simp
end Go.Proofs.Ytlhafpkkgocpnaa.PA
