import Derived.Test.YtlhafpkkgocpnaaPlain2
import Derived.Test.YtlhafpkkgocpnaaPA5
/- Of a greater amount neither the fee nor what comes in is less. -/
namespace Go.Proofs.Ytlhafpkkgocpnaa.PA
open Go.RowKit Go.Proofs.YtlhafpkkgocpnaaW.PrintWords Go.Proofs.YtlhafpkkgocpnaaW.PrintLast Go.Proofs.YtlhafpkkgocpnaaW.PrintMore

theorem part_mono {x y r : Int} (h : x ≤ y) (r0 : 0 ≤ r) : x * r / 1000000 ≤ y * r / 1000000 := by
  have : x * r ≤ y * r := Int.mul_le_mul_of_nonneg_right h r0
  omega
theorem feeS_cases (b r x : Int) (hx : I64 x) :
    ((mayS b r = false ∨ x < 0) ∧ feeS b r x = (0, 1)) ∨
    (mayS b r = true ∧ 0 ≤ x ∧ 0 ≤ b ∧ 0 ≤ r ∧ r ≤ 1000000 ∧ 0 ≤ x * r / 1000000 ∧ x * r / 1000000 ≤ x ∧
      ((b + x * r / 1000000 ≤ 9223372036854775807 ∧ feeS b r x = (b + x * r / 1000000, 0)) ∨ (b + x * r / 1000000 > 9223372036854775807 ∧ feeS b r x = (0, 20)))) := by
  unfold feeS
  by_cases h : mayS b r = true ∧ 0 ≤ x
  · right
    have hm := h.1
    unfold mayS at hm
    have hm2 := of_decide_eq_true hm
    obtain ⟨p1, p2, p3, p4⟩ := part_lt hx h.2 hm2.2.1 hm2.2.2
    refine ⟨h.1, h.2, hm2.1, hm2.2.1, hm2.2.2, p3, p4, ?_⟩
    rw [if_pos h]
    unfold addS
    rw [if_neg (by omega)]
    by_cases ho : b + x * r / 1000000 > 9223372036854775807
    · right; rw [if_pos ho]; exact ⟨ho, rfl⟩
    · left; rw [if_neg ho]; exact ⟨by omega, rfl⟩
  · left
    rw [if_neg h]
    refine ⟨?_, rfl⟩
    cases hm : mayS b r with
    | false => exact Or.inl rfl
    | true => exact Or.inr (Int.not_le.1 fun h0 => h ⟨hm, h0⟩)
theorem inS_of (b r x f : Int) (h : feeS b r x = (f, 0)) : inS b r x = addS x f := by unfold inS; rw [h]; rfl
theorem inS_bad (b r x f e : Int) (h : feeS b r x = (f, e)) (he : e ≠ 0) : inS b r x = (0, e) := by unfold inS; rw [h]; simp [he]

theorem rises_j1 (k : Nat) (b r x y : Int) (hb : I64 b) (hr : I64 r) (hx : I64 x) (hy : I64 y) (hxy : x ≤ y) (hm : mayS b r = true) (h0 : 0 ≤ x)
    (hf : b + y * r / 1000000 ≤ 9223372036854775807) :
    tollhouselaw02_AmountRises.j1 (k + 8) x y (b + x * r / 1000000) 0 (b + y * r / 1000000) 0 false b r = some true := by
  have m := hm
  unfold mayS at m
  have hm2 := of_decide_eq_true m
  have pm := part_mono hxy hm2.2.1
  obtain ⟨p1, p2, p3, p4⟩ := part_lt hx h0 hm2.2.1 hm2.2.2
  obtain ⟨q1, q2, q3, q4⟩ := part_lt hy (by omega) hm2.2.1 hm2.2.2
  have f1 : feeS b r x = (b + x * r / 1000000, 0) := by
    unfold feeS addS; rw [if_pos ⟨hm, h0⟩, if_neg (by omega), if_neg (by omega)]
  have f2 : feeS b r y = (b + y * r / 1000000, 0) := by
    unfold feeS addS; rw [if_pos ⟨hm, by omega⟩, if_neg (by omega), if_neg (by omega)]
  rw [tollhouselaw02_AmountRises.j1, if_neg (by simp), in_f k b r x hb hr hx, in_f k b r y hb hr hy]
  simp only [Option.bind_some]
  rw [if_pos (by omega), inS_of b r x _ f1, inS_of b r y _ f2]
  unfold I64 at hx hy
  have g1 : 0 ≤ b + x * r / 1000000 := by omega
  have g2 : b + x * r / 1000000 ≤ b + y * r / 1000000 := by omega
  clear f1 f2
  generalize b + x * r / 1000000 = F at *
  generalize b + y * r / 1000000 = G at *
  have s1 : addS x F = if x + F > 9223372036854775807 then (0, 20) else (x + F, 0) := by unfold addS; rw [if_neg (by omega)]
  have s2 : addS y G = if y + G > 9223372036854775807 then (0, 20) else (y + G, 0) := by unfold addS; rw [if_neg (by omega)]
  rw [s1, s2]
  by_cases o1 : x + F > 9223372036854775807
  · have o2 : y + G > 9223372036854775807 := by omega
    rw [if_pos o1, if_pos o2]; rfl
  · rw [if_neg o1]
    by_cases o2 : y + G > 9223372036854775807
    · rw [if_pos o2]; simp
    · rw [if_neg o2]; simp; omega
theorem rises_j0 (k : Nat) (b r x y : Int) (hb : I64 b) (hr : I64 r) (hx : I64 x) (hy : I64 y) (hxy : x ≤ y) :
    tollhouselaw02_AmountRises.j0 (k + 9) x y b r = some true := by
  rw [tollhouselaw02_AmountRises.j0, fee_f (k + 1) b r x hb hr hx, fee_f (k + 1) b r y hb hr hy, lives_f]
  simp only [Option.bind_some, if_true]
  rcases feeS_cases b r x hx with ⟨hc, e1⟩ | ⟨hm, h0, hb0, r0, r1, p0, p1, h⟩
  · rw [e1]
    simp only []
    rw [if_neg (by omega), tollhouselaw02_AmountRises.j1, if_pos rfl]
    by_cases hx0 : x < 0
    · rw [if_pos hx0]
    · rw [if_neg hx0, if_neg (by omega)]
      rcases feeS_cases b r y hy with ⟨_, e2⟩ | ⟨hm2, _⟩
      · rw [e2]; rfl
      · rcases hc with h | h
        · rw [h] at hm2; cases hm2
        · exact absurd h hx0
  · rcases feeS_cases b r y hy with ⟨hc, _⟩ | ⟨_, h0', _, _, _, q0, q1, h'⟩
    · rcases hc with hc | hc
      · rw [hm] at hc; cases hc
      · omega
    · have pm := part_mono hxy r0
      rcases h' with ⟨o2, e2⟩ | ⟨o2, e2⟩
      · rcases h with ⟨o1, e1⟩ | ⟨o1, e1⟩
        · rw [e1, e2]
          simp only []
          rw [if_pos trivial]
          exact rises_j1 k b r x y hb hr hx hy hxy hm h0 o2
        · omega
      · rw [e2]
        rcases h with ⟨o1, e1⟩ | ⟨o1, e1⟩
        · rw [e1]
          simp only []
          rw [if_pos trivial]
          show tollhouselaw02_AmountRises.j1 (k + 8) x y _ 0 0 20 true b r = some true
          rw [tollhouselaw02_AmountRises.j1, if_pos rfl, if_neg (by omega), if_pos rfl]
        · rw [e1]
          simp only []
          rw [if_neg (by omega), tollhouselaw02_AmountRises.j1, if_pos rfl, if_neg (by omega), if_neg (by omega)]
          rfl
theorem rises_f (b r x y : Int) (hb : I64 b) (hr : I64 r) (hx : I64 x) (hy : I64 y) : tollhouselaw02_AmountRises.f 9 b r x y = some true := by
  unfold tollhouselaw02_AmountRises.f
  by_cases h : x > y
  · rw [if_pos h]; exact rises_j0 0 b r y x hb hr hy hx (by omega)
  · rw [if_neg h]; exact rises_j0 0 b r x y hb hr hx hy (by omega)
end Go.Proofs.Ytlhafpkkgocpnaa.PA
