import Derived.Test.YtlhafpkkgocpnaaPlain2
import Derived.OpenShut
/- Parts sum up to the whole, and differ by 1 at most, the greater ones first: for every input AmountShares returns true. -/
namespace Go.Proofs.Ytlhafpkkgocpnaa.Pure
open Go.RowKit Go.Proofs.Ytlhafpkkgocpnaa.PA Go.Proofs.YtlhafpkkgocpnaaW.PrintWords Go.Proofs.YtlhafpkkgocpnaaW.PrintLast Go.Proofs.YtlhafpkkgocpnaaW.PrintMore

theorem shareS_in (x n i : Int) (h : 0 ≤ x ∧ 1 ≤ n ∧ n ≤ 65536 ∧ 0 ≤ i ∧ i < n) : shareS x n i = if i < x % n then x / n + 1 else x / n := by
  unfold shareS
  rw [if_neg (by omega)]
/-- from part i on, the sum of those ahead being at hand -/
theorem shares_l (x n : Int) (hx : I64 x) (h0 : 0 ≤ x) (h1 : 1 ≤ n) (h2 : n ≤ 2000) (d : Nat) : ∀ (k : Nat) (s i : Int), 0 ≤ i → i ≤ n → n - i = d → d < k →
    s = i * (x / n) + (if i < x % n then i else x % n) → tollhouselaw02_AmountShares.l0 (k + 1) x n s i = some true := by
  have hx' := hx
  unfold I64 at hx'
  have e1 : Int.tdiv x n = x / n := Int.tdiv_eq_ediv_of_nonneg (by omega)
  have b1 : 0 ≤ x / n := Int.ediv_nonneg (by omega) (by omega)
  have b2 : x / n ≤ x := Int.ediv_le_self n (by omega)
  have m0 : 0 ≤ x % n := Int.emod_nonneg x (by omega)
  have m1 : x % n < n := Int.emod_lt_of_pos x (by omega)
  have m2 : x / n * n + x % n = x := by rw [Int.mul_comm]; exact Int.mul_ediv_add_emod x n
  have q0 : n ≤ x → x / n + 1 ≤ x ∨ n = 1 := by
    intro hn
    by_cases h1 : n = 1
    · exact Or.inr h1
    · left
      have : x / n * 2 ≤ x / n * n := Int.mul_le_mul_of_nonneg_left (by omega) b1
      have : x / n < x := Int.ediv_lt_of_lt_mul (by omega) (by
        have : x * 2 ≤ x * n := Int.mul_le_mul_of_nonneg_left (by omega) (by omega)
        omega)
      omega
  induction d with
  | zero =>
    intro k s i hi hin hd hk hs
    obtain rfl : i = n := by omega
    rw [tollhouselaw02_AmountShares.l0, if_neg (by omega)]
    rw [if_neg (by omega)] at hs
    rw [hs, Int.mul_comm, m2]
    simp
  | succ d ih =>
    intro k s i hi hin hd hk hs
    obtain ⟨k, rfl⟩ : ∃ m, k = m + 1 := ⟨k - 1, by omega⟩
    have hlt : i < n := by omega
    have hq1 : x / n + 1 ≤ 9223372036854775807 ∨ x % n = 0 := by
      by_cases hnx : n ≤ x
      · rcases q0 hnx with h | h
        · left; omega
        · right; subst h; omega
      · left
        have : x / n = 0 := Int.ediv_eq_zero_of_lt h0 (by omega)
        omega
    have hstep : s + shareS x n i = (i + 1) * (x / n) + (if i + 1 < x % n then i + 1 else x % n) := by
      rw [shareS_in x n i ⟨h0, h1, by omega, hi, hlt⟩, hs, Int.add_mul]
      generalize i * (x / n) = A
      split <;> split <;> omega
    have hle : (i + 1) * (x / n) ≤ x / n * n := by rw [Int.mul_comm]; exact Int.mul_le_mul_of_nonneg_left (by omega) b1
    have hge : 0 ≤ (i + 1) * (x / n) := Int.mul_nonneg (by omega) b1
    have hbig : s + shareS x n i ≤ x := by
      rw [hstep]
      have : (if i + 1 < x % n then i + 1 else x % n) ≤ x % n := by split <;> omega
      omega
    have hpos : 0 ≤ s + shareS x n i := by
      rw [hstep]
      have : 0 ≤ (if i + 1 < x % n then i + 1 else x % n) := by split <;> omega
      omega
    have next : tollhouselaw02_AmountShares.l0 (k + 1) x n (wrap64 (s + shareS x n i)) (wrap64 (i + 1)) = some true := by
      rw [wrap64_of (x := s + shareS x n i) ⟨by omega, by omega⟩, wrap64_of (x := i + 1) ⟨by omega, by omega⟩]
      exact ih k _ _ (by omega) (by omega) (by omega) (by omega) hstep
    rw [tollhouselaw02_AmountShares.l0, if_pos hlt, (share_f k x n i hx).1]
    simp only [Option.bind_some]
    rw [if_neg (by omega), e1, wrap64_of (x := x / n) ⟨by omega, by omega⟩, wrap64_of (x := i - 1) ⟨by omega, by omega⟩, (share_f k x n (i - 1) hx).1]
    simp only [Option.bind_some]
    have hprev : i > 0 → ¬ shareS x n i > shareS x n (i - 1) := by
      intro hi0
      rw [shareS_in x n i ⟨h0, h1, by omega, hi, hlt⟩, shareS_in x n (i - 1) ⟨h0, h1, by omega, by omega, by omega⟩]
      split <;> split <;> omega
    have hval : shareS x n i = x / n ∨ (shareS x n i = x / n + 1 ∧ x / n + 1 ≤ 9223372036854775807) := by
      rw [shareS_in x n i ⟨h0, h1, by omega, hi, hlt⟩]
      split
      · right; exact ⟨rfl, by omega⟩
      · left; rfl
    by_cases hv : shareS x n i = x / n
    · rw [if_pos hv]
      by_cases hi0 : i > 0
      · rw [if_pos hi0, if_neg (hprev hi0)]; exact next
      · rw [if_neg hi0]; exact next
    · rw [if_neg hv]
      rcases hval with h | ⟨h, hb⟩
      · exact absurd h hv
      · rw [wrap64_of (x := x / n + 1) ⟨by omega, by omega⟩, if_pos h]
        by_cases hi0 : i > 0
        · rw [if_pos hi0, if_neg (hprev hi0)]; exact next
        · rw [if_neg hi0]; exact next

theorem AmountShares : tollhouselaw02_AmountShares.Pure := by
  intro x n i wx _ _
  have hx : I64 x := bounds_i64 wx
  refine ⟨2010, ?_⟩
  unfold tollhouselaw02_AmountShares.f
  rw [lives_f 2003]
  simp only [Option.bind_some, if_true]
  rw [(share_f 2009 x n i hx).1, (share_f 2009 x n i hx).2]
  simp only [Option.bind_some, bne_self_eq_false]
  rw [tollhouselaw02_AmountShares.j0, if_neg (by simp)]
  by_cases h0 : x < 0
  · rw [if_pos h0, tollhouselaw02_AmountShares.j1, if_pos rfl]
  rw [if_neg h0]
  by_cases h1 : n < 1
  · rw [if_pos h1, tollhouselaw02_AmountShares.j1, if_pos rfl]
  rw [if_neg h1]
  by_cases h2 : n > 2000
  · rw [decide_eq_true h2, tollhouselaw02_AmountShares.j1, if_pos rfl]
  rw [decide_eq_false h2, tollhouselaw02_AmountShares.j1, if_neg (by simp)]
  refine shares_l x n hx (by omega) (by omega) (by omega) n.toNat 2007 0 0 (by omega) (by omega) (by omega) (by omega) ?_
  rw [Int.zero_mul]
  have m0 : 0 ≤ x % n := Int.emod_nonneg x (by omega)
  split <;> omega
end Go.Proofs.Ytlhafpkkgocpnaa.Pure
