import Derived.Test.YtlhafpkkgocpnaaPlain2
import Derived.Test.YtlhafpkkgocpnaaPA9
import Derived.OpenShut
/- Sums and differences of any numbers are what they should be: for every input AmountSums returns true. -/
namespace Go.Proofs.Ytlhafpkkgocpnaa.Pure
open Go.RowKit Go.Proofs.Ytlhafpkkgocpnaa.PA Go.Proofs.YtlhafpkkgocpnaaW.PrintWords Go.Proofs.YtlhafpkkgocpnaaW.PrintLast Go.Proofs.YtlhafpkkgocpnaaW.PrintMore

theorem sub_f (k : Nat) (a b : Int) (ha : I64 a) (hb : I64 b) : amount_Sub.f (k + 1) a b = some (subS a b) := by
  unfold amount_Sub.f subS
  unfold I64 at ha hb
  by_cases h1 : a < 0
  · rw [if_pos h1, amount_Sub.j0, if_pos rfl, if_pos (Or.inl h1)]
  · rw [if_neg h1, amount_Sub.j0]
    by_cases h2 : b < 0
    · rw [if_pos (decide_eq_true h2), if_pos (Or.inr h2)]
    · rw [if_neg (show ¬ (decide (b < 0) = true) by simp; omega), if_neg (show ¬ (a < 0 ∨ b < 0) by omega)]
      by_cases h3 : b > a
      · rw [if_pos h3, if_pos h3]
      · rw [if_neg h3, if_neg h3, wrap64_of ⟨by omega, by omega⟩]
def neg (l : List Int) : Bool := l.any (fun x => decide (x < 0))
def sumFrom : List Int → Int → Int × Int
  | [], s => (s, 0)
  | x :: r, s => if (addS s x).2 = 0 then sumFrom r (addS s x).1 else (0, (addS s x).2)
def sumS (l : List Int) : Int × Int := if neg l = true then (0, 1) else sumFrom l 0
theorem rd_drop (l : List Int) (i : Int) (h0 : 0 ≤ i) (h1 : i < (l.length : Int)) : l.drop i.toNat = rd l i :: l.drop (i + 1).toNat := by
  rw [List.drop_eq_getElem_cons (show i.toNat < l.length by omega), show (i + 1).toNat = i.toNat + 1 by omega]
  congr 1
  unfold rd
  rw [List.getD_eq_getElem?_getD, List.getElem?_eq_getElem (by omega)]
  rfl
theorem rd_mem (l : List Int) (i : Int) (h0 : 0 ≤ i) (h1 : i < (l.length : Int)) : rd l i ∈ l := by
  have h := rd_drop l i h0 h1
  exact List.mem_of_mem_drop (by rw [h]; exact List.mem_cons_self)
section
variable (l : List Int) (hl : l.length ≤ 9223372036854775807) (hw : ∀ x ∈ l, I64 x)
include hl hw
theorem sum_l1 (d : Nat) : ∀ (k : Nat) (s i : Int), 0 ≤ i → i ≤ l.length → (l.length : Int) - i = d → d < k → I64 s →
    amount_Sum.l1 (k + 1) s l (l.length : Int) i = some (sumFrom (l.drop i.toNat) s) := by
  induction d with
  | zero =>
    intro k s i h0 h1 hd hk hs
    rw [amount_Sum.l1, if_neg (by omega), List.drop_eq_nil_of_le (by omega)]
    rfl
  | succ d ih =>
    intro k s i h0 h1 hd hk hs
    obtain ⟨k, rfl⟩ : ∃ m, k = m + 1 := ⟨k - 1, by omega⟩
    have hlt : i < (l.length : Int) := by omega
    rw [amount_Sum.l1, if_pos hlt, if_pos h0, if_pos hlt, rd_drop l i h0 hlt, add_f k s _ hs (hw _ (rd_mem l i h0 hlt))]
    simp only [Option.bind_some, sumFrom]
    by_cases he : (addS s (rd l i)).2 = 0
    · rw [if_pos he, if_pos he, wrap64_of (x := i + 1) ⟨by omega, by omega⟩]
      exact ih k _ _ (by omega) (by omega) (by omega) (by omega) (addS_I64 hs (hw _ (rd_mem l i h0 hlt)))
    · rw [if_neg he, if_neg he]
theorem sum_l0 (m : Nat) (hm : l.length < m) (d : Nat) : ∀ (k : Nat) (i : Int), 0 ≤ i → i ≤ l.length → (l.length : Int) - i = d → d + m < k →
    amount_Sum.l0 (k + 1) l l (l.length : Int) i = some (if neg (l.drop i.toNat) = true then (0, 1) else sumFrom l 0) := by
  induction d with
  | zero =>
    intro k i h0 h1 hd hk
    obtain ⟨k, rfl⟩ : ∃ m, k = m + 1 := ⟨k - 1, by omega⟩
    rw [amount_Sum.l0, if_neg (by omega), List.drop_eq_nil_of_le (by omega), if_neg (by simp [neg])]
    exact sum_l1 l hl hw l.length k 0 0 (by omega) (by omega) (by omega) (by omega) ⟨by omega, by omega⟩
  | succ d ih =>
    intro k i h0 h1 hd hk
    obtain ⟨k, rfl⟩ : ∃ m, k = m + 1 := ⟨k - 1, by omega⟩
    have hlt : i < (l.length : Int) := by omega
    rw [amount_Sum.l0, if_pos hlt, if_pos h0, if_pos hlt, rd_drop l i h0 hlt]
    by_cases hn : rd l i < 0
    · rw [if_pos hn, if_pos (by simp [neg, hn])]
    · rw [if_neg hn, wrap64_of (x := i + 1) ⟨by omega, by omega⟩, ih k _ (by omega) (by omega) (by omega) (by omega)]
      simp [neg, hn]
theorem sum_f (k : Nat) (hk : 2 * l.length + 1 < k) : amount_Sum.f (k + 1) l = some (sumS l) := by
  unfold amount_Sum.f sumS
  rw [sum_l0 l hl hw (l.length + 1) (by omega) l.length k 0 (by omega) (by omega) (by omega) (by omega)]
  rfl
/-- the law's own loop: from i on -/
theorem law_l1 (K : Nat) (hK : 2 * l.length + 2 < K) (d : Nat) : ∀ (k : Nat) (s i : Int), 0 ≤ i → i ≤ l.length → (l.length : Int) - i = d → d + K < k → I64 s → sumS l = sumFrom (l.drop i.toNat) s →
    tollhouselaw02_AmountSums.l1 (k + 1) l s 0 i = some true := by
  induction d with
  | zero =>
    intro k s i h0 h1 hd hk hs he
    obtain ⟨k, rfl⟩ : ∃ m, k = m + 1 := ⟨k - 1, by omega⟩
    rw [List.drop_eq_nil_of_le (by omega)] at he
    rw [tollhouselaw02_AmountSums.l1, if_neg (by omega), if_pos rfl, sum_f l hl hw k (by omega), he]
    simp [sumFrom]
  | succ d ih =>
    intro k s i h0 h1 hd hk hs he
    obtain ⟨k, rfl⟩ : ∃ m, k = m + 1 := ⟨k - 1, by omega⟩
    have hlt : i < (l.length : Int) := by omega
    rw [rd_drop l i h0 hlt, sumFrom] at he
    rw [tollhouselaw02_AmountSums.l1, if_pos hlt, if_pos rfl, if_pos h0, radd_f k s _ hs (hw _ (rd_mem l i h0 hlt))]
    simp only [Option.bind_some]
    rw [wrap64_of (x := i + 1) ⟨by omega, by omega⟩]
    by_cases hz : (addS s (rd l i)).2 = 0
    · rw [if_pos hz] at he
      rw [hz]
      exact ih k _ _ (by omega) (by omega) (by omega) (by omega) (addS_I64 hs (hw _ (rd_mem l i h0 hlt))) he
    · rw [if_neg hz] at he
      obtain ⟨k, rfl⟩ : ∃ m, k = m + 1 := ⟨k - 1, by omega⟩
      rw [tollhouselaw02_AmountSums.l1]
      by_cases h2 : i + 1 < (l.length : Int)
      · rw [if_pos h2, if_neg hz, sum_f l hl hw k (by omega), he]
        simp
      · rw [if_neg h2, if_neg hz, sum_f l hl hw k (by omega), he]
        simp
theorem law_l1_bad (k : Nat) (hk : 2 * l.length + 2 < k) (s : Int) (hn : neg l = true) : tollhouselaw02_AmountSums.l1 (k + 1) l s 1 0 = some true := by
  obtain ⟨k, rfl⟩ : ∃ m, k = m + 1 := ⟨k - 1, by omega⟩
  rw [tollhouselaw02_AmountSums.l1, sum_f l hl hw k (by omega)]
  unfold sumS
  rw [if_pos hn]
  split <;> simp
theorem law_l0 (K : Nat) (hK : 3 * l.length + 5 < K) (d : Nat) : ∀ (k : Nat) (h i : Int), 0 ≤ i → i ≤ l.length → (l.length : Int) - i = d → d + K < k →
    ((h = 0 ∧ neg l = neg (l.drop i.toNat)) ∨ (h = 1 ∧ neg l = true)) → tollhouselaw02_AmountSums.l0 (k + 1) l 0 h i = some true := by
  induction d with
  | zero =>
    intro k h i h0 h1 hd hk hh
    obtain ⟨k, rfl⟩ : ∃ m, k = m + 1 := ⟨k - 1, by omega⟩
    rw [tollhouselaw02_AmountSums.l0, if_neg (by omega)]
    rcases hh with ⟨rfl, hn⟩ | ⟨rfl, hn⟩
    · rw [List.drop_eq_nil_of_le (by omega)] at hn
      refine law_l1 l hl hw (2 * l.length + 3) (by omega) l.length k 0 0 (by omega) (by omega) (by omega) (by omega) ⟨by omega, by omega⟩ ?_
      unfold sumS
      rw [hn]
      rfl
    · exact law_l1_bad l hl hw k (by omega) 0 hn
  | succ d ih =>
    intro k h i h0 h1 hd hk hh
    obtain ⟨k, rfl⟩ : ∃ m, k = m + 1 := ⟨k - 1, by omega⟩
    have hlt : i < (l.length : Int) := by omega
    rw [tollhouselaw02_AmountSums.l0, if_pos hlt, if_pos h0, wrap64_of (x := i + 1) ⟨by omega, by omega⟩]
    by_cases hn : rd l i < 0
    · rw [if_pos hn]
      refine ih k _ _ (by omega) (by omega) (by omega) (by omega) (Or.inr ⟨rfl, ?_⟩)
      unfold neg
      rw [List.any_eq_true]
      exact ⟨_, rd_mem l i h0 hlt, decide_eq_true hn⟩
    · rw [if_neg hn]
      refine ih k _ _ (by omega) (by omega) (by omega) (by omega) ?_
      rcases hh with ⟨rfl, e⟩ | h
      · left
        refine ⟨rfl, ?_⟩
        rw [e, rd_drop l i h0 hlt]
        simp [neg, hn]
      · exact Or.inr h
end
theorem AmountSums : tollhouselaw02_AmountSums.Pure := by
  intro a b l wa wb hl _ hw
  have ha : I64 a := bounds_i64 wa
  have hb : I64 b := bounds_i64 wb
  have hw' : ∀ x ∈ l, I64 x := fun x hx => bounds_i64 (hw x hx)
  unfold maxLen at hl
  refine ⟨5 * l.length + 40, ?_⟩
  unfold tollhouselaw02_AmountSums.f
  rw [add_f (5 * l.length + 39) a b ha hb, radd_f (5 * l.length + 39) a b ha hb, lives_f (5 * l.length + 33)]
  simp only [Option.bind_some, if_true, bne_self_eq_false]
  rw [tollhouselaw02_AmountSums.j0, if_neg (by simp), sub_f (5 * l.length + 38) a b ha hb]
  simp only [Option.bind_some]
  have fin : tollhouselaw02_AmountSums.j2 (5 * l.length + 38) l = some true := by
    rw [tollhouselaw02_AmountSums.j2]
    exact law_l0 l hl hw' (3 * l.length + 6) (by omega) l.length (5 * l.length + 36) 0 0 (by omega) (by omega) (by omega) (by omega) (Or.inl ⟨rfl, rfl⟩)
  unfold I64 at ha hb
  unfold subS
  by_cases h1 : a < 0
  · rw [if_pos h1, if_pos (Or.inl h1), tollhouselaw02_AmountSums.j1, if_pos rfl]
    exact fin
  · rw [if_neg h1]
    by_cases h2 : b < 0
    · rw [decide_eq_true h2, if_pos (Or.inr h2), tollhouselaw02_AmountSums.j1, if_pos rfl]
      exact fin
    · rw [decide_eq_false h2, if_neg (show ¬ (a < 0 ∨ b < 0) by omega), tollhouselaw02_AmountSums.j1, if_neg (by simp)]
      by_cases h3 : b > a
      · rw [if_pos h3, if_pos h3]
        exact fin
      · rw [if_neg h3, if_neg h3, wrap64_of (x := a - b) ⟨by omega, by omega⟩, if_pos rfl, if_pos rfl]
        exact fin
end Go.Proofs.Ytlhafpkkgocpnaa.Pure
