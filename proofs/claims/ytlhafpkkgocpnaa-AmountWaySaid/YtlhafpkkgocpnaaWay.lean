import Derived.Test.YtlhafpkkgocpnaaPlain2
import Derived.Test.YtlhafpkkgocpnaaPA8
/- What stands ahead of each hop: both ways of reckoning it come to the same. -/
namespace Go.Proofs.Ytlhafpkkgocpnaa.PA
open Go.RowKit Go.Proofs.YtlhafpkkgocpnaaW.PrintWords Go.Proofs.YtlhafpkkgocpnaaW.PrintLast Go.Proofs.YtlhafpkkgocpnaaW.PrintMore

def wayR : List S23 → Int → List Int × Int
  | [], out => ([out], 0)
  | h :: r, out =>
    if (wayR r out).2 = 0 then (if (inS h.f0 h.f1 (rd (wayR r out).1 0)).2 = 0 then ((inS h.f0 h.f1 (rd (wayR r out).1 0)).1 :: (wayR r out).1, 0) else ([], (inS h.f0 h.f1 (rd (wayR r out).1 0)).2)) else ([], (wayR r out).2)
def wayS (l : List S23) (out : Int) : List Int × Int := if out < 0 then ([], 1) else if l.any (fun h => !mayS h.f0 h.f1) then ([], 1) else wayR l out
def Fees64 (l : List S23) : Prop := ∀ h ∈ l, I64 h.f0 ∧ I64 h.f1
theorem inS_I64 (b r x : Int) (hb : I64 b) (hx : I64 x) : I64 (inS b r x).1 := by
  unfold inS
  split
  · exact addS_I64 hx (feeS_I64 b r x hb hx)
  · unfold I64; simp
theorem wayR_len (l : List S23) (out : Int) (h : (wayR l out).2 = 0) : (wayR l out).1.length = l.length + 1 := by
  induction l with
  | nil => rfl
  | cons x r ih =>
    unfold wayR at h ⊢
    split at h
    · rename_i h1
      rw [if_pos h1] at ⊢
      split at h
      · rename_i h2
        rw [if_pos h2]
        simp [ih h1]
      · rename_i h2
        exact absurd h h2
    · rename_i h1
      exact absurd h h1
theorem wayR_I64 (l : List S23) (out : Int) (ho : I64 out) (hl : Fees64 l) : ∀ x ∈ (wayR l out).1, I64 x := by
  induction l with
  | nil => intro x hx; simp [wayR] at hx; exact hx ▸ ho
  | cons h r ih =>
    have ih' := ih (fun z hz => hl z (List.mem_cons_of_mem _ hz))
    have hrd : I64 (rd (wayR r out).1 0) := by
      unfold rd
      cases hq : (wayR r out).1 with
      | nil => unfold I64; simp
      | cons y ys => exact ih' y (by rw [hq]; exact List.mem_cons_self)
    intro x hx
    unfold wayR at hx
    split at hx
    · split at hx
      · rcases List.mem_cons.1 hx with rfl | hx
        · exact inS_I64 _ _ _ (hl h List.mem_cons_self).1 hrd
        · exact ih' x hx
      · cases hx
    · cases hx
theorem rd23 (l : List S23) (i : Int) (h0 : 0 ≤ i) (h1 : i < (l.length : Int)) : l.drop i.toNat = rd_T23 l i :: l.drop (i + 1).toNat := by
  rw [List.drop_eq_getElem_cons (show i.toNat < l.length by omega), show (i + 1).toNat = i.toNat + 1 by omega]
  congr 1
  unfold rd_T23
  rw [List.getD_eq_getElem?_getD, List.getElem?_eq_getElem (by omega)]
  rfl
theorem rd23_mem (l : List S23) (i : Int) (h0 : 0 ≤ i) (h1 : i < (l.length : Int)) : rd_T23 l i ∈ l := List.mem_of_mem_drop (by rw [rd23 l i h0 h1]; exact List.mem_cons_self)
theorem rd_zero_drop (l : List Int) (i : Nat) : rd l (i : Int) = rd (l.drop i) 0 := by
  unfold rd
  simp [List.getD_eq_getElem?_getD, List.getElem?_drop]
theorem rd_head_I64 {l : List Int} (h : ∀ x ∈ l, I64 x) : I64 (rd l 0) := by
  unfold rd
  cases l with
  | nil => unfold I64; simp
  | cons y ys => exact h y List.mem_cons_self
section
variable (l : List S23) (hl : l.length ≤ 8796093022000) (hw : Fees64 l) (out : Int) (ho : I64 out)
include hl hw ho
/-- back from i on: what is behind i is laid -/
theorem way_l1 (d : Nat) : ∀ (k : Nat) (a : List Int) (i : Int), -1 ≤ i → i < l.length → i + 1 = d → d + 7 < k → a.length = l.length + 1 → (wayR (l.drop (i + 1).toNat) out).2 = 0 → a.drop (i + 1).toNat = (wayR (l.drop (i + 1).toNat) out).1 →
    amount_Way.l1 (k + 1) l a i = some (wayR l out) := by
  induction d with
  | zero =>
    intro k a i h0 h1 hd hk hal he ha
    obtain rfl : i = -1 := by omega
    rw [amount_Way.l1, if_neg (by omega)]
    simp at he ha
    rw [ha, ← he]
  | succ d ih =>
    intro k a i h0 h1 hd hk hal he ha
    obtain ⟨k, rfl⟩ : ∃ m, k = m + 1 := ⟨k - 1, by omega⟩
    have hi : 0 ≤ i := by omega
    have hx := rd23 l i hi h1
    have hmem := hw _ (rd23_mem l i hi h1)
    have hsub : Fees64 (l.drop (i + 1).toNat) := fun z hz => hw z (List.mem_of_mem_drop hz)
    have hrd : rd a (i + 1) = rd (wayR (l.drop (i + 1).toNat) out).1 0 := by
      have z := rd_zero_drop a (i + 1).toNat
      rw [show (((i + 1).toNat : Nat) : Int) = i + 1 by omega] at z
      rw [← ha, z]
    have hr64 := rd_head_I64 (wayR_I64 (l.drop (i + 1).toNat) out ho hsub)
    rw [amount_Way.l1, if_pos (by omega), if_pos hi, if_pos h1, wrap64_of (x := i + 1) ⟨by omega, by omega⟩, if_pos (by omega), if_pos (by omega), hrd]
    obtain ⟨k, rfl⟩ : ∃ m, k = m + 6 := ⟨k - 6, by omega⟩
    rw [in_f k _ _ _ hmem.1 hmem.2 hr64]
    simp only [Option.bind_some]
    have hstep : wayR (l.drop i.toNat) out = if (inS (rd_T23 l i).f0 (rd_T23 l i).f1 (rd (wayR (l.drop (i + 1).toNat) out).1 0)).2 = 0 then ((inS (rd_T23 l i).f0 (rd_T23 l i).f1 (rd (wayR (l.drop (i + 1).toNat) out).1 0)).1 :: (wayR (l.drop (i + 1).toNat) out).1, 0) else ([], (inS (rd_T23 l i).f0 (rd_T23 l i).f1 (rd (wayR (l.drop (i + 1).toNat) out).1 0)).2) := by
      rw [hx, wayR, if_pos he]
    by_cases hz : (inS (rd_T23 l i).f0 (rd_T23 l i).f1 (rd (wayR (l.drop (i + 1).toNat) out).1 0)).2 = 0
    · rw [if_pos hz, if_pos (by omega), wrap64_of (x := i - 1) ⟨by omega, by omega⟩]
      rw [if_pos hz] at hstep
      refine ih _ _ (i - 1) (by omega) (by omega) (by omega) (by omega) (by simpa using hal) ?_ ?_
      · rw [show i - 1 + 1 = i by omega, hstep]
      · rw [show i - 1 + 1 = i by omega, hstep, ← ha, List.drop_set, if_neg (by omega), Nat.sub_self, List.drop_eq_getElem_cons (show i.toNat < a.length by omega), List.set_cons_zero, show (i + 1).toNat = i.toNat + 1 by omega]
    · rw [if_neg hz]
      rw [if_neg hz] at hstep
      congr 1
      symm
      -- what fails there fails for the whole
      have fails : ∀ (m : Nat), m ≤ i.toNat → wayR (l.drop (i.toNat - m)) out = ([], (inS (rd_T23 l i).f0 (rd_T23 l i).f1 (rd (wayR (l.drop (i + 1).toNat) out).1 0)).2) := by
        intro m
        induction m with
        | zero => intro _; exact hstep
        | succ m ihm =>
          intro hm
          have hi2 : i.toNat - (m + 1) < l.length := by omega
          rw [List.drop_eq_getElem_cons hi2, show i.toNat - (m + 1) + 1 = i.toNat - m by omega, wayR, ihm (by omega), if_neg hz]
      have := fails i.toNat (Nat.le_refl _)
      simpa using this
theorem way_l0 (d : Nat) : ∀ (k : Nat) (i : Int), 0 ≤ i → i ≤ l.length → (l.length : Int) - i = d → d + l.length + 12 < k →
    amount_Way.l0 (k + 1) l out l (l.length : Int) i = some (if (l.drop i.toNat).any (fun h => !mayS h.f0 h.f1) then ([], 1) else wayR l out) := by
  induction d with
  | zero =>
    intro k i hi h1 hd hk
    obtain ⟨k, rfl⟩ : ∃ m, k = m + 1 := ⟨k - 1, by omega⟩
    rw [amount_Way.l0, if_neg (by omega), wrap64_of (x := (l.length : Int) + 1) ⟨by omega, by omega⟩, if_pos (by omega), if_pos (by omega)]
    simp only [Option.bind_some]
    rw [if_pos (by omega), if_pos (by simp; omega), wrap64_of (x := (l.length : Int) - 1) ⟨by omega, by omega⟩, List.drop_eq_nil_of_le (by omega), if_neg (by simp)]
    refine way_l1 l hl hw out ho l.length k _ _ (by omega) (by omega) (by omega) (by omega) (by simp) ?_ ?_
    · rw [show (l.length : Int) - 1 + 1 = l.length by omega]; simp [wayR]
    · rw [show (l.length : Int) - 1 + 1 = l.length by omega]
      simp [wayR, List.drop_set]
  | succ d ih =>
    intro k i hi h1 hd hk
    obtain ⟨k, rfl⟩ : ∃ m, k = m + 1 := ⟨k - 1, by omega⟩
    have hlt : i < (l.length : Int) := by omega
    rw [amount_Way.l0, if_pos hlt, if_pos hi, if_pos hlt, rd23 l i hi hlt, may_f]
    simp only [Option.bind_some]
    cases hm : mayS (rd_T23 l i).f0 (rd_T23 l i).f1 with
    | true =>
      rw [if_pos rfl, wrap64_of (x := i + 1) ⟨by omega, by omega⟩, ih k _ (by omega) (by omega) (by omega) (by omega)]
      simp [hm]
    | false => simp [hm]
theorem way_f (k : Nat) (hk : 2 * l.length + 12 < k) : amount_Way.f (k + 1) l out = some (wayS l out) := by
  unfold amount_Way.f wayS
  by_cases h0 : out < 0
  · rw [if_pos h0, if_pos h0]
  · rw [if_neg h0, if_neg h0, way_l0 l hl hw out ho l.length k 0 (by omega) (by omega) (by omega) (by omega)]
    rfl
theorem rway_l1 (d : Nat) : ∀ (k : Nat) (i : Int), -1 ≤ i → i < l.length → i + 1 = d → d + 7 < k → (wayR (l.drop (i + 1).toNat) out).2 = 0 →
    tollhouseref02_Way.l1 (k + 1) l (wayR (l.drop (i + 1).toNat) out).1 i = some (wayR l out) := by
  induction d with
  | zero =>
    intro k i h0 h1 hd hk he
    obtain rfl : i = -1 := by omega
    rw [tollhouseref02_Way.l1, if_neg (by omega)]
    simp at he ⊢
    rw [← he]
  | succ d ih =>
    intro k i h0 h1 hd hk he
    obtain ⟨k, rfl⟩ : ∃ m, k = m + 1 := ⟨k - 1, by omega⟩
    have hi : 0 ≤ i := by omega
    have hx := rd23 l i hi h1
    have hmem := hw _ (rd23_mem l i hi h1)
    have hsub : Fees64 (l.drop (i + 1).toNat) := fun z hz => hw z (List.mem_of_mem_drop hz)
    have hlen := wayR_len (l.drop (i + 1).toNat) out he
    have hr64 := rd_head_I64 (wayR_I64 (l.drop (i + 1).toNat) out ho hsub)
    rw [tollhouseref02_Way.l1, if_pos (by omega), if_pos hi, if_pos h1, if_pos (by rw [hlen]; omega)]
    obtain ⟨k, rfl⟩ : ∃ m, k = m + 6 := ⟨k - 6, by omega⟩
    rw [rin_f k _ _ _ hmem.1 hr64]
    simp only [Option.bind_some]
    have hstep : wayR (l.drop i.toNat) out = if (inS (rd_T23 l i).f0 (rd_T23 l i).f1 (rd (wayR (l.drop (i + 1).toNat) out).1 0)).2 = 0 then ((inS (rd_T23 l i).f0 (rd_T23 l i).f1 (rd (wayR (l.drop (i + 1).toNat) out).1 0)).1 :: (wayR (l.drop (i + 1).toNat) out).1, 0) else ([], (inS (rd_T23 l i).f0 (rd_T23 l i).f1 (rd (wayR (l.drop (i + 1).toNat) out).1 0)).2) := by
      rw [hx, wayR, if_pos he]
    by_cases hz : (inS (rd_T23 l i).f0 (rd_T23 l i).f1 (rd (wayR (l.drop (i + 1).toNat) out).1 0)).2 = 0
    · rw [if_pos hz, if_pos (by rw [hlen]; simp; omega), wrap64_of (x := i - 1) ⟨by omega, by omega⟩]
      rw [if_pos hz] at hstep
      have := ih (k + 6) (i - 1) (by omega) (by omega) (by omega) (by omega) (by rw [show i - 1 + 1 = i by omega, hstep])
      rw [show i - 1 + 1 = i by omega, hstep] at this
      exact this
    · rw [if_neg hz]
      rw [if_neg hz] at hstep
      congr 1
      symm
      have fails : ∀ (m : Nat), m ≤ i.toNat → wayR (l.drop (i.toNat - m)) out = ([], (inS (rd_T23 l i).f0 (rd_T23 l i).f1 (rd (wayR (l.drop (i + 1).toNat) out).1 0)).2) := by
        intro m
        induction m with
        | zero => intro _; exact hstep
        | succ m ihm =>
          intro hm
          have hi2 : i.toNat - (m + 1) < l.length := by omega
          rw [List.drop_eq_getElem_cons hi2, show i.toNat - (m + 1) + 1 = i.toNat - m by omega, wayR, ihm (by omega), if_neg hz]
      have := fails i.toNat (Nat.le_refl _)
      simpa using this
theorem rway_l0 (d : Nat) : ∀ (k : Nat) (i : Int), 0 ≤ i → i ≤ l.length → (l.length : Int) - i = d → d + l.length + 12 < k →
    tollhouseref02_Way.l0 (k + 1) l out i = some (if (l.drop i.toNat).any (fun h => !mayS h.f0 h.f1) then ([], 1) else wayR l out) := by
  induction d with
  | zero =>
    intro k i hi h1 hd hk
    obtain ⟨k, rfl⟩ : ∃ m, k = m + 1 := ⟨k - 1, by omega⟩
    rw [tollhouseref02_Way.l0, if_neg (by omega), wrap64_of (x := (l.length : Int) - 1) ⟨by omega, by omega⟩, List.drop_eq_nil_of_le (by omega), if_neg (by simp)]
    have := rway_l1 l hl hw out ho l.length k ((l.length : Int) - 1) (by omega) (by omega) (by omega) (by omega) (by rw [show (l.length : Int) - 1 + 1 = l.length by omega]; simp [wayR])
    rw [show (l.length : Int) - 1 + 1 = l.length by omega] at this
    simpa [wayR] using this
  | succ d ih =>
    intro k i hi h1 hd hk
    obtain ⟨k, rfl⟩ : ∃ m, k = m + 1 := ⟨k - 1, by omega⟩
    have hlt : i < (l.length : Int) := by omega
    rw [tollhouseref02_Way.l0, if_pos hlt, if_pos hi, rd23 l i hi hlt, right_f]
    simp only [Option.bind_some]
    cases hm : mayS (rd_T23 l i).f0 (rd_T23 l i).f1 with
    | true =>
      rw [if_pos rfl, wrap64_of (x := i + 1) ⟨by omega, by omega⟩, ih k _ (by omega) (by omega) (by omega) (by omega)]
      simp [hm]
    | false => simp [hm]
theorem rway_f (k : Nat) (hk : 2 * l.length + 12 < k) : tollhouseref02_Way.f (k + 1) l out = some (wayS l out) := by
  unfold tollhouseref02_Way.f wayS
  by_cases h0 : out < 0
  · rw [if_pos h0, if_pos h0]
  · rw [if_neg h0, if_neg h0, rway_l0 l hl hw out ho l.length k 0 (by omega) (by omega) (by omega) (by omega)]
    rfl
end
theorem same_l (a : List Int) (ha : a.length ≤ 9223372036854775807) (d : Nat) : ∀ (k : Nat) (i : Int), 0 ≤ i → i ≤ a.length → (a.length : Int) - i = d → d < k → tollhouselaw02_same.l0 (k + 1) a a i = some true := by
  induction d with
  | zero => intro k i h0 h1 hd hk; rw [tollhouselaw02_same.l0, if_neg (by omega)]
  | succ d ih =>
    intro k i h0 h1 hd hk
    obtain ⟨k, rfl⟩ : ∃ m, k = m + 1 := ⟨k - 1, by omega⟩
    have hlt : i < (a.length : Int) := by omega
    rw [tollhouselaw02_same.l0, if_pos hlt, if_pos h0, if_pos hlt, if_pos rfl, wrap64_of (x := i + 1) ⟨by omega, by omega⟩]
    exact ih k _ (by omega) (by omega) (by omega) (by omega)
theorem law_way_l (a : List S23) (ha : a.length ≤ 9223372036854775807) (d : Nat) : ∀ (k : Nat) (i : Int), 0 ≤ i → i ≤ a.length → (a.length : Int) - i = d → d < k → tollhouselaw02_AmountWay.l0 (k + 1) a a i = some true := by
  induction d with
  | zero => intro k i h0 h1 hd hk; rw [tollhouselaw02_AmountWay.l0, if_neg (by omega)]
  | succ d ih =>
    intro k i h0 h1 hd hk
    obtain ⟨k, rfl⟩ : ∃ m, k = m + 1 := ⟨k - 1, by omega⟩
    have hlt : i < (a.length : Int) := by omega
    rw [tollhouselaw02_AmountWay.l0, if_pos hlt, if_pos h0, if_pos hlt, if_neg (by simp), wrap64_of (x := i + 1) ⟨by omega, by omega⟩]
    exact ih k _ (by omega) (by omega) (by omega) (by omega)
theorem wayS_len (l : List S23) (out : Int) : (wayS l out).1.length ≤ l.length + 1 := by
  unfold wayS
  split
  · simp
  · split
    · simp
    · by_cases h : (wayR l out).2 = 0
      · rw [wayR_len l out h]; omega
      · cases l with
        | nil => exact absurd rfl h
        | cons x r =>
          unfold wayR at h ⊢
          split
          · rename_i h1
            rw [if_pos h1] at h
            split
            · rename_i h2
              rw [if_pos h2] at h
              exact absurd rfl h
            · simp
          · simp
theorem law_way (l : List S23) (hl : l.length ≤ 8796093022000) (hw : Fees64 l) (out : Int) (ho : I64 out) : tollhouselaw02_AmountWay.f (2 * l.length + 30) l out = some true := by
  unfold tollhouselaw02_AmountWay.f
  simp only [Option.bind_some]
  rw [if_pos (by simp; omega)]
  simp only [List.nil_append]
  rw [way_f l hl hw out ho (2 * l.length + 29) (by omega), rway_f l hl hw out ho (2 * l.length + 29) (by omega), lives_f (2 * l.length + 23)]
  simp only [Option.bind_some, if_true]
  have hn := wayS_len l out
  have hs : tollhouselaw02_same.f (2 * l.length + 30) (wayS l out).1 (wayS l out).1 = some true := by
    unfold tollhouselaw02_same.f
    rw [if_pos rfl]
    exact same_l _ (by omega) (wayS l out).1.length (2 * l.length + 29) 0 (by omega) (by omega) (by omega) (by omega)
  rw [hs]
  simp only [Option.bind_some, if_true, bne_self_eq_false]
  rw [tollhouselaw02_AmountWay.j0, if_neg (by simp)]
  exact law_way_l l (by omega) l.length (2 * l.length + 28) 0 (by omega) (by omega) (by omega) (by omega)
end Go.Proofs.Ytlhafpkkgocpnaa.PA
