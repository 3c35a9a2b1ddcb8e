import Derived.Test.YtlhafpkkgocpnaaExtO
import Derived.Test.YtlhafpkkgocpnaaPB1
/- The greatest amount that may go out for what comes in; there and back. -/
namespace Go.Proofs.Ytlhafpkkgocpnaa.PB
open Go.RowKit Go.Proofs.YtlhafpkkgocpnaaW.PrintWords Go.Proofs.YtlhafpkkgocpnaaW.PrintLast Go.Proofs.YtlhafpkkgocpnaaW.PrintMore Go.Proofs.Ytlhafpkkgocpnaa.PA

/-- the greatest amount that is not too much -/
def IsMost (b r x a : Int) : Prop := 0 ≤ a ∧ a ≤ x ∧ over b r x a = false ∧ (a = x ∨ over b r x (a + 1) = true)
structure Ok (b r x : Int) : Prop where
  may : mayS b r = true
  b0 : 0 ≤ b
  bx : b ≤ x
  x1 : x ≤ 9223372036854775807
  r0 : 0 ≤ r
  r1 : r ≤ 1000000
theorem Ok.of {b r x : Int} (hm : mayS b r = true) (hbx : b ≤ x) (hx : I64 x) : Ok b r x := by
  have m := hm
  unfold mayS at m
  have hm2 := of_decide_eq_true m
  exact ⟨hm, hm2.1, hbx, hx.2, hm2.2.1, hm2.2.2⟩
theorem IsMost.unique {b r x a c : Int} (ok : Ok b r x) (h : IsMost b r x a) (h' : IsMost b r x c) : a = c := by
  have key : ∀ u v : Int, IsMost b r x u → IsMost b r x v → ¬ u < v := by
    intro u v hu hv hlt
    obtain ⟨u0, u1, u2, u3⟩ := hu
    obtain ⟨v0, v1, v2, _⟩ := hv
    have ho : over b r x (u + 1) = true := by
      rcases u3 with h | h
      · omega
      · exact h
    have := over_mono b r x (u + 1) v ok.may (by omega) (by omega) ⟨by omega, by have := ok.x1; omega⟩ ok.x1 ho
    rw [v2] at this
    cases this
  have := key a c h h'
  have := key c a h' h
  omega
theorem over_at {b r x : Int} (ok : Ok b r x) (y : Int) (h0 : 0 ≤ y) (hy : I64 y) : over b r x y = decide (y + (b + y * r / 1000000) > x) := over_is b r x y ok.may h0 hy ok.x1
theorem about_ok {b r x : Int} (ok : Ok b r x) (y : Int) (h0 : 0 ≤ y) (h : y ≤ aboutS b r x) : over b r x y = false := by
  obtain ⟨a0, a1⟩ := about_le b r x ok.b0 ok.r0 ok.bx
  have hx1 := ok.x1
  have hr0 := ok.r0
  rw [over_at ok y h0 ⟨by omega, by omega⟩]
  apply decide_eq_false
  have h1 : aboutS b r x * (1000000 + r) ≤ (x - b) * 1000000 := Int.ediv_mul_le _ (by omega)
  have h2 : y * (1000000 + r) ≤ aboutS b r x * (1000000 + r) := Int.mul_le_mul_of_nonneg_right h (by omega)
  rw [Int.mul_add] at h2
  generalize y * r = p at *
  omega
theorem about_over {b r x : Int} (ok : Ok b r x) (y : Int) (hy : I64 y) (h : aboutS b r x + 2 ≤ y) : over b r x y = true := by
  obtain ⟨a0, a1⟩ := about_le b r x ok.b0 ok.r0 ok.bx
  have hr0 := ok.r0
  rw [over_at ok y (by omega) hy]
  apply decide_eq_true
  have h1 : (x - b) * 1000000 < (aboutS b r x + 1) * (1000000 + r) := Int.lt_ediv_add_one_mul_self _ (by omega)
  have h2 : (aboutS b r x + 2) * (1000000 + r) ≤ y * (1000000 + r) := Int.mul_le_mul_of_nonneg_right h (by omega)
  rw [show aboutS b r x + 2 = aboutS b r x + 1 + 1 by omega, Int.add_mul, Int.one_mul] at h2
  rw [Int.mul_add y] at h2
  generalize y * r = p at *
  generalize (aboutS b r x + 1) * (1000000 + r) = q at *
  omega
theorem outS_most {b r x : Int} (ok : Ok b r x) : IsMost b r x (firstS b r x + steps (fun i => over b r x (firstS b r x + i + 1)) (roomS b r x)) := by
  obtain ⟨a0, a1⟩ := about_le b r x ok.b0 ok.r0 ok.bx
  have hx1 := ok.x1
  obtain ⟨F, hF⟩ : ∃ F, firstS b r x = F := ⟨_, rfl⟩
  obtain ⟨N, hN⟩ : ∃ N, roomS b r x = N := ⟨_, rfl⟩
  rw [hF, hN]
  have f1 : F = max (aboutS b r x - 2) 0 := hF.symm
  have n1 : N = (min (x - F) 4).toNat := by rw [← hN, ← hF]; rfl
  obtain ⟨s1, s2, s3⟩ := steps_is (fun i => over b r x (F + i + 1)) N
  generalize hs : steps (fun i => over b r x (F + i + 1)) N = s at *
  refine ⟨by omega, by omega, ?_, ?_⟩
  · by_cases h0 : s = 0
    · rw [h0]
      exact about_ok ok _ (by omega) (by omega)
    · have := s2 (s - 1) (by omega)
      rw [show F + ((s - 1 : Nat) : Int) + 1 = F + (s : Int) by omega] at this
      exact this
  · by_cases hlt : s < N
    · right; exact s3 hlt
    · by_cases he : F + s = x
      · exact Or.inl he
      · right
        exact about_over ok _ ⟨by omega, by omega⟩ (by omega)
theorem halve {b r x : Int} (ok : Ok b r x) (hb : I64 b) (d : Nat) : ∀ (k : Nat) (low high : Int), 0 ≤ low → low ≤ high → high ≤ x → high - low < d → over b r x low = false → (high = x ∨ over b r x (high + 1) = true) →
    ∃ a, tollhouseref02_Out.l0 (k + d + 8) x low high b r = some (a, 0) ∧ IsMost b r x a := by
  have hx1 := ok.x1
  induction d with
  | zero => intro k low high h0 h1 h2 h3 h4 h5; omega
  | succ d ih =>
    intro k low high h0 h1 h2 h3 h4 h5
    rw [show k + (d + 1) + 8 = (k + d + 8) + 1 by omega, tollhouseref02_Out.l0]
    by_cases hlt : low < high
    · have hz : high - low = (high - low) / 2 * 2 + (high - low) % 2 := by omega
      rw [if_pos hlt, wrap64_of (x := high - low) ⟨by omega, by omega⟩, Int.tdiv_eq_ediv_of_nonneg (by omega), Int.tmod_eq_emod_of_nonneg (by omega), wrap64_of (x := (high - low) / 2) ⟨by omega, by omega⟩, wrap64_of (x := low + (high - low) / 2) ⟨by omega, by omega⟩, wrap64_of (x := low + (high - low) / 2 + (high - low) % 2) ⟨by omega, by omega⟩]
      obtain ⟨m, hm⟩ : ∃ m, low + (high - low) / 2 + (high - low) % 2 = m := ⟨_, rfl⟩
      rw [hm, wrap64_of (x := m - 1) ⟨by omega, by omega⟩, show k + d + 8 = (k + d + 1) + 7 by omega, rin_f (k + d + 1) b r m hb ⟨by omega, by omega⟩]
      simp only [Option.bind_some]
      have hov : over b r x m = decide ((inS b r m).2 ≠ 0 ∨ (inS b r m).1 > x) := rfl
      by_cases g1 : (inS b r m).2 = 0
      · rw [if_pos g1]
        by_cases g2 : (inS b r m).1 ≤ x
        · rw [if_pos g2]
          refine ih k m high (by omega) (by omega) h2 (by omega) ?_ h5
          rw [hov]
          exact decide_eq_false (by omega)
        · rw [if_neg g2]
          refine ih k low (m - 1) h0 (by omega) (by omega) (by omega) h4 (Or.inr ?_)
          rw [show m - 1 + 1 = m by omega, hov]
          exact decide_eq_true (by omega)
      · rw [if_neg g1]
        refine ih k low (m - 1) h0 (by omega) (by omega) (by omega) h4 (Or.inr ?_)
        rw [show m - 1 + 1 = m by omega, hov]
        exact decide_eq_true (by omega)
    · rw [if_neg hlt]
      obtain rfl : low = high := by omega
      exact ⟨low, rfl, h0, h2, h4, h5⟩
theorem zero_ok {b r x : Int} (ok : Ok b r x) : over b r x 0 = false := by
  rw [over_at ok 0 (by omega) ⟨by omega, by omega⟩]
  have := ok.bx
  exact decide_eq_false (by simp; omega)
theorem rout_f (b r x : Int) (hb : I64 b) (hx : I64 x) : ∃ k, tollhouseref02_Out.f (k + 20) b r x = some (outS b r x) ∧ 20 ≤ k := by
  unfold tollhouseref02_Out.f
  rw [right_f]
  simp only [Option.bind_some]
  cases hm : mayS b r with
  | false =>
    refine ⟨20, ?_, by omega⟩
    rw [if_neg (by simp), tollhouseref02_Out.j0, if_pos rfl]
    unfold outS
    rw [if_neg (by rw [hm]; simp)]
  | true =>
    by_cases h0 : x < 0
    · refine ⟨20, ?_, by omega⟩
      rw [if_pos rfl, tollhouseref02_Out.j0, if_pos (decide_eq_true h0)]
      unfold outS
      rw [if_neg (by omega)]
    · by_cases hbx : x < b
      · refine ⟨20, ?_, by omega⟩
        rw [if_pos rfl, tollhouseref02_Out.j0, if_neg (by simp; omega), if_pos hbx]
        unfold outS
        rw [if_pos ⟨hm, by omega⟩, if_pos hbx]
      · have ok := Ok.of hm (by omega) hx
        obtain ⟨a, ha, hmost⟩ := halve ok hb (x.toNat + 1) 30 0 x (by omega) (by omega) (by omega) (by omega) (zero_ok ok) (Or.inl rfl)
        refine ⟨x.toNat + 20, ?_, by omega⟩
        rw [if_pos rfl, show x.toNat + 20 + 20 = 30 + (x.toNat + 1) + 8 + 1 by omega, tollhouseref02_Out.j0, if_neg (by simp; omega), if_neg hbx, ha]
        unfold outS
        rw [if_pos ⟨hm, by omega⟩, if_neg hbx, hmost.unique ok (outS_most ok)]
theorem outS_cases (b r x : Int) (hx : I64 x) : ((outS b r x).2 ≠ 0 ∧ (outS b r x).1 = 0 ∧ ¬ (mayS b r = true ∧ 0 ≤ x ∧ b ≤ x)) ∨ ((outS b r x).2 = 0 ∧ Ok b r x ∧ IsMost b r x (outS b r x).1) := by
  by_cases h : mayS b r = true ∧ 0 ≤ x
  · by_cases hb : x < b
    · left
      unfold outS
      rw [if_pos h, if_pos hb]
      exact ⟨by simp, rfl, by omega⟩
    · right
      have ok := Ok.of h.1 (by omega) hx
      have := outS_most ok
      unfold outS
      rw [if_pos h, if_neg hb]
      exact ⟨rfl, ok, this⟩
  · left
    unfold outS
    rw [if_neg h]
    exact ⟨by simp, rfl, fun g => h ⟨g.1, g.2.1⟩⟩
theorem not_over {b r x a : Int} (h : over b r x a = false) : (inS b r a).2 = 0 ∧ (inS b r a).1 ≤ x := by
  have := of_decide_eq_false h
  omega
theorem is_over {b r x a : Int} (h : over b r x a = true) : (inS b r a).2 ≠ 0 ∨ (inS b r a).1 > x := of_decide_eq_true h
theorem out_f (b r x : Int) (hb : I64 b) (hr : I64 r) (hx : I64 x) : amount_Out.f b r x = some (outS b r x) := by unfold amount_Out.f; rw [if_pos ⟨hb, hr, hx⟩]
theorem law_out (b r x : Int) (hb : I64 b) (hr : I64 r) (hx : I64 x) : ∃ k, tollhouselaw02_AmountOut.f k b r x = some true := by
  obtain ⟨k, hk, h20⟩ := rout_f b r x hb hx
  refine ⟨k + 20, ?_⟩
  unfold tollhouselaw02_AmountOut.f
  rw [out_f b r x hb hr hx, hk, show k + 20 = (k + 13) + 7 by omega, lives_f]
  simp only [Option.bind_some, if_true, bne_self_eq_false]
  rw [tollhouselaw02_AmountOut.j0, if_neg (by simp)]
  rcases outS_cases b r x hx with ⟨h1, _, _⟩ | ⟨h1, ok, a0, a1, a2, a3⟩
  · rw [if_neg h1]
  · rw [if_pos h1]
    have hx1 := ok.x1
    obtain ⟨n1, n2⟩ := not_over a2
    rw [show k + 13 + 6 = (k + 12) + 7 by omega, in_f (k + 12) b r _ hb hr ⟨by omega, by omega⟩]
    simp only [Option.bind_some]
    rw [if_pos n1, if_neg (by omega), tollhouselaw02_AmountOut.j1, if_neg (by simp; omega)]
    by_cases he : (outS b r x).1 = x
    · rw [if_pos he]
    · rw [if_neg he, wrap64_of (x := (outS b r x).1 + 1) ⟨by omega, by omega⟩, show k + 12 + 6 = (k + 11) + 7 by omega, in_f (k + 11) b r _ hb hr ⟨by omega, by omega⟩]
      simp only [Option.bind_some]
      rcases a3 with h | h
      · exact absurd h he
      · rcases is_over h with h | h
        · rw [if_neg h]
        · by_cases hz : (inS b r ((outS b r x).1 + 1)).2 = 0
          · rw [if_pos hz, decide_eq_true h]
          · rw [if_neg hz]
theorem inS_ge (b r y : Int) (hy : I64 y) (h : (inS b r y).2 = 0) : mayS b r = true ∧ 0 ≤ y ∧ y ≤ (inS b r y).1 ∧ b ≤ (inS b r y).1 := by
  unfold inS at h ⊢
  by_cases hf : (feeS b r y).2 = 0
  · rw [if_pos hf] at h ⊢
    have hc : mayS b r = true ∧ 0 ≤ y := by
      unfold feeS at hf
      by_cases hc : mayS b r = true ∧ 0 ≤ y
      · exact hc
      · rw [if_neg hc] at hf; simp at hf
    have m := hc.1
    unfold mayS at m
    have hm2 := of_decide_eq_true m
    obtain ⟨p1, p2, p3, p4⟩ := part_lt hy hc.2 hm2.2.1 hm2.2.2
    have hfee : feeS b r y = addS b (y * r / 1000000) := by unfold feeS; rw [if_pos hc]
    rw [hfee] at hf h ⊢
    rcases addS_snd b (y * r / 1000000) with ⟨_, _, _, _, e⟩ | ⟨g, _⟩ | ⟨g, _⟩
    · rw [e] at h ⊢
      rcases addS_snd y (b + y * r / 1000000) with ⟨_, _, _, _, e2⟩ | ⟨g, _⟩ | ⟨g, _⟩
      · rw [e2]; exact ⟨hc.1, hc.2, by omega, by omega⟩
      · rw [g] at h; omega
      · rw [g] at h; omega
    · rw [g] at hf; omega
    · rw [g] at hf; omega
  · rw [if_neg hf] at h
    exact absurd h hf
theorem law_back (b r y : Int) (hb : I64 b) (hr : I64 r) (hy : I64 y) : tollhouselaw02_AmountBack.f 20 b r y = some true := by
  unfold tollhouselaw02_AmountBack.f
  rw [in_f 13 b r y hb hr hy, lives_f 13]
  simp only [Option.bind_some, if_true]
  by_cases h : (inS b r y).2 = 0
  · rw [if_pos h]
    obtain ⟨hm, h0, h1, h2⟩ := inS_ge b r y hy h
    have hx : I64 (inS b r y).1 := by
      unfold inS
      split
      · exact addS_I64 hy (feeS_I64 b r y hb hy)
      · unfold I64; simp
    rw [out_f b r _ hb hr hx]
    simp only [Option.bind_some]
    rcases outS_cases b r (inS b r y).1 hx with ⟨_, _, g⟩ | ⟨g, ok, a0, a1, a2, a3⟩
    · exact absurd ⟨hm, by omega, h2⟩ g
    · rw [if_pos g]
      have hge : (outS b r (inS b r y).1).1 ≥ y := by
        rcases a3 with e | e
        · omega
        · by_cases hlt : (outS b r (inS b r y).1).1 < y
          · have := over_mono b r (inS b r y).1 _ y ok.may (by omega) (by omega) hy ok.x1 e
            have := is_over this
            omega
          · omega
      rw [if_pos hge, decide_eq_true h1]
  · rw [if_neg h]
    have : (inS b r y).1 = 0 := by
      unfold inS at h ⊢
      by_cases hf : (feeS b r y).2 = 0
      · rw [if_pos hf] at h ⊢
        rcases addS_snd y (feeS b r y).1 with ⟨g, _⟩ | ⟨_, g, _⟩ | ⟨_, g, _⟩
        · exact absurd g h
        · exact g
        · exact g
      · rw [if_neg hf]
    rw [this]
    rfl
end Go.Proofs.Ytlhafpkkgocpnaa.PB
