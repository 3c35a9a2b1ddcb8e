import Derived.Test.YtlhafpkkgocpnaaPA2
import Derived.IntWalk
import Derived.Laws.BitsAllLaws
import Derived.Laws.MathBits
/- bits.Div64 at a divisor from 524,288 to 2,097,151 gives the quotient and the remainder. -/
namespace Go.Proofs.Ytlhafpkkgocpnaa.PA
open Go.RowKit Go.Proofs.YtlhafpkkgocpnaaW.PrintWords Go.Proofs.YtlhafpkkgocpnaaW.PrintLast Go.Proofs.YtlhafpkkgocpnaaW.PrintMore

theorem len_20 (y : Nat) (h0 : 524288 ≤ y) (h1 : y < 1048576) : Lib.bitLen y = 20 := by
  have e := Lib.bitLen_shift 19 y (by omega) (by omega)
  rw [e, show y / 2 ^ 19 = 1 by omega]
  decide
theorem len_21 (y : Nat) (h0 : 1048576 ≤ y) (h1 : y < 2097152) : Lib.bitLen y = 21 := by
  have e := Lib.bitLen_shift 20 y (by omega) (by omega)
  rw [e, show y / 2 ^ 20 = 1 by omega]
  decide
theorem u64_w (x : Int) : IntKind.u64.wrap x = x % 18446744073709551616 := IntKind.wrap_u64 x
theorem shlc (x : Int) (s : Nat) (h : s ≤ 64) (h0 : 0 ≤ x * 2 ^ s) (h1 : x * 2 ^ s ≤ 18446744073709551615) : shl .u64 x (s : Int) = x * 2 ^ s := by
  unfold shl
  rw [Int.toNat_natCast, Nat.min_eq_left (show s ≤ IntKind.u64.bits from h)]
  exact IntWalk.u64_in _ ⟨h0, h1⟩
theorem shrc (x : Int) (s : Nat) (h : s ≤ 64) : shr .u64 x (s : Int) = x / 2 ^ s := by
  unfold shr
  rw [Int.toNat_natCast, Nat.min_eq_left (show s ≤ IntKind.u64.bits from h)]
theorem split_div (n Y : Int) (hY : 0 < Y) (h0 : 0 ≤ n) (h1 : n < Y * 4294967296) : 0 ≤ n / Y ∧ n / Y < 4294967296 ∧ n / Y * Y = n - n % Y ∧ n % Y ≤ n := by
  have e := Int.mul_ediv_add_emod n Y
  rw [Int.mul_comm] at e
  have z := Int.mul_nonneg (Int.ediv_nonneg h0 (show 0 ≤ Y by omega)) (show 0 ≤ Y by omega)
  exact ⟨Int.ediv_nonneg h0 (by omega), Int.ediv_lt_of_lt_mul hY (by omega), by omega, by omega⟩
/-- the quotient's two halves -/
theorem halves (q1 q0 r1 r0 Y un32 un21 un1 : Int) (h1 : q1 * Y = un32 - r1) (h2 : un21 = r1 * 4294967296 + un1) (h3 : q0 * Y = un21 - r0) :
    (un32 * 4294967296 + un1) * 4294967296 = (q1 * 4294967296 + q0) * (Y * 4294967296) + r0 * 4294967296 := by
  have e : (q1 * 4294967296 + q0) * (Y * 4294967296) = q1 * Y * 4294967296 * 4294967296 + q0 * Y * 4294967296 := by
    rw [Int.add_mul]
    have a : q1 * 4294967296 * (Y * 4294967296) = q1 * Y * 4294967296 * 4294967296 := by ac_rfl
    have b : q0 * (Y * 4294967296) = q0 * Y * 4294967296 := by ac_rfl
    rw [a, b]
  rw [e, h1, h3]
  omega

theorem div64_44 (k : Nat) (hi lo y : Int) (hy0 : 524288 ≤ y) (hy1 : y < 1048576) (h0 : 0 < hi) (h1 : hi < y) (hl0 : 0 ≤ lo) (hl1 : lo ≤ 18446744073709551615) :
    bits_Div64.f (k + 6) hi lo y = some ((hi * 18446744073709551616 + lo) / y, (hi * 18446744073709551616 + lo) % y) := by
  have hlz : bits_LeadingZeros64.f y = some 44 := by
    unfold bits_LeadingZeros64.f
    rw [if_pos (by omega), len_20 y.toNat (by omega) (by omega)]
    rfl
  have e1 : shl .u64 y 44 = y * 17592186044416 := shlc y 44 (by omega) (by omega) (by omega)
  have e2 : shl .u64 hi 44 = hi * 17592186044416 := shlc hi 44 (by omega) (by omega) (by omega)
  have e3 : shr .u64 lo 20 = lo / 1048576 := shrc lo 20 (by omega)
  have e4 : shl .u64 lo 44 = lo % 1048576 * 17592186044416 := by
    unfold shl
    show IntKind.u64.wrap (lo * 2 ^ 44) = _
    rw [u64_w]
    omega
  have e5 : Go.bits .and .u64 (y * 17592186044416) 4294967295 = 0 := by
    rw [and_low32 _ (by omega) (by omega)]
    omega
  have e6 : Go.bits .or .u64 (hi * 17592186044416) (lo / 1048576) = hi * 17592186044416 + lo / 1048576 := by
    rw [u64_or _ _ (by omega) (by omega) (by omega) (by omega)]
    have a : (hi * 17592186044416).toNat = hi.toNat <<< 44 := by rw [Nat.shiftLeft_eq]; omega
    rw [a, ← Nat.shiftLeft_add_eq_or_of_lt (show (lo / 1048576).toNat < 2 ^ 44 by omega), Nat.shiftLeft_eq]
    omega
  have e7 : Go.bits .and .u64 (lo % 1048576 * 17592186044416) 4294967295 = 0 := by
    rw [and_low32 _ (by omega) (by omega)]
    omega
  have eY : y * 17592186044416 / 4294967296 = y * 4096 := by omega
  have eL : lo % 1048576 * 17592186044416 / 4294967296 = lo % 1048576 * 4096 := by omega
  obtain ⟨n, hn⟩ : ∃ n, hi * 17592186044416 + lo / 1048576 = n := ⟨_, rfl⟩
  obtain ⟨Y, hY⟩ : ∃ Y, y * 4096 = Y := ⟨_, rfl⟩
  obtain ⟨u1, hu1⟩ : ∃ u, lo % 1048576 * 4096 = u := ⟨_, rfl⟩
  have eT : y * 17592186044416 = Y * 4294967296 := by omega
  have hYp : 0 < Y := by omega
  have hY2 : Y < 4294967296 := by omega
  have hn0 : 0 ≤ n := by omega
  have hnY : n < Y * 4294967296 := by omega
  have hu0 : 0 ≤ u1 := by omega
  have hu2 : u1 < 4294967296 := by omega
  unfold bits_Div64.f
  rw [if_neg (by omega), if_neg (by omega), if_neg (by omega), hlz]
  simp only [Option.bind_some]
  rw [show IntKind.u64.wrap 44 = 44 from rfl, show IntKind.u64.wrap (64 - 44) = 20 from rfl, e1, e2, e3, e4, e5, e6, e7, eY, eL, hn, hY, hu1, eT]
  rw [if_pos (by omega), if_pos (by omega), if_neg (by omega)]
  have c1 := Int.emod_nonneg n (show Y ≠ 0 by omega)
  have c2 := Int.emod_lt_of_pos n hYp
  obtain ⟨a1, a2, a3, a4⟩ := split_div n Y hYp hn0 hnY
  obtain ⟨b1, b2, b3, b4⟩ := split_div (n % Y * 4294967296 + u1) Y hYp (by omega) (by have := Int.emod_lt_of_pos n hYp; omega)
  rw [IntWalk.u64_quo n Y ⟨hn0, by omega, by omega⟩]
  have m1 : IntKind.u64.wrap (n / Y * Y) = n - n % Y := by rw [a3]; exact IntWalk.u64_in _ ⟨by omega, by omega⟩
  have m2 : IntKind.u64.wrap (n - (n - n % Y)) = n % Y := by rw [show n - (n - n % Y) = n % Y by omega]; exact IntWalk.u64_in _ ⟨Int.emod_nonneg _ (by omega), by have := Int.emod_lt_of_pos n hYp; omega⟩
  rw [m1, m2]
  clear m1 m2
  generalize n % Y = r at *
  generalize n / Y = q at *
  rw [bits_Div64.l0]
  rw [if_neg (by omega)]
  have w1 : IntKind.u64.wrap (q * 0) = 0 := by rw [Int.mul_zero]; rfl
  have w2 : IntKind.u64.wrap (4294967296 * r) = r * 4294967296 := by rw [Int.mul_comm]; exact IntWalk.u64_in _ ⟨by omega, by omega⟩
  have w3 : IntKind.u64.wrap (r * 4294967296 + u1) = r * 4294967296 + u1 := IntWalk.u64_in _ ⟨by omega, by omega⟩
  rw [w1, w2, w3, decide_eq_false (by omega)]
  rw [bits_Div64.j1]
  rw [if_neg (by simp)]
  rw [bits_Div64.j2]
  rw [if_neg (by omega)]
  have x1 : IntKind.u64.wrap (IntKind.u64.wrap (n * 4294967296) + u1) = (n * 4294967296 + u1) % 18446744073709551616 := by rw [u64_w, u64_w]; omega
  have x2 : IntKind.u64.wrap (q * (Y * 4294967296)) = (n - r) * 4294967296 % 18446744073709551616 := by rw [u64_w, ← a3, ← Int.mul_assoc]
  have x3 : IntKind.u64.wrap ((n * 4294967296 + u1) % 18446744073709551616 - (n - r) * 4294967296 % 18446744073709551616) = r * 4294967296 + u1 := by rw [u64_w]; omega
  rw [x1, x2, x3, IntWalk.u64_quo (r * 4294967296 + u1) Y ⟨by omega, by omega, by omega⟩]
  obtain ⟨v, hv⟩ : ∃ v, r * 4294967296 + u1 = v := ⟨_, rfl⟩
  rw [hv] at b1 b2 b3 b4 ⊢
  have d1 := Int.emod_nonneg v (show Y ≠ 0 by omega)
  have d2 := Int.emod_lt_of_pos v hYp
  have m3 : IntKind.u64.wrap (v / Y * Y) = v - v % Y := by rw [b3]; exact IntWalk.u64_in _ ⟨by omega, by omega⟩
  have m4 : IntKind.u64.wrap (v - (v - v % Y)) = v % Y := by rw [show v - (v - v % Y) = v % Y by omega]; exact IntWalk.u64_in _ ⟨d1, by omega⟩
  rw [m3, m4]
  clear m3 m4
  generalize v % Y = r' at *
  generalize v / Y = q' at *
  rw [bits_Div64.l1]
  rw [if_neg (by omega)]
  have w4 : IntKind.u64.wrap (q' * 0) = 0 := by rw [Int.mul_zero]; rfl
  have w5 : IntKind.u64.wrap (4294967296 * r') = r' * 4294967296 := by rw [Int.mul_comm]; exact IntWalk.u64_in _ ⟨by omega, by omega⟩
  have w6 : IntKind.u64.wrap (r' * 4294967296 + 0) = r' * 4294967296 := by rw [Int.add_zero]; exact IntWalk.u64_in _ ⟨by omega, by omega⟩
  rw [w4, w5, w6, decide_eq_false (by omega)]
  rw [bits_Div64.j4]
  rw [if_neg (by simp), if_pos (by omega)]
  have y1 : IntKind.u64.wrap (IntKind.u64.wrap (q * 4294967296) + q') = q * 4294967296 + q' := by
    rw [IntWalk.u64_in (q * 4294967296) ⟨by omega, by omega⟩]
    exact IntWalk.u64_in _ ⟨by omega, by omega⟩
  have y2 : IntKind.u64.wrap (IntKind.u64.wrap (v * 4294967296) + 0) = v * 4294967296 % 18446744073709551616 := by rw [u64_w, u64_w]; omega
  have y3 : IntKind.u64.wrap (q' * (Y * 4294967296)) = (v - r') * 4294967296 % 18446744073709551616 := by rw [u64_w, ← b3, ← Int.mul_assoc]
  have y4 : IntKind.u64.wrap (v * 4294967296 % 18446744073709551616 - (v - r') * 4294967296 % 18446744073709551616) = r' * 4294967296 := by rw [u64_w]; omega
  rw [y1, y2, y3, y4]
  have e8 : shr .u64 (r' * 4294967296) 44 = r' * 4294967296 / 17592186044416 := shrc _ 44 (by omega)
  rw [e8]
  have H := halves q q' r r' Y n v u1 (by omega) (by omega) (by omega)
  have hN : (hi * 18446744073709551616 + lo) * 17592186044416 = (n * 4294967296 + u1) * 4294967296 := by omega
  rw [H, ← eT] at hN
  have hr2 : ∃ z, r' = z * 4096 := by
    refine ⟨r' / 4096, ?_⟩
    have hv2 : v % 4096 = 0 := by omega
    have hq2 : (v - r') % 4096 = 0 := by rw [← b3, ← hY, ← Int.mul_assoc, Int.mul_emod_left]
    omega
  obtain ⟨z, hz⟩ := hr2
  have hQ : (q * 4294967296 + q') * (y * 17592186044416) = ((q * 4294967296 + q') * y) * 17592186044416 := by rw [Int.mul_assoc]
  rw [hQ] at hN
  have hz1 : r' * 4294967296 / 17592186044416 = z := by omega
  rw [hz1]
  have hfin : hi * 18446744073709551616 + lo = (q * 4294967296 + q') * y + z := by
    generalize (q * 4294967296 + q') * y = M at *
    omega
  have hzy : 0 ≤ z ∧ z < y := by omega
  rw [hfin]
  have f1 : ((q * 4294967296 + q') * y + z) / y = q * 4294967296 + q' := by
    rw [Int.add_comm, Int.add_mul_ediv_right _ _ (by omega), Int.ediv_eq_zero_of_lt hzy.1 hzy.2, Int.zero_add]
  have f2 : ((q * 4294967296 + q') * y + z) % y = z := by
    rw [Int.add_comm, Int.add_mul_emod_self_right, Int.emod_eq_of_lt hzy.1 hzy.2]
  rw [f1, f2]

theorem div64_43 (k : Nat) (hi lo y : Int) (hy0 : 1048576 ≤ y) (hy1 : y < 2097152) (h0 : 0 < hi) (h1 : hi < y) (hl0 : 0 ≤ lo) (hl1 : lo ≤ 18446744073709551615) :
    bits_Div64.f (k + 6) hi lo y = some ((hi * 18446744073709551616 + lo) / y, (hi * 18446744073709551616 + lo) % y) := by
  have hlz : bits_LeadingZeros64.f y = some 43 := by
    unfold bits_LeadingZeros64.f
    rw [if_pos (by omega), len_21 y.toNat (by omega) (by omega)]
    rfl
  have e1 : shl .u64 y 43 = y * 8796093022208 := shlc y 43 (by omega) (by omega) (by omega)
  have e2 : shl .u64 hi 43 = hi * 8796093022208 := shlc hi 43 (by omega) (by omega) (by omega)
  have e3 : shr .u64 lo 21 = lo / 2097152 := shrc lo 21 (by omega)
  have e4 : shl .u64 lo 43 = lo % 2097152 * 8796093022208 := by
    unfold shl
    show IntKind.u64.wrap (lo * 2 ^ 43) = _
    rw [u64_w]
    omega
  have e5 : Go.bits .and .u64 (y * 8796093022208) 4294967295 = 0 := by
    rw [and_low32 _ (by omega) (by omega)]
    omega
  have e6 : Go.bits .or .u64 (hi * 8796093022208) (lo / 2097152) = hi * 8796093022208 + lo / 2097152 := by
    rw [u64_or _ _ (by omega) (by omega) (by omega) (by omega)]
    have a : (hi * 8796093022208).toNat = hi.toNat <<< 43 := by rw [Nat.shiftLeft_eq]; omega
    rw [a, ← Nat.shiftLeft_add_eq_or_of_lt (show (lo / 2097152).toNat < 2 ^ 43 by omega), Nat.shiftLeft_eq]
    omega
  have e7 : Go.bits .and .u64 (lo % 2097152 * 8796093022208) 4294967295 = 0 := by
    rw [and_low32 _ (by omega) (by omega)]
    omega
  have eY : y * 8796093022208 / 4294967296 = y * 2048 := by omega
  have eL : lo % 2097152 * 8796093022208 / 4294967296 = lo % 2097152 * 2048 := by omega
  obtain ⟨n, hn⟩ : ∃ n, hi * 8796093022208 + lo / 2097152 = n := ⟨_, rfl⟩
  obtain ⟨Y, hY⟩ : ∃ Y, y * 2048 = Y := ⟨_, rfl⟩
  obtain ⟨u1, hu1⟩ : ∃ u, lo % 2097152 * 2048 = u := ⟨_, rfl⟩
  have eT : y * 8796093022208 = Y * 4294967296 := by omega
  have hYp : 0 < Y := by omega
  have hY2 : Y < 4294967296 := by omega
  have hn0 : 0 ≤ n := by omega
  have hnY : n < Y * 4294967296 := by omega
  have hu0 : 0 ≤ u1 := by omega
  have hu2 : u1 < 4294967296 := by omega
  unfold bits_Div64.f
  rw [if_neg (by omega), if_neg (by omega), if_neg (by omega), hlz]
  simp only [Option.bind_some]
  rw [show IntKind.u64.wrap 43 = 43 from rfl, show IntKind.u64.wrap (64 - 43) = 21 from rfl, e1, e2, e3, e4, e5, e6, e7, eY, eL, hn, hY, hu1, eT]
  rw [if_pos (by omega), if_pos (by omega), if_neg (by omega)]
  have c1 := Int.emod_nonneg n (show Y ≠ 0 by omega)
  have c2 := Int.emod_lt_of_pos n hYp
  obtain ⟨a1, a2, a3, a4⟩ := split_div n Y hYp hn0 hnY
  obtain ⟨b1, b2, b3, b4⟩ := split_div (n % Y * 4294967296 + u1) Y hYp (by omega) (by have := Int.emod_lt_of_pos n hYp; omega)
  rw [IntWalk.u64_quo n Y ⟨hn0, by omega, by omega⟩]
  have m1 : IntKind.u64.wrap (n / Y * Y) = n - n % Y := by rw [a3]; exact IntWalk.u64_in _ ⟨by omega, by omega⟩
  have m2 : IntKind.u64.wrap (n - (n - n % Y)) = n % Y := by rw [show n - (n - n % Y) = n % Y by omega]; exact IntWalk.u64_in _ ⟨Int.emod_nonneg _ (by omega), by have := Int.emod_lt_of_pos n hYp; omega⟩
  rw [m1, m2]
  clear m1 m2
  generalize n % Y = r at *
  generalize n / Y = q at *
  rw [bits_Div64.l0]
  rw [if_neg (by omega)]
  have w1 : IntKind.u64.wrap (q * 0) = 0 := by rw [Int.mul_zero]; rfl
  have w2 : IntKind.u64.wrap (4294967296 * r) = r * 4294967296 := by rw [Int.mul_comm]; exact IntWalk.u64_in _ ⟨by omega, by omega⟩
  have w3 : IntKind.u64.wrap (r * 4294967296 + u1) = r * 4294967296 + u1 := IntWalk.u64_in _ ⟨by omega, by omega⟩
  rw [w1, w2, w3, decide_eq_false (by omega)]
  rw [bits_Div64.j1]
  rw [if_neg (by simp)]
  rw [bits_Div64.j2]
  rw [if_neg (by omega)]
  have x1 : IntKind.u64.wrap (IntKind.u64.wrap (n * 4294967296) + u1) = (n * 4294967296 + u1) % 18446744073709551616 := by rw [u64_w, u64_w]; omega
  have x2 : IntKind.u64.wrap (q * (Y * 4294967296)) = (n - r) * 4294967296 % 18446744073709551616 := by rw [u64_w, ← a3, ← Int.mul_assoc]
  have x3 : IntKind.u64.wrap ((n * 4294967296 + u1) % 18446744073709551616 - (n - r) * 4294967296 % 18446744073709551616) = r * 4294967296 + u1 := by rw [u64_w]; omega
  rw [x1, x2, x3, IntWalk.u64_quo (r * 4294967296 + u1) Y ⟨by omega, by omega, by omega⟩]
  obtain ⟨v, hv⟩ : ∃ v, r * 4294967296 + u1 = v := ⟨_, rfl⟩
  rw [hv] at b1 b2 b3 b4 ⊢
  have d1 := Int.emod_nonneg v (show Y ≠ 0 by omega)
  have d2 := Int.emod_lt_of_pos v hYp
  have m3 : IntKind.u64.wrap (v / Y * Y) = v - v % Y := by rw [b3]; exact IntWalk.u64_in _ ⟨by omega, by omega⟩
  have m4 : IntKind.u64.wrap (v - (v - v % Y)) = v % Y := by rw [show v - (v - v % Y) = v % Y by omega]; exact IntWalk.u64_in _ ⟨d1, by omega⟩
  rw [m3, m4]
  clear m3 m4
  generalize v % Y = r' at *
  generalize v / Y = q' at *
  rw [bits_Div64.l1]
  rw [if_neg (by omega)]
  have w4 : IntKind.u64.wrap (q' * 0) = 0 := by rw [Int.mul_zero]; rfl
  have w5 : IntKind.u64.wrap (4294967296 * r') = r' * 4294967296 := by rw [Int.mul_comm]; exact IntWalk.u64_in _ ⟨by omega, by omega⟩
  have w6 : IntKind.u64.wrap (r' * 4294967296 + 0) = r' * 4294967296 := by rw [Int.add_zero]; exact IntWalk.u64_in _ ⟨by omega, by omega⟩
  rw [w4, w5, w6, decide_eq_false (by omega)]
  rw [bits_Div64.j4]
  rw [if_neg (by simp), if_pos (by omega)]
  have y1 : IntKind.u64.wrap (IntKind.u64.wrap (q * 4294967296) + q') = q * 4294967296 + q' := by
    rw [IntWalk.u64_in (q * 4294967296) ⟨by omega, by omega⟩]
    exact IntWalk.u64_in _ ⟨by omega, by omega⟩
  have y2 : IntKind.u64.wrap (IntKind.u64.wrap (v * 4294967296) + 0) = v * 4294967296 % 18446744073709551616 := by rw [u64_w, u64_w]; omega
  have y3 : IntKind.u64.wrap (q' * (Y * 4294967296)) = (v - r') * 4294967296 % 18446744073709551616 := by rw [u64_w, ← b3, ← Int.mul_assoc]
  have y4 : IntKind.u64.wrap (v * 4294967296 % 18446744073709551616 - (v - r') * 4294967296 % 18446744073709551616) = r' * 4294967296 := by rw [u64_w]; omega
  rw [y1, y2, y3, y4]
  have e8 : shr .u64 (r' * 4294967296) 43 = r' * 4294967296 / 8796093022208 := shrc _ 43 (by omega)
  rw [e8]
  have H := halves q q' r r' Y n v u1 (by omega) (by omega) (by omega)
  have hN : (hi * 18446744073709551616 + lo) * 8796093022208 = (n * 4294967296 + u1) * 4294967296 := by omega
  rw [H, ← eT] at hN
  have hr2 : ∃ z, r' = z * 2048 := by
    refine ⟨r' / 2048, ?_⟩
    have hv2 : v % 2048 = 0 := by omega
    have hq2 : (v - r') % 2048 = 0 := by rw [← b3, ← hY, ← Int.mul_assoc, Int.mul_emod_left]
    omega
  obtain ⟨z, hz⟩ := hr2
  have hQ : (q * 4294967296 + q') * (y * 8796093022208) = ((q * 4294967296 + q') * y) * 8796093022208 := by rw [Int.mul_assoc]
  rw [hQ] at hN
  have hz1 : r' * 4294967296 / 8796093022208 = z := by omega
  rw [hz1]
  have hfin : hi * 18446744073709551616 + lo = (q * 4294967296 + q') * y + z := by
    generalize (q * 4294967296 + q') * y = M at *
    omega
  have hzy : 0 ≤ z ∧ z < y := by omega
  rw [hfin]
  have f1 : ((q * 4294967296 + q') * y + z) / y = q * 4294967296 + q' := by
    rw [Int.add_comm, Int.add_mul_ediv_right _ _ (by omega), Int.ediv_eq_zero_of_lt hzy.1 hzy.2, Int.zero_add]
  have f2 : ((q * 4294967296 + q') * y + z) % y = z := by
    rw [Int.add_comm, Int.add_mul_emod_self_right, Int.emod_eq_of_lt hzy.1 hzy.2]
  rw [f1, f2]
end Go.Proofs.Ytlhafpkkgocpnaa.PA
