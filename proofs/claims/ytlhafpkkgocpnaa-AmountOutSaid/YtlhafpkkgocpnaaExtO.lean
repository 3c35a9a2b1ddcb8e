import Derived.Test.YtlhafpkkgocpnaaPlain2
import Derived.Outline
import Derived.Shelf.RegionOpenPlain
/- amount.Out by a contract: what it gives is reckoned by outS. -/
namespace Go.Proofs.Ytlhafpkkgocpnaa.PA
open Go.RowKit Go.Proofs.YtlhafpkkgocpnaaW.PrintWords Go.Proofs.YtlhafpkkgocpnaaW.PrintLast Go.Proofs.YtlhafpkkgocpnaaW.PrintMore

/-- what sort.Search hands back -/
def Least (n : Nat) (p : Nat → Bool) (w : World) (e : Ending) (w' : World) : Prop :=
  ∃ r : Nat, e = .returned (.int .i64 r) ∧ r ≤ n ∧ (∀ t, t < r → p t = false) ∧ (∀ t, r ≤ t → t < n → p t = true) ∧ Below w.heap.size w w'

set_option maxHeartbeats 4000000 in
set_option maxRecDepth 100000 in
theorem search_any (g : Nat) (cb : Array Value) (n : Nat) (p : Nat → Bool) (w : World) (eg : ∀ args w, (callFunc g args).run Try.prog w = .ok (.enter g args) w) (hn : n ≤ 4)
    (hf : ∀ (W : World) (i : Nat), i < n → Below w.heap.size w W → Calls Try.prog g (#[.int .i64 i] ++ cb) W fun e w' => e = .returned (.bool (p i)) ∧ Below W.heap.size W w')
    (hm : ∀ a b, a ≤ b → b < n → p a = true → p b = true) :
    Calls Try.prog 32 #[.int .i64 n, .func (.func g) #[] cb] w (Least n p w) := by
  have HF := Aside0.mk hf
  have M := Aside0.mk hm
  clear hf hm
  go_enter Try.func32, Try.ntmps32
  go_wp2
  go_loopg [5, 6] n (fun kx s5 s6 wr => ∃ (lo hi : Nat), s5 = .int .i64 lo ∧ s6 = .int .i64 hi ∧ lo ≤ hi ∧ hi ≤ n ∧ hi - lo ≤ kx ∧ Aside0 (Below w.heap.size w wr) ∧
    Aside0 ((∀ t, t < lo → p t = false) ∧ (∀ t, hi ≤ t → t < n → p t = true)))
  case atStart => exact ⟨0, n, rfl, rfl, Nat.zero_le _, Nat.le_refl _, by omega, ⟨Below.refl _ _⟩, ⟨fun t ht => absurd ht (Nat.not_lt_zero _), fun t h1 h2 => by omega⟩⟩
  case round =>
    obtain ⟨lo, hi, rfl, rfl, hlh, hin, hg, HB, I⟩ := hrel
    by_cases hlt : lo < hi
    · have hc := HF.out wr ((lo + hi) / 2) (by omega) HB.out
      rw [show (((lo + hi) / 2 : Nat) : Int) = ((lo : Int) + (hi : Int)) / 2 by omega] at hc
      cases hp : p ((lo + hi) / 2) <;> rw [hp] at hc
      · have HP := Aside0.mk hp
        clear hp
        go_wp2_with (go_at_fn g; refine hc.mono ?_; rintro e w' ⟨rfl, hb'⟩; have HB2 := Aside0.mk (hb'); clear hb')
        go_roundg (hi - ((lo + hi) / 2 + 1))
        case measure => omega
        case rel =>
          refine ⟨(lo + hi) / 2 + 1, hi, by rw [show ((lo : Int) + (hi : Int)) / 2 + 1 = (((lo + hi) / 2 + 1 : Nat) : Int) by omega], rfl, by omega, hin, Nat.le_refl _, ⟨HB.out.trans (HB2.out.mono HB.out.size)⟩, ⟨fun t ht => ?_, I.out.2⟩⟩
          cases h : p t with
          | false => rfl
          | true => have := M.out t ((lo + hi) / 2) (by omega) (by omega) h; rw [HP.out] at this; cases this
      · have HP := Aside0.mk hp
        clear hp
        go_wp2_with (go_at_fn g; refine hc.mono ?_; rintro e w' ⟨rfl, hb'⟩; have HB2 := Aside0.mk (hb'); clear hb')
        go_roundg ((lo + hi) / 2 - lo)
        case measure => omega
        case rel =>
          exact ⟨lo, (lo + hi) / 2, rfl, by rw [show ((lo : Int) + (hi : Int)) / 2 = (((lo + hi) / 2 : Nat) : Int) by omega], by omega, by omega, Nat.le_refl _, ⟨HB.out.trans (HB2.out.mono HB.out.size)⟩, ⟨I.out.1, fun t ht htn => M.out ((lo + hi) / 2) t ht htn HP.out⟩⟩
    · obtain rfl : hi = lo := by omega
      go_wp2
      go_ret
      exact ⟨hi, rfl, hin, I.out.1, I.out.2, HB.out⟩

/-- is it too much -/
def over (b r x y : Int) : Bool := decide ((inS b r y).2 ≠ 0 ∨ (inS b r y).1 > x)
def aboutS (b r x : Int) : Int := (x - b) * 1000000 / (1000000 + r)
def firstS (b r x : Int) : Int := max (aboutS b r x - 2) 0
def roomS (b r x : Int) : Nat := (min (x - firstS b r x) 4).toNat
/-- how many of the first ones are not too much -/
def steps (p : Nat → Bool) : Nat → Nat
  | 0 => 0
  | n + 1 => if p (steps p n) = false ∧ steps p n = n then n + 1 else steps p n
def outS (b r x : Int) : Int × Int :=
  if mayS b r = true ∧ 0 ≤ x then (if x < b then (0, 20) else (firstS b r x + steps (fun i => over b r x (firstS b r x + i + 1)) (roomS b r x), 0)) else (0, 1)
theorem steps_is (p : Nat → Bool) (n : Nat) : steps p n ≤ n ∧ (∀ t, t < steps p n → p t = false) ∧ (steps p n < n → p (steps p n) = true) := by
  induction n with
  | zero => exact ⟨Nat.le_refl _, fun t ht => absurd ht (Nat.not_lt_zero _), fun h => absurd h (Nat.not_lt_zero _)⟩
  | succ n ih =>
    obtain ⟨h1, h2, h3⟩ := ih
    unfold steps
    by_cases hc : p (steps p n) = false ∧ steps p n = n
    · rw [if_pos hc]
      refine ⟨Nat.le_refl _, fun t ht => ?_, fun h => absurd h (Nat.lt_irrefl _)⟩
      by_cases he : t = n
      · rw [he, ← hc.2]; exact hc.1
      · exact h2 t (by omega)
    · rw [if_neg hc]
      refine ⟨by omega, h2, fun h => ?_⟩
      by_cases he : steps p n = n
      · cases hp : p (steps p n) with
        | true => rfl
        | false => exact absurd ⟨hp, he⟩ hc
      · exact h3 (by omega)
theorem steps_eq (p : Nat → Bool) (n r : Nat) (h1 : r ≤ n) (h2 : ∀ t, t < r → p t = false) (h3 : r < n → p r = true) : steps p n = r := by
  obtain ⟨g1, g2, g3⟩ := steps_is p n
  by_cases hlt : steps p n < r
  · have := g3 (by omega)
    rw [h2 _ hlt] at this
    cases this
  · by_cases hgt : r < steps p n
    · have := g2 r hgt
      rw [h3 (by omega)] at this
      cases this
    · omega
set_option maxHeartbeats 4000000 in
set_option maxRecDepth 100000 in
/-- the function that is asked -/
theorem asked (b r x f y : Int) (B1 B2 B3 : Nat) (w : World) (hb : I64 b) (hr : I64 r) (hy : I64 y) (h1 : w.cell? ⟨B1, 0, none⟩ = some (.int .i64 b)) (h2 : w.cell? ⟨B1, 1, none⟩ = some (.int .i64 r)) (h3 : w.cell? ⟨B2, 0, none⟩ = some (.int .i64 f)) (h4 : w.cell? ⟨B3, 0, none⟩ = some (.int .i64 x)) (i : Int) (hi : 0 ≤ i) (hi4 : i < 4) (hf0 : 0 ≤ f) (hyf : y = f + i + 1) :
    Calls Try.prog 33 (#[.int .i64 i] ++ #[.pointer (some ⟨B1, 0, none⟩), .pointer (some ⟨B2, 0, none⟩), .pointer (some ⟨B3, 0, none⟩)]) w fun e w' => e = .returned (.bool (over b r x y)) ∧ Below w.heap.size w w' := by
  have HI := Aside0.mk (in_f 0 b r y hb hr hy)
  subst hyf
  obtain ⟨n, m, hnm⟩ : ∃ n m, inS b r (f + i + 1) = (n, m) := ⟨_, _, rfl⟩
  have HNM := Aside0.mk hnm
  rw [hnm] at HI
  have hov : over b r x (f + i + 1) = (decide (m ≠ 0) || decide (n > x)) := by unfold over; rw [hnm]; simp
  rw [hov]
  clear hov hnm
  have fits : f + i + 1 ≤ 9223372036854775807 := hy.2
  by_cases c1 : m = 0
  · have c1b : (m != 0) = false := by simp [c1]
    have c1a : decide (m ≠ 0) = false := by simp [c1]
    rw [c1a]
    clear c1a c1
    go_enter Try.func33, Try.ntmps33
    go_wp2_with (go_at_call 13; refine (amount_In.calls 7 b r (f + i + 1) n m _ HI.out).mono ?_; rintro e w' ⟨rfl, hb'⟩; have HB := Aside0.mk hb'; have h4' := pw_cell_below hb' h4; clear hb')
    go_ret
    exact ⟨by simp, HB.out⟩
  · have c1b : (m != 0) = true := by simp [c1]
    have c1a : decide (m ≠ 0) = true := by simp [c1]
    rw [c1a]
    clear c1a c1
    go_enter Try.func33, Try.ntmps33
    go_wp2_with (go_at_call 13; refine (amount_In.calls 7 b r (f + i + 1) n m _ HI.out).mono ?_; rintro e w' ⟨rfl, hb'⟩; have HB := Aside0.mk hb'; have h4' := pw_cell_below hb' h4; clear hb')
    go_ret
    exact ⟨by simp, HB.out⟩

theorem fresh_frozen (w : World) (n : Nat) (v : Value) (t : TypeId) : ((w.drewN n).alloc (.cells #[v] t)).frozen? ⟨w.heap.size, 0, none⟩ = false := by
  have h : ∀ u : World, (u.alloc (.cells #[v] t)).frozen? ⟨u.heap.size, 0, none⟩ = false := fun u => by simp
  exact h (w.drewN n)
theorem fresh_cell (w : World) (n : Nat) (v : Value) (t : TypeId) : ((w.drewN n).alloc (.cells #[v] t)).cell? ⟨w.heap.size, 0, none⟩ = some v := by
  have h : ∀ u : World, (u.alloc (.cells #[v] t)).cell? ⟨u.heap.size, 0, none⟩ = some v := fun u => by simp
  exact h (w.drewN n)
theorem fresh_set (w : World) (n : Nat) (v u : Value) (t : TypeId) : ((w.drewN n).alloc (.cells #[v] t)).setCell ⟨w.heap.size, 0, none⟩ u = (w.drewN n).alloc (.cells #[u] t) := by
  have h : ∀ W : World, (W.alloc (.cells #[v] t)).setCell ⟨W.heap.size, 0, none⟩ u = W.alloc (.cells #[u] t) := fun W => by rw [World.setCell_alloc_at _ _ _ _ _ rfl]; rfl
  exact h (w.drewN n)
theorem fresh_old (w : World) (n : Nat) (v : Value) (t : TypeId) {a : Addr} {x : Value} (h : w.cell? a = some x) : ((w.drewN n).alloc (.cells #[v] t)).cell? a = some x := by
  have hb := World.block_lt_of_cell? w a h
  have e : (w.drewN n).cell? a = w.cell? a := rfl
  rw [← h, ← e]
  exact World.cell?_alloc_old _ _ _ (by show a.block ≠ w.heap.size; omega)
theorem about_le (b r x : Int) (hb : 0 ≤ b) (hr : 0 ≤ r) (hbx : b ≤ x) : 0 ≤ aboutS b r x ∧ aboutS b r x ≤ x := by
  unfold aboutS
  refine ⟨Int.ediv_nonneg (by omega) (by omega), ?_⟩
  have h : (x - b) * 1000000 / (1000000 + r) ≤ (x - b) := by
    refine Int.ediv_le_of_le_mul (by omega) ?_
    exact Int.mul_le_mul_of_nonneg_left (by omega) (by omega)
  omega
theorem pmono {x y r : Int} (h : x ≤ y) (r0 : 0 ≤ r) : x * r / 1000000 ≤ y * r / 1000000 := by
  have : x * r ≤ y * r := Int.mul_le_mul_of_nonneg_right h r0
  omega
theorem over_is (b r x y : Int) (hm : mayS b r = true) (h0 : 0 ≤ y) (hy : I64 y) (hx : x ≤ 9223372036854775807) : over b r x y = decide (y + (b + y * r / 1000000) > x) := by
  have m := hm
  unfold mayS at m
  have hm2 := of_decide_eq_true m
  obtain ⟨p1, p2, p3, p4⟩ := part_lt hy h0 hm2.2.1 hm2.2.2
  have hfee : feeS b r y = addS b (y * r / 1000000) := by unfold feeS; rw [if_pos ⟨hm, h0⟩]
  unfold over inS
  rw [hfee]
  generalize hP : y * r / 1000000 = p at *
  unfold I64 at hy
  by_cases ho : b + p > 9223372036854775807
  · have s1 : addS b p = (0, 20) := by unfold addS; rw [if_neg (by omega), if_pos ho]
    rw [s1]
    simp
    omega
  · have s1 : addS b p = (b + p, 0) := by unfold addS; rw [if_neg (by omega), if_neg ho]
    rw [s1]
    simp only [if_true]
    by_cases h2 : y + (b + p) > 9223372036854775807
    · have s2 : addS y (b + p) = (0, 20) := by unfold addS; rw [if_neg (by omega), if_pos h2]
      rw [s2]; simp; omega
    · have s2 : addS y (b + p) = (y + (b + p), 0) := by unfold addS; rw [if_neg (by omega), if_neg h2]
      rw [s2]; simp
theorem over_mono (b r x y z : Int) (hm : mayS b r = true) (h0 : 0 ≤ y) (hyz : y ≤ z) (hz : I64 z) (hx : x ≤ 9223372036854775807) (h : over b r x y = true) : over b r x z = true := by
  have m := hm
  unfold mayS at m
  have hm2 := of_decide_eq_true m
  have pm := pmono hyz hm2.2.1
  unfold I64 at hz
  rw [over_is b r x y hm h0 ⟨by omega, by omega⟩ hx] at h
  have h' := of_decide_eq_true h
  rw [over_is b r x z hm (by omega) hz hx]
  exact decide_eq_true (by omega)
set_option maxHeartbeats 8000000 in
set_option maxRecDepth 100000 in
theorem out_bad (b r x : Int) (w : World) (hm : mayS b r = false) : Calls Try.prog 25 #[.agg #[.int .i64 b, .int .i64 r], .int .i64 x] w fun e w' => e = .returned (.tuple #[.int .i64 0, .int .i64 1]) ∧ Below w.heap.size w w' := by
  have HM := Aside0.mk (by rw [may_f, hm] : amount_may.f b r = some false)
  clear hm
  have HW := Aside0.mk (Below.refl w.heap.size w)
  go_enter Try.func25, Try.ntmps25
  go_wp2_with (go_at_call 27; refine (amount_may.calls b r false _ HM.out).mono ?_; rintro e w' ⟨rfl, hb'⟩; have HB := Aside0.mk hb'; clear hb')
  go_ret2
  exact ⟨rfl, below_step (below_alloc (below_alloc (Below.refl _ _) _) _) HB.out⟩
set_option maxHeartbeats 8000000 in
set_option maxRecDepth 100000 in
theorem out_neg (b r x : Int) (w : World) (hm : mayS b r = true) (hx : x < 0) : Calls Try.prog 25 #[.agg #[.int .i64 b, .int .i64 r], .int .i64 x] w fun e w' => e = .returned (.tuple #[.int .i64 0, .int .i64 1]) ∧ Below w.heap.size w w' := by
  have HM := Aside0.mk (by rw [may_f, hm] : amount_may.f b r = some true)
  clear hm
  have hxb : decide (x < 0) = true := decide_eq_true hx
  go_enter Try.func25, Try.ntmps25
  go_wp2_with (go_at_call 27; refine (amount_may.calls b r true _ HM.out).mono ?_; rintro e w' ⟨rfl, hb'⟩; have HB := Aside0.mk hb'; have c1 := pw_cell_below hb' (show ((w.alloc (.cells #[.int .i64 b, .int .i64 r] 23)).alloc (.cells #[.int .i64 x] 3)).cell? ⟨w.heap.size + 1, 0, none⟩ = some (.int .i64 x) by simp); clear hb')
  go_ret2
  exact ⟨rfl, below_step (below_alloc (below_alloc (Below.refl _ _) _) _) HB.out⟩
set_option maxHeartbeats 8000000 in
set_option maxRecDepth 100000 in
theorem out_low (b r x : Int) (w : World) (hm : mayS b r = true) (hx : 0 ≤ x) (hxb : x < b) : Calls Try.prog 25 #[.agg #[.int .i64 b, .int .i64 r], .int .i64 x] w fun e w' => e = .returned (.tuple #[.int .i64 0, .int .i64 20]) ∧ Below w.heap.size w w' := by
  have HM := Aside0.mk (by rw [may_f, hm] : amount_may.f b r = some true)
  clear hm
  have hxn : decide (x < 0) = false := decide_eq_false (by omega)
  have hxl : decide (x < b) = true := decide_eq_true hxb
  go_enter Try.func25, Try.ntmps25
  go_wp2_with (go_at_call 27; refine (amount_may.calls b r true _ HM.out).mono ?_; rintro e w' ⟨rfl, hb'⟩; have HB := Aside0.mk hb'; have c1 := pw_cell_below hb' (show ((w.alloc (.cells #[.int .i64 b, .int .i64 r] 23)).alloc (.cells #[.int .i64 x] 3)).cell? ⟨w.heap.size + 1, 0, none⟩ = some (.int .i64 x) by simp); have c2 := pw_cell_below hb' (show ((w.alloc (.cells #[.int .i64 b, .int .i64 r] 23)).alloc (.cells #[.int .i64 x] 3)).cell? ⟨w.heap.size, 0, none⟩ = some (.int .i64 b) by simp); clear hb')
  go_ret2
  exact ⟨rfl, below_step (below_alloc (below_alloc (Below.refl _ _) _) _) HB.out⟩
set_option maxHeartbeats 8000000 in
set_option maxRecDepth 100000 in
theorem out_main (b r x : Int) (w : World) (hm : mayS b r = true) (hx : 0 ≤ x) (hxb : b ≤ x) (hx9 : x ≤ 9223372036854775807) (hb0 : 0 ≤ b) (hr0 : 0 ≤ r) (hr1 : r ≤ 1000000) :
    Calls Try.prog 25 #[.agg #[.int .i64 b, .int .i64 r], .int .i64 x] w fun e w' => e = .returned (.tuple #[.int .i64 (outS b r x).1, .int .i64 0]) ∧ Below w.heap.size w w' := by
  have HM := Aside0.mk (by rw [may_f, hm] : amount_may.f b r = some true)
  have hm' := hm
  clear hm
  have hxn : decide (x < 0) = false := decide_eq_false (by omega)
  have hxl : decide (x < b) = false := decide_eq_false (by omega)
  obtain ⟨M, hM⟩ : ∃ M, (x - b) * 1000000 = M := ⟨_, rfl⟩
  have HMul := Aside0.mk (by unfold bits_Mul64.f; rw [if_pos ⟨by omega, by omega, by omega, by omega⟩, hM] : bits_Mul64.f (x - b) 1000000 = some (M / 18446744073709551616, M % 18446744073709551616))
  have hab := about_le b r x hb0 hr0 hxb
  have HDiv := Aside0.mk (by rw [div64_any 0 (M / 18446744073709551616) (M % 18446744073709551616) (1000000 + r) (by omega) (by omega) (by omega) (by omega) (by omega) (by omega), show M / 18446744073709551616 * 18446744073709551616 + M % 18446744073709551616 = M by omega] : bits_Div64.f 6 (M / 18446744073709551616) (M % 18446744073709551616) (1000000 + r) = some (M / (1000000 + r), M % (1000000 + r)))
  obtain ⟨A, hA⟩ : ∃ A, M / (1000000 + r) = A := ⟨_, rfl⟩
  rw [hA] at HDiv
  have hA' : aboutS b r x = A := by unfold aboutS; rw [hM, hA]
  rw [hA'] at hab
  obtain ⟨A0, A1⟩ := hab
  have HA := Aside0.mk hA'
  clear hA' hA hM
  go_enter Try.func25, Try.ntmps25
  go_wp2_with (first | (go_at_call 27; refine (amount_may.calls b r true _ HM.out).mono ?_; rintro e w' ⟨rfl, hb'⟩; have HB := Aside0.mk hb'; have c1 := pw_cell_below hb' (show ((w.alloc (.cells #[.int .i64 b, .int .i64 r] 23)).alloc (.cells #[.int .i64 x] 3)).cell? ⟨w.heap.size + 1, 0, none⟩ = some (.int .i64 x) by simp); have c2 := pw_cell_below hb' (show ((w.alloc (.cells #[.int .i64 b, .int .i64 r] 23)).alloc (.cells #[.int .i64 x] 3)).cell? ⟨w.heap.size, 0, none⟩ = some (.int .i64 b) by simp); have c3 := pw_cell_below hb' (show ((w.alloc (.cells #[.int .i64 b, .int .i64 r] 23)).alloc (.cells #[.int .i64 x] 3)).cell? ⟨w.heap.size, 1, none⟩ = some (.int .i64 r) by simp); have fz := fresh_frozen w'; have fc := fresh_cell w'; have fs := fresh_set w'; have k1 := fun (n : Nat) (v : Value) (t : TypeId) => fresh_old w' n v t c1; have k2 := fun (n : Nat) (v : Value) (t : TypeId) => fresh_old w' n v t c2; have k3 := fun (n : Nat) (v : Value) (t : TypeId) => fresh_old w' n v t c3; clear hb') | (go_at_call 28; refine (bits_Mul64.calls (x - b) 1000000 _ _ _ HMul.out).mono ?_; rintro e w2 ⟨rfl, ⟨nd, rfl⟩⟩) | (go_at_call 29; refine (bits_Div64.calls 6 _ _ (1000000 + r) _ _ _ HDiv.out).mono ?_; rintro e w2 ⟨rfl, ⟨nd2, rfl⟩⟩))
  generalize hF : max (A - 2) 0 = F
  have hF' : firstS b r x = F := by unfold firstS; rw [HA.out]; exact hF
  have F0 : 0 ≤ F := by omega
  have F1 : F ≤ x := by omega
  obtain ⟨N, hN⟩ : ∃ N : Nat, min (x - F) 4 = (N : Int) := ⟨(min (x - F) 4).toNat, by omega⟩
  have hN' : roomS b r x = N := by unfold roomS; rw [hF', hN]; simp
  have hN4 : N ≤ 4 := by omega
  have hNx : F + N ≤ x := by omega
  rw [hN]
  have hout : (outS b r x).1 = F + steps (fun i => over b r x (F + i + 1)) N := by
    unfold outS
    rw [if_pos ⟨hm', hx⟩, if_neg (by omega), hF', hN']
  have HO := Aside0.mk hout
  generalize hW : (w'.drewN (nd + nd2)).alloc (.cells #[.int .i64 F] 3) = W
  have g1 : W.cell? ⟨w.heap.size, 0, none⟩ = some (.int .i64 b) := by rw [← hW]; exact k2 _ _ _
  have g2 : W.cell? ⟨w.heap.size, 1, none⟩ = some (.int .i64 r) := by rw [← hW]; exact k3 _ _ _
  have g3 : W.cell? ⟨w'.heap.size, 0, none⟩ = some (.int .i64 F) := by rw [← hW]; exact fc _ _ _
  have g4 : W.cell? ⟨w.heap.size + 1, 0, none⟩ = some (.int .i64 x) := by rw [← hW]; exact k1 _ _ _
  have HBW := Aside0.mk (by rw [← hW]; exact below_alloc (pw_below_drewN (below_step (below_alloc (below_alloc (Below.refl _ _) _) _) HB.out) _) _ : Below w.heap.size w W)
  clear hF hF' hN hN' hout hW k1 k2 k3 fc fs fz c1 c2 c3
  refine (search_any 33 _ N (fun i => over b r x (F + i + 1)) W (enters_of Try.func33 (by kernel_rfl) rfl) hN4 (fun W' i hi hb => ?_) (fun i j hij hj h => ?_)).mono ?_
  · exact asked b r x F (F + i + 1) _ _ _ W' ⟨by omega, by omega⟩ ⟨by omega, by omega⟩ ⟨by omega, by omega⟩ (pw_cell_below hb g1) (pw_cell_below hb g2) (pw_cell_below hb g3) (pw_cell_below hb g4) i (by omega) (by omega) F0 rfl
  · exact over_mono b r x _ _ hm' (by omega) (by omega) ⟨by omega, by omega⟩ (by omega) h
  · rintro e w3 ⟨q, rfl, q1, q2, q3, hb3⟩
    have g5 := pw_cell_below hb3 g3
    have HB3 := Aside0.mk hb3
    have hsum : F + (q : Int) ≤ 9223372036854775807 := by omega
    have hq := steps_eq (fun i => over b r x (F + i + 1)) N q q1 q2 (fun h => q3 q (Nat.le_refl _) h)
    have HQ := Aside0.mk hq
    clear hq q2 q3 hb3 g1 g2 g3 g4
    go_wp2
    go_ret2
    refine ⟨?_, below_step HBW.out HB3.out⟩
    show Ending.returned (.tuple #[.int .i64 (F + q), .int .i64 0]) = _
    rw [HO.out, HQ.out]
instance (x : Int) : Decidable (I64 x) := by unfold I64; infer_instance
def amount_Out.f (b r x : Int) : Option (Int × Int) := if I64 b ∧ I64 r ∧ I64 x then some (outS b r x) else none
theorem amount_Out.calls (b r x r1 r2 : Int) (w : World) (h : amount_Out.f b r x = some (r1, r2)) :
    Calls Try.prog 25 #[.agg #[.int .i64 b, .int .i64 r], .int .i64 x] w fun e w' => e = .returned (.tuple #[.int .i64 r1, .int .i64 r2]) ∧ Below w.heap.size w w' := by
  unfold amount_Out.f at h
  split at h
  · rename_i hb
    have h' := Option.some.inj h
    have e1 : r1 = (outS b r x).1 := by rw [h']
    have e2 : r2 = (outS b r x).2 := by rw [h']
    cases hm : mayS b r with
    | false =>
      have e : outS b r x = (0, 1) := by unfold outS; rw [if_neg (by rw [hm]; simp)]
      rw [e1, e2, e]
      exact out_bad b r x w hm
    | true =>
      by_cases hx : x < 0
      · have e : outS b r x = (0, 1) := by unfold outS; rw [if_neg (by omega)]
        rw [e1, e2, e]
        exact out_neg b r x w hm hx
      · by_cases hxb : x < b
        · have e : outS b r x = (0, 20) := by unfold outS; rw [if_pos ⟨hm, by omega⟩, if_pos hxb]
          rw [e1, e2, e]
          exact out_low b r x w hm (by omega) hxb
        · have e : (outS b r x).2 = 0 := by unfold outS; rw [if_pos ⟨hm, by omega⟩, if_neg hxb]
          have m := hm
          unfold mayS at m
          have hm2 := of_decide_eq_true m
          rw [e1, e2, e]
          exact out_main b r x w hm (by omega) (by omega) hb.2.2.2 hm2.1 hm2.2.1 hm2.2.2
  · cases h
end Go.Proofs.Ytlhafpkkgocpnaa.PA
