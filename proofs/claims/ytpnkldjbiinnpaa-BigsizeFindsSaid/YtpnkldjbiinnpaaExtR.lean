import Derived.Test.YtpnkldjbiinnpaaPC1
import Derived.Outline
import Derived.Shelf.RegionOpenPlain
import Derived.IntWalk
import Derived.Laws.BitsAllLaws
/- bigsize.Read by a contract. -/
namespace Go.Proofs.Ytpnkldjbiinnpaa.PC
open Go.RowKit Go.Proofs.YtpnkldjbiinnpaaW.PrintWords Go.Proofs.YtpnkldjbiinnpaaW.PrintLast Go.Proofs.YtpnkldjbiinnpaaW.PrintMore
set_option linter.unusedVariables false
set_option linter.unusedSimpArgs false

/-- bytes, the highest first, as a number -/
def be (l : List Int) : Int := l.foldl (fun x c => x * 256 + c) 0
def Bytes (l : List Int) : Prop := ∀ c ∈ l, 0 ≤ c ∧ c ≤ 255
def wideS (b : Int) : Nat := if b = 253 then 2 else if b = 254 then 4 else 8
def sizeS (x : Int) : Int := if x < 253 then 1 else if x ≤ 65535 then 3 else if x ≤ 4294967295 then 5 else 9
/-- the number with which bytes begin -/
def readS : List Int → Int × Int × Int
  | [] => (0, 0, 10)
  | b :: r => if b < 253 then (b, 1, 0) else if r.length < wideS b then (0, 0, 10) else if sizeS (be (r.take (wideS b))) = wideS b + 1 then (be (r.take (wideS b)), wideS b + 1, 0) else (0, 0, 10)
theorem be_snoc (l : List Int) (c : Int) : be (l ++ [c]) = be l * 256 + c := by unfold be; rw [List.foldl_append]; rfl
theorem be_from (l : List Int) (h : Bytes l) : ∀ x : Int, 0 ≤ x → 0 ≤ l.foldl (fun x c => x * 256 + c) x ∧ l.foldl (fun x c => x * 256 + c) x < (x + 1) * 256 ^ l.length := by
  induction l with
  | nil => intro x hx; simp; omega
  | cons c l ih =>
    intro x hx
    have hc := h c List.mem_cons_self
    have hz := ih (fun y hy => h y (List.mem_cons_of_mem _ hy)) (x * 256 + c) (by omega)
    refine ⟨hz.1, Int.lt_of_lt_of_le hz.2 ?_⟩
    rw [List.length_cons, Int.pow_succ, Int.mul_comm (256 ^ l.length) 256, ← Int.mul_assoc]
    exact Int.mul_le_mul_of_nonneg_right (by omega) (Int.le_of_lt (Int.pow_pos (by omega)))
theorem be_bound (l : List Int) (h : Bytes l) : 0 ≤ be l ∧ be l < 256 ^ l.length := by
  have := be_from l h 0 (by omega)
  rw [Int.zero_add, Int.one_mul] at this
  exact this
theorem size_f (x : Int) (h0 : 0 ≤ x) : bigsize_Size.f x = some (sizeS x) := by
  unfold bigsize_Size.f bigsize_width.f sizeS
  split
  · simp [wrap64]
  · split
    · simp [wrap64]
    · split <;> simp [wrap64]
theorem or_byte (x c : Int) (h0 : 0 ≤ x) (h1 : x * 256 + 255 ≤ 18446744073709551615) (c0 : 0 ≤ c) (c1 : c ≤ 255) : Go.bits .or .u64 (x * 256) c = x * 256 + c := by
  rw [u64_or _ _ (by omega) (by omega) (by omega) (by omega)]
  have a : (x * 256).toNat = x.toNat <<< 8 := by rw [Nat.shiftLeft_eq]; omega
  rw [a, ← Nat.shiftLeft_add_eq_or_of_lt (show c.toNat < 2 ^ 8 by omega), Nat.shiftLeft_eq]
  omega
theorem rd_take (l : List Int) (i n : Nat) (h : i < n) (hn : n ≤ l.length) : (l.take n).take (i + 1) = (l.take n).take i ++ [rd l i] := by
  rw [List.take_succ_eq_append_getElem (by rw [List.length_take]; omega)]
  congr 2
  unfold rd
  rw [Int.toNat_natCast, List.getD_eq_getElem?_getD, List.getElem?_eq_getElem (by omega), List.getElem_take]
  rfl
theorem rd_cons (b : Int) (r : List Int) (i : Nat) : rd (b :: r) ((i : Int) + 1) = rd r i := by
  unfold rd
  rw [show ((i : Int) + 1).toNat = i + 1 by omega, Int.toNat_natCast]
  rfl
theorem take_bytes {l : List Int} (h : Bytes l) (n : Nat) : Bytes (l.take n) := fun c hc => h c (List.mem_of_mem_take hc)
theorem rd_byte {l : List Int} (h : Bytes l) (i : Nat) (hi : i < l.length) : 0 ≤ rd l i ∧ rd l i ≤ 255 := by
  unfold rd
  rw [Int.toNat_natCast, List.getD_eq_getElem?_getD, List.getElem?_eq_getElem hi]
  exact h _ (List.getElem_mem hi)

set_option maxHeartbeats 4000000 in
set_option maxRecDepth 100000 in
theorem read_nil (A : Option Addr) (c : Nat) (w : World) : Calls Try.prog 15 #[.slice A 0 c] w fun e w' => e = .returned (.tuple #[.int .u64 0, .int .i64 0, .int .i64 10]) ∧ w = w' := by
  go_enter Try.func15, Try.ntmps15
  go_wp2
  go_ret3
  exact ⟨rfl, rfl⟩
set_option maxHeartbeats 4000000 in
set_option maxRecDepth 100000 in
theorem read_low (A : Addr) (n c : Nat) (b : Int) (w : World) (hn : 0 < n) (hb0 : 0 ≤ b) (hb : b < 253) (hc : w.cell? A = some (.int .u8 b)) :
    Calls Try.prog 15 #[.slice (some A) n c] w fun e w' => e = .returned (.tuple #[.int .u64 b, .int .i64 1, .int .i64 0]) ∧ w = w' := by
  have h0 : ((n : Int) == 0) = false := by rw [beq_eq_false_iff_ne]; omega
  have h1 : decide (b < 253) = true := decide_eq_true hb
  have h2 : (0 : Int) < n := by omega
  go_enter Try.func15, Try.ntmps15
  go_wp2
  go_ret3
  exact ⟨rfl, rfl⟩

set_option maxHeartbeats 4000000 in
set_option maxRecDepth 100000 in
theorem read_short_2 (A : Addr) (n c : Nat) (w : World) (hn : 0 < n) (hl : n ≤ 2) (hc : w.cell? A = some (.int .u8 253)) :
    Calls Try.prog 15 #[.slice (some A) n c] w fun e w' => e = .returned (.tuple #[.int .u64 0, .int .i64 0, .int .i64 10]) ∧ w = w' := by
  have h0 : ((n : Int) == 0) = false := by rw [beq_eq_false_iff_ne]; omega
  have h1 : decide ((n : Int) ≤ 2) = true := decide_eq_true (by omega)
  have h2 : (0 : Int) < n := by omega
  go_enter Try.func15, Try.ntmps15
  go_wp2
  go_ret3
  exact ⟨rfl, rfl⟩
set_option maxHeartbeats 4000000 in
set_option maxRecDepth 100000 in
theorem read_long_2 (A : Addr) (r : List Int) (c : Nat) (w : World) (hl : 2 ≤ r.length) (hlm : r.length ≤ 9223372036854775806) (hcap : r.length + 1 ≤ c) (hby : Bytes r) (hc : w.cell? A = some (.int .u8 253)) (hcs : ∀ i, i < 2 → w.cell? ⟨A.block, A.off + 1 + i, none⟩ = some (.int .u8 (rd r i)))
    (r1 r2 r3 : Int) (hres : (if sizeS (be (r.take 2)) = 3 then (be (r.take 2), 3, 0) else (0, 0, 10)) = (r1, r2, r3)) :
    Calls Try.prog 15 #[.slice (some A) (r.length + 1) c] w fun e w' => e = .returned (.tuple #[.int .u64 r1, .int .i64 r2, .int .i64 r3]) ∧ Drawn0 w w' := by
  have hbd := be_bound (r.take 2) (take_bytes hby 2)
  rw [List.length_take, Nat.min_eq_left hl] at hbd
  have hsz := size_f (be (r.take 2)) hbd.1
  have HS := Aside0.mk hsz
  have HR := Aside0.mk hres
  clear hres
  have HCS := Aside0.mk hcs
  have HBY := Aside0.mk hby
  clear hsz hcs hby
  have h0 : (((r.length + 1 : Nat) : Int) == 0) = false := by rw [beq_eq_false_iff_ne]; omega
  have h1 : decide (((r.length + 1 : Nat) : Int) ≤ 2) = false := decide_eq_false (by omega)
  have h2 : (0 : Int) < ((r.length + 1 : Nat) : Int) := by omega
  have h3 : (3 : Int) ≤ ((r.length + 1 : Nat) : Int) := by omega
  have h4 : (3 : Int) ≤ (c : Int) := by omega
  go_enter Try.func15, Try.ntmps15
  go_wp2
  go_loop [6, 34] (fun s6 s34 => ∃ (x : Int) (i : Nat), s6 = .int .u64 x ∧ s34 = .int .i64 i ∧ i ≤ 2 ∧ Aside0 (x = be ((r.take 2).take i))) (fun _ s34 => (2 - intOf s34).toNat)
  case atStart => exact ⟨0, 0, rfl, rfl, by omega, ⟨rfl⟩⟩
  case round =>
    obtain ⟨x, i, rfl, rfl, hi, HX⟩ := hrel
    by_cases hlt : i < 2
    · have hcell := HCS.out i hlt
      have hb := rd_byte HBY.out i (by omega)
      have hx := be_bound ((r.take 2).take i) (take_bytes (take_bytes HBY.out _) _)
      rw [← HX.out] at hx
      have hlen : ((r.take 2).take i).length = i := by rw [List.length_take, List.length_take]; omega
      rw [hlen] at hx
      have hx256 : x * 256 + 255 ≤ 18446744073709551615 := by
        have : (256 : Int) ^ i ≤ 256 ^ 1 := by
          have z : ((256 ^ i : Nat) : Int) ≤ ((256 ^ 1 : Nat) : Int) := Int.ofNat_le.2 (Nat.pow_le_pow_right (by omega) (by omega))
          simpa using z
        omega
      have hnext := or_byte x (rd r i) hx.1 hx256 hb.1 hb.2
      have HN := Aside0.mk (show x * 256 + rd r i = be ((r.take 2).take (i + 1)) by rw [rd_take r i 2 hlt hl, be_snoc, ← HX.out])
      generalize rd r i = c1 at *
      have hx0 := hx.1
      clear hx hlen
      go_wp2
      go_round
      case rel => exact ⟨_, i + 1, rfl, by go_num, by omega, HN⟩
      case measure => simp [intOf]; omega
    · obtain rfl : i = 2 := by omega
      have HX2 := Aside0.mk (show x = be (r.take 2) by rw [HX.out, List.take_take, Nat.min_self])
      have hxe := HX2.out
      rw [← hxe] at HS hbd
      clear HX hxe
      by_cases hs : sizeS x = 3
      · have hs1 : (sizeS x != 3) = false := by rw [bne_eq_false_iff_eq]; exact hs
        have HE := Aside0.mk hs
        clear hs
        go_wp2_with (go_at_call 14; refine (bigsize_Size.calls x _ _ HS.out).mono ?_; rintro e w' ⟨rfl, ⟨nd, rfl⟩⟩)
        go_ret3
        refine ⟨?_, ⟨⟨nd, rfl⟩⟩⟩
        have hr := HR.out
        rw [← HX2.out, if_pos HE.out] at hr
        simp only [Prod.mk.injEq] at hr
        obtain ⟨rfl, rfl, rfl⟩ := hr
        rfl
      · have hs1 : (sizeS x != 3) = true := by rw [bne_iff_ne]; exact hs
        have HE := Aside0.mk hs
        clear hs
        go_wp2_with (go_at_call 14; refine (bigsize_Size.calls x _ _ HS.out).mono ?_; rintro e w' ⟨rfl, ⟨nd, rfl⟩⟩)
        go_ret3
        refine ⟨?_, ⟨⟨nd, rfl⟩⟩⟩
        have hr := HR.out
        rw [← HX2.out, if_neg HE.out] at hr
        simp only [Prod.mk.injEq] at hr
        obtain ⟨rfl, rfl, rfl⟩ := hr
        rfl

set_option maxHeartbeats 4000000 in
set_option maxRecDepth 100000 in
theorem read_short_4 (A : Addr) (n c : Nat) (w : World) (hn : 0 < n) (hl : n ≤ 4) (hc : w.cell? A = some (.int .u8 254)) :
    Calls Try.prog 15 #[.slice (some A) n c] w fun e w' => e = .returned (.tuple #[.int .u64 0, .int .i64 0, .int .i64 10]) ∧ w = w' := by
  have h0 : ((n : Int) == 0) = false := by rw [beq_eq_false_iff_ne]; omega
  have h1 : decide ((n : Int) ≤ 4) = true := decide_eq_true (by omega)
  have h2 : (0 : Int) < n := by omega
  go_enter Try.func15, Try.ntmps15
  go_wp2
  go_ret3
  exact ⟨rfl, rfl⟩
set_option maxHeartbeats 4000000 in
set_option maxRecDepth 100000 in
theorem read_long_4 (A : Addr) (r : List Int) (c : Nat) (w : World) (hl : 4 ≤ r.length) (hlm : r.length ≤ 9223372036854775806) (hcap : r.length + 1 ≤ c) (hby : Bytes r) (hc : w.cell? A = some (.int .u8 254)) (hcs : ∀ i, i < 4 → w.cell? ⟨A.block, A.off + 1 + i, none⟩ = some (.int .u8 (rd r i)))
    (r1 r2 r3 : Int) (hres : (if sizeS (be (r.take 4)) = 5 then (be (r.take 4), 5, 0) else (0, 0, 10)) = (r1, r2, r3)) :
    Calls Try.prog 15 #[.slice (some A) (r.length + 1) c] w fun e w' => e = .returned (.tuple #[.int .u64 r1, .int .i64 r2, .int .i64 r3]) ∧ Drawn0 w w' := by
  have hbd := be_bound (r.take 4) (take_bytes hby 4)
  rw [List.length_take, Nat.min_eq_left hl] at hbd
  have hsz := size_f (be (r.take 4)) hbd.1
  have HS := Aside0.mk hsz
  have HR := Aside0.mk hres
  clear hres
  have HCS := Aside0.mk hcs
  have HBY := Aside0.mk hby
  clear hsz hcs hby
  have h0 : (((r.length + 1 : Nat) : Int) == 0) = false := by rw [beq_eq_false_iff_ne]; omega
  have h1 : decide (((r.length + 1 : Nat) : Int) ≤ 4) = false := decide_eq_false (by omega)
  have h2 : (0 : Int) < ((r.length + 1 : Nat) : Int) := by omega
  have h3 : (5 : Int) ≤ ((r.length + 1 : Nat) : Int) := by omega
  have h4 : (5 : Int) ≤ (c : Int) := by omega
  go_enter Try.func15, Try.ntmps15
  go_wp2
  go_loop [6, 34] (fun s6 s34 => ∃ (x : Int) (i : Nat), s6 = .int .u64 x ∧ s34 = .int .i64 i ∧ i ≤ 4 ∧ Aside0 (x = be ((r.take 4).take i))) (fun _ s34 => (4 - intOf s34).toNat)
  case atStart => exact ⟨0, 0, rfl, rfl, by omega, ⟨rfl⟩⟩
  case round =>
    obtain ⟨x, i, rfl, rfl, hi, HX⟩ := hrel
    by_cases hlt : i < 4
    · have hcell := HCS.out i hlt
      have hb := rd_byte HBY.out i (by omega)
      have hx := be_bound ((r.take 4).take i) (take_bytes (take_bytes HBY.out _) _)
      rw [← HX.out] at hx
      have hlen : ((r.take 4).take i).length = i := by rw [List.length_take, List.length_take]; omega
      rw [hlen] at hx
      have hx256 : x * 256 + 255 ≤ 18446744073709551615 := by
        have : (256 : Int) ^ i ≤ 256 ^ 3 := by
          have z : ((256 ^ i : Nat) : Int) ≤ ((256 ^ 3 : Nat) : Int) := Int.ofNat_le.2 (Nat.pow_le_pow_right (by omega) (by omega))
          simpa using z
        omega
      have hnext := or_byte x (rd r i) hx.1 hx256 hb.1 hb.2
      have HN := Aside0.mk (show x * 256 + rd r i = be ((r.take 4).take (i + 1)) by rw [rd_take r i 4 hlt hl, be_snoc, ← HX.out])
      generalize rd r i = c1 at *
      have hx0 := hx.1
      clear hx hlen
      go_wp2
      go_round
      case rel => exact ⟨_, i + 1, rfl, by go_num, by omega, HN⟩
      case measure => simp [intOf]; omega
    · obtain rfl : i = 4 := by omega
      have HX2 := Aside0.mk (show x = be (r.take 4) by rw [HX.out, List.take_take, Nat.min_self])
      have hxe := HX2.out
      rw [← hxe] at HS hbd
      clear HX hxe
      by_cases hs : sizeS x = 5
      · have hs1 : (sizeS x != 5) = false := by rw [bne_eq_false_iff_eq]; exact hs
        have HE := Aside0.mk hs
        clear hs
        go_wp2_with (go_at_call 14; refine (bigsize_Size.calls x _ _ HS.out).mono ?_; rintro e w' ⟨rfl, ⟨nd, rfl⟩⟩)
        go_ret3
        refine ⟨?_, ⟨⟨nd, rfl⟩⟩⟩
        have hr := HR.out
        rw [← HX2.out, if_pos HE.out] at hr
        simp only [Prod.mk.injEq] at hr
        obtain ⟨rfl, rfl, rfl⟩ := hr
        rfl
      · have hs1 : (sizeS x != 5) = true := by rw [bne_iff_ne]; exact hs
        have HE := Aside0.mk hs
        clear hs
        go_wp2_with (go_at_call 14; refine (bigsize_Size.calls x _ _ HS.out).mono ?_; rintro e w' ⟨rfl, ⟨nd, rfl⟩⟩)
        go_ret3
        refine ⟨?_, ⟨⟨nd, rfl⟩⟩⟩
        have hr := HR.out
        rw [← HX2.out, if_neg HE.out] at hr
        simp only [Prod.mk.injEq] at hr
        obtain ⟨rfl, rfl, rfl⟩ := hr
        rfl

set_option maxHeartbeats 4000000 in
set_option maxRecDepth 100000 in
theorem read_short_8 (A : Addr) (n c : Nat) (w : World) (hn : 0 < n) (hl : n ≤ 8) (hc : w.cell? A = some (.int .u8 255)) :
    Calls Try.prog 15 #[.slice (some A) n c] w fun e w' => e = .returned (.tuple #[.int .u64 0, .int .i64 0, .int .i64 10]) ∧ w = w' := by
  have h0 : ((n : Int) == 0) = false := by rw [beq_eq_false_iff_ne]; omega
  have h1 : decide ((n : Int) ≤ 8) = true := decide_eq_true (by omega)
  have h2 : (0 : Int) < n := by omega
  go_enter Try.func15, Try.ntmps15
  go_wp2
  go_ret3
  exact ⟨rfl, rfl⟩
set_option maxHeartbeats 4000000 in
set_option maxRecDepth 100000 in
theorem read_long_8 (A : Addr) (r : List Int) (c : Nat) (w : World) (hl : 8 ≤ r.length) (hlm : r.length ≤ 9223372036854775806) (hcap : r.length + 1 ≤ c) (hby : Bytes r) (hc : w.cell? A = some (.int .u8 255)) (hcs : ∀ i, i < 8 → w.cell? ⟨A.block, A.off + 1 + i, none⟩ = some (.int .u8 (rd r i)))
    (r1 r2 r3 : Int) (hres : (if sizeS (be (r.take 8)) = 9 then (be (r.take 8), 9, 0) else (0, 0, 10)) = (r1, r2, r3)) :
    Calls Try.prog 15 #[.slice (some A) (r.length + 1) c] w fun e w' => e = .returned (.tuple #[.int .u64 r1, .int .i64 r2, .int .i64 r3]) ∧ Drawn0 w w' := by
  have hbd := be_bound (r.take 8) (take_bytes hby 8)
  rw [List.length_take, Nat.min_eq_left hl] at hbd
  have hsz := size_f (be (r.take 8)) hbd.1
  have HS := Aside0.mk hsz
  have HR := Aside0.mk hres
  clear hres
  have HCS := Aside0.mk hcs
  have HBY := Aside0.mk hby
  clear hsz hcs hby
  have h0 : (((r.length + 1 : Nat) : Int) == 0) = false := by rw [beq_eq_false_iff_ne]; omega
  have h1 : decide (((r.length + 1 : Nat) : Int) ≤ 8) = false := decide_eq_false (by omega)
  have h2 : (0 : Int) < ((r.length + 1 : Nat) : Int) := by omega
  have h3 : (9 : Int) ≤ ((r.length + 1 : Nat) : Int) := by omega
  have h4 : (9 : Int) ≤ (c : Int) := by omega
  go_enter Try.func15, Try.ntmps15
  go_wp2
  go_loop [6, 34] (fun s6 s34 => ∃ (x : Int) (i : Nat), s6 = .int .u64 x ∧ s34 = .int .i64 i ∧ i ≤ 8 ∧ Aside0 (x = be ((r.take 8).take i))) (fun _ s34 => (8 - intOf s34).toNat)
  case atStart => exact ⟨0, 0, rfl, rfl, by omega, ⟨rfl⟩⟩
  case round =>
    obtain ⟨x, i, rfl, rfl, hi, HX⟩ := hrel
    by_cases hlt : i < 8
    · have hcell := HCS.out i hlt
      have hb := rd_byte HBY.out i (by omega)
      have hx := be_bound ((r.take 8).take i) (take_bytes (take_bytes HBY.out _) _)
      rw [← HX.out] at hx
      have hlen : ((r.take 8).take i).length = i := by rw [List.length_take, List.length_take]; omega
      rw [hlen] at hx
      have hx256 : x * 256 + 255 ≤ 18446744073709551615 := by
        have : (256 : Int) ^ i ≤ 256 ^ 7 := by
          have z : ((256 ^ i : Nat) : Int) ≤ ((256 ^ 7 : Nat) : Int) := Int.ofNat_le.2 (Nat.pow_le_pow_right (by omega) (by omega))
          simpa using z
        omega
      have hnext := or_byte x (rd r i) hx.1 hx256 hb.1 hb.2
      have HN := Aside0.mk (show x * 256 + rd r i = be ((r.take 8).take (i + 1)) by rw [rd_take r i 8 hlt hl, be_snoc, ← HX.out])
      generalize rd r i = c1 at *
      have hx0 := hx.1
      clear hx hlen
      go_wp2
      go_round
      case rel => exact ⟨_, i + 1, rfl, by go_num, by omega, HN⟩
      case measure => simp [intOf]; omega
    · obtain rfl : i = 8 := by omega
      have HX2 := Aside0.mk (show x = be (r.take 8) by rw [HX.out, List.take_take, Nat.min_self])
      have hxe := HX2.out
      rw [← hxe] at HS hbd
      clear HX hxe
      by_cases hs : sizeS x = 9
      · have hs1 : (sizeS x != 9) = false := by rw [bne_eq_false_iff_eq]; exact hs
        have HE := Aside0.mk hs
        clear hs
        go_wp2_with (go_at_call 14; refine (bigsize_Size.calls x _ _ HS.out).mono ?_; rintro e w' ⟨rfl, ⟨nd, rfl⟩⟩)
        go_ret3
        refine ⟨?_, ⟨⟨nd, rfl⟩⟩⟩
        have hr := HR.out
        rw [← HX2.out, if_pos HE.out] at hr
        simp only [Prod.mk.injEq] at hr
        obtain ⟨rfl, rfl, rfl⟩ := hr
        rfl
      · have hs1 : (sizeS x != 9) = true := by rw [bne_iff_ne]; exact hs
        have HE := Aside0.mk hs
        clear hs
        go_wp2_with (go_at_call 14; refine (bigsize_Size.calls x _ _ HS.out).mono ?_; rintro e w' ⟨rfl, ⟨nd, rfl⟩⟩)
        go_ret3
        refine ⟨?_, ⟨⟨nd, rfl⟩⟩⟩
        have hr := HR.out
        rw [← HX2.out, if_neg HE.out] at hr
        simp only [Prod.mk.injEq] at hr
        obtain ⟨rfl, rfl, rfl⟩ := hr
        rfl

theorem add_one_add (A : Addr) (i : Nat) : (A.add (i + 1)) = ⟨A.block, A.off + 1 + i, none⟩ := by
  unfold Addr.add
  rw [if_neg (by omega)]
  congr 1
  omega
instance (l : List Int) : Decidable (Bytes l) := by unfold Bytes; infer_instance
def bigsize_Read.f (l : List Int) : Option (Int × Int × Int) := if Bytes l ∧ l.length ≤ 9223372036854775807 then some (readS l) else none
theorem bigsize_Read.calls (A0 : Option Addr) (c0 : Nat) (l0 : List Int) (r1 r2 r3 : Int) (w : World) (hr0 : Kd.C (Kd.int .u8) w A0 l0.length l0) (hc0 : l0.length ≤ c0) (h : bigsize_Read.f l0 = some (r1, r2, r3)) :
    Calls Try.prog 15 #[.slice A0 l0.length c0] w fun e w' => e = .returned (.tuple #[.int .u64 r1, .int .i64 r2, .int .i64 r3]) ∧ Drawn0 w w' := by
  unfold bigsize_Read.f at h
  split at h
  · rename_i hb
    obtain ⟨hby, hlen⟩ := hb
    have h' := Option.some.inj h
    clear h
    cases l0 with
    | nil =>
      simp only [readS, Prod.mk.injEq] at h'
      obtain ⟨rfl, rfl, rfl⟩ := h'
      refine (read_nil A0 c0 w).mono ?_
      rintro e w' ⟨rfl, rfl⟩
      exact ⟨rfl, Drawn0.refl _⟩
    | cons b r =>
      rw [List.length_cons] at hlen hc0
      obtain ⟨A, rfl, hcell⟩ := Kd.at_int hr0 0 (by omega) (by simp)
      have hb0 := hby b List.mem_cons_self
      have hbr : Bytes r := fun c hc => hby c (List.mem_cons_of_mem _ hc)
      have hc : w.cell? A = some (.int .u8 b) := by
        rw [show ((0 : Int)).toNat = 0 from rfl, Addr.add_zero'] at hcell
        exact hcell
      have hcs : ∀ n, n ≤ r.length → ∀ i, i < n → w.cell? ⟨A.block, A.off + 1 + i, none⟩ = some (.int .u8 (rd r i)) := by
        intro n hn i hi
        obtain ⟨A', e, hz⟩ := Kd.at_int hr0 (i + 1) (by omega) (by simp; omega)
        injection e with e
        subst e
        rw [show ((i : Int) + 1).toNat = i + 1 by omega, add_one_add, rd_cons] at hz
        exact hz
      rw [readS] at h'
      by_cases h1 : b < 253
      · rw [if_pos h1] at h'
        simp only [Prod.mk.injEq] at h'
        obtain ⟨rfl, rfl, rfl⟩ := h'
        refine (read_low A (r.length + 1) c0 b w (by omega) hb0.1 h1 hc).mono ?_
        rintro e w' ⟨rfl, rfl⟩
        exact ⟨rfl, Drawn0.refl _⟩
      · rw [if_neg h1] at h'
        by_cases h2 : r.length < wideS b
        · rw [if_pos h2] at h'
          simp only [Prod.mk.injEq] at h'
          obtain ⟨rfl, rfl, rfl⟩ := h'
          have hs : b = 253 ∨ b = 254 ∨ b = 255 := by omega
          rcases hs with rfl | rfl | rfl
          · refine (read_short_2 A (r.length + 1) c0 w (by omega) (by simp [wideS] at h2; omega) hc).mono ?_
            rintro e w' ⟨rfl, rfl⟩
            exact ⟨rfl, Drawn0.refl _⟩
          · refine (read_short_4 A (r.length + 1) c0 w (by omega) (by simp [wideS] at h2; omega) hc).mono ?_
            rintro e w' ⟨rfl, rfl⟩
            exact ⟨rfl, Drawn0.refl _⟩
          · refine (read_short_8 A (r.length + 1) c0 w (by omega) (by simp [wideS] at h2; omega) hc).mono ?_
            rintro e w' ⟨rfl, rfl⟩
            exact ⟨rfl, Drawn0.refl _⟩
        · rw [if_neg h2] at h'
          have hs : b = 253 ∨ b = 254 ∨ b = 255 := by omega
          rcases hs with rfl | rfl | rfl
          · have hw : wideS 253 = 2 := by decide
            rw [hw] at h' h2
            exact read_long_2 A r c0 w (by omega) (by omega) hc0 hbr hc (hcs 2 (by omega)) r1 r2 r3 h'
          · have hw : wideS 254 = 4 := by decide
            rw [hw] at h' h2
            exact read_long_4 A r c0 w (by omega) (by omega) hc0 hbr hc (hcs 4 (by omega)) r1 r2 r3 h'
          · have hw : wideS 255 = 8 := by decide
            rw [hw] at h' h2
            exact read_long_8 A r c0 w (by omega) (by omega) hc0 hbr hc (hcs 8 (by omega)) r1 r2 r3 h'
  · cases h
end Go.Proofs.Ytpnkldjbiinnpaa.PC
