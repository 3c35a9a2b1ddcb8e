import Derived.Test.YtpnkldjbiinnpaaExtB
import Derived.Test.YtpnkldjbiinnpaaExtR
import Derived.Test.YtpnkldjbiinnpaaPC1
/- What bigsize's functions come to, in plain numbers. -/
namespace Go.Proofs.Ytpnkldjbiinnpaa.PC
open Go.RowKit Go.Proofs.YtpnkldjbiinnpaaW.PrintWords Go.Proofs.YtpnkldjbiinnpaaW.PrintLast Go.Proofs.YtpnkldjbiinnpaaW.PrintMore
set_option linter.unusedVariables false
set_option linter.unusedSimpArgs false

def I64' (x : Int) : Prop := -9223372036854775808 ≤ x ∧ x ≤ 9223372036854775807
theorem wrap64_of {x : Int} (h : I64' x) : wrap64 x = x := by unfold I64' at h; unfold wrap64; omega
theorem wrapU_of {x : Int} (h0 : 0 ≤ x) (h1 : x ≤ 18446744073709551615) : IntKind.u64.wrap x = x := by rw [IntKind.wrap_u64]; omega
theorem U64_iff (x : Int) : (Lit.int .u64 x).wf = true ↔ 0 ≤ x ∧ x ≤ 18446744073709551615 := by
  simp [Lit.wf, IntKind.min, IntKind.max, IntKind.bits, IntKind.signed]
theorem U8_iff (x : Int) : (Lit.int .u8 x).wf = true ↔ 0 ≤ x ∧ x ≤ 255 := by
  simp [Lit.wf, IntKind.min, IntKind.max, IntKind.bits, IntKind.signed]
theorem readS_cons (b : Int) (r : List Int) : readS (b :: r) = if b < 253 then (b, 1, 0) else if r.length < wideS b then (0, 0, 10) else if sizeS (be (r.take (wideS b))) = wideS b + 1 then (be (r.take (wideS b)), (wideS b : Int) + 1, 0) else (0, 0, 10) := rfl
theorem emod_split (x : Int) (h : 0 ≤ x) (j : Nat) : x % 256 ^ (j + 1) = x / 256 ^ j % 256 * 256 ^ j + x % 256 ^ j := by
  obtain ⟨n, rfl⟩ := Int.eq_ofNat_of_zero_le h
  have := @Nat.mod_mul (256 ^ j) 256 n
  rw [← Nat.pow_succ] at this
  have z : ((n % 256 ^ (j + 1) : Nat) : Int) = ((n % 256 ^ j + 256 ^ j * (n / 256 ^ j % 256) : Nat) : Int) := by rw [this]
  rw [Int.natCast_add, Int.natCast_mul, Int.natCast_emod, Int.natCast_emod, Int.natCast_emod, Int.natCast_ediv, Int.natCast_pow, Int.natCast_pow] at z
  show (n : Int) % ((256 : Nat) : Int) ^ (j + 1) = _
  rw [z, Int.mul_comm, Int.add_comm]; rfl
theorem be_tail (x : Int) (h : 0 ≤ x) : ∀ (n : Nat) (a : Int), (tailS n x).foldl (fun x c => x * 256 + c) a = a * 256 ^ n + x % 256 ^ n
  | 0, a => by simp [tailS]
  | n + 1, a => by
    unfold tailS
    rw [List.foldl_cons, be_tail x h n, emod_split x h n, Int.pow_succ, Int.add_mul, Int.mul_assoc, Int.mul_comm 256, Int.add_assoc]
theorem be_tailS (x : Int) (h : 0 ≤ x) (n : Nat) (hx : x < 256 ^ n) : be (tailS n x) = x := by
  unfold be
  rw [be_tail x h, Int.zero_mul, Int.zero_add, Int.emod_eq_of_lt h hx]
theorem tailS_bytes (x : Int) (h : 0 ≤ x) (n : Nat) : Bytes (tailS n x) := by
  induction n with
  | zero => intro c hc; simp [tailS] at hc
  | succ n ih =>
    intro c hc
    unfold tailS at hc
    rcases List.mem_cons.1 hc with rfl | hc
    · omega
    · exact ih c hc
theorem numS_bytes (x : Int) (h : 0 ≤ x) : Bytes (numS x) := by
  unfold numS
  split
  · intro c hc; simp at hc; omega
  · split
    · intro c hc; rcases List.mem_cons.1 hc with rfl | hc; (· omega); exact tailS_bytes x h _ c hc
    · split
      · intro c hc; rcases List.mem_cons.1 hc with rfl | hc; (· omega); exact tailS_bytes x h _ c hc
      · intro c hc; rcases List.mem_cons.1 hc with rfl | hc; (· omega); exact tailS_bytes x h _ c hc
theorem numS_len (x : Int) : ((numS x).length : Int) = sizeS x := by
  unfold numS sizeS
  split
  · rfl
  · split
    · rw [List.length_cons, tailS_len]; rfl
    · split <;> (rw [List.length_cons, tailS_len]; rfl)
theorem readS_num (x : Int) (h : 0 ≤ x) (h1 : x ≤ 18446744073709551615) (t : List Int) : readS (numS x ++ t) = (x, ((numS x).length : Int), 0) := by
  rw [numS_len]
  have key : ∀ (b : Int) (n : Nat), ¬ b < 253 → wideS b = n → x < 256 ^ n → sizeS x = n + 1 → readS (b :: tailS n x ++ t) = (x, sizeS x, 0) := by
    intro b n hb hw hx hs
    rw [List.cons_append, readS_cons]
    have ht : (tailS n x ++ t).take n = tailS n x := by
      have := @List.take_left _ (tailS n x) t
      rwa [tailS_len] at this
    have hl : ¬ (tailS n x ++ t).length < n := by rw [List.length_append, tailS_len]; omega
    rw [if_neg hb, hw, if_neg hl, ht, be_tailS x h n hx, if_pos hs, hs]
  unfold numS
  split
  · rename_i h2
    simp [readS, sizeS, h2]
  · rename_i h2
    split
    · rename_i h3
      exact key 253 2 (by omega) rfl (by omega) (by unfold sizeS; rw [if_neg h2, if_pos h3]; rfl)
    · rename_i h3
      split
      · rename_i h4
        exact key 254 4 (by omega) rfl (by omega) (by unfold sizeS; rw [if_neg h2, if_neg h3, if_pos h4]; rfl)
      · rename_i h4
        exact key 255 8 (by omega) rfl (by omega) (by unfold sizeS; rw [if_neg h2, if_neg h3, if_neg h4]; rfl)
theorem num_l (x : Int) (h0 : 0 ≤ x) : ∀ (n k : Nat) (acc : List Int), n ≤ 8 → acc.length + n ≤ 100 → tollhouseref01_Number.l0 (k + n + 1) x acc ((n : Int) - 1) = some (acc ++ tailS n x)
  | 0, k, acc, _, _ => by
    unfold tollhouseref01_Number.l0
    rw [if_neg (by omega)]; simp [tailS]
  | n + 1, k, acc, hn, ha => by
    have e : ((n + 1 : Nat) : Int) - 1 = n := by omega
    rw [e]
    unfold tollhouseref01_Number.l0
    rw [if_pos (by omega), wrap64_of (x := 8 * (n : Int)) ⟨by omega, by omega⟩, if_pos (by omega), if_pos (by omega), wrap64_of (x := (n : Int) - 1) ⟨by omega, by omega⟩]
    have sh : shr .u64 x (8 * (n : Int)) = x / 256 ^ n := by
      unfold shr
      rw [show (8 * (n : Int)).toNat = 8 * n by omega, Nat.min_eq_left (by show 8 * n ≤ 64; omega), Int.pow_mul]
      rfl
    rw [sh, show k + (n + 1) = k + n + 1 by omega, num_l x h0 n k _ (by omega) (by simp; omega)]
    simp [tailS]
theorem num_f (x : Int) (h0 : 0 ≤ x) (k : Nat) : tollhouseref01_Number.f (k + 10) x = some (numS x) := by
  unfold tollhouseref01_Number.f numS
  split
  · rename_i h; rw [show x % 256 = x by omega]
  · have key : ∀ (b : Int) (n : Nat), n ≤ 8 → tollhouseref01_Number.j0 (k + 10) x n [b] = some (b :: tailS n x) := by
      intro b n hn
      show tollhouseref01_Number.l0 (k + 9) x [b] (wrap64 ((n : Int) - 1)) = _
      rw [wrap64_of (x := (n : Int) - 1) ⟨by omega, by omega⟩]
      have := num_l x h0 n (k + 8 - n) [b] hn (by simp; omega)
      rwa [show k + 8 - n + n + 1 = k + 9 by omega] at this
    split
    · exact key 253 2 (by omega)
    · split
      · exact key 254 4 (by omega)
      · exact key 255 8 (by omega)
theorem wideS_le (b : Int) : wideS b ≤ 8 := by unfold wideS; split; (· omega); split <;> omega
theorem read_l (b : Int) (r : List Int) (n : Nat) (hn : n ≤ 8) (hl : n ≤ r.length) (hb : Bytes r) (k : Nat) :
    ∀ (j i : Nat), i + j = n → tollhouseref01_Read.l0 (k + j + 11) (b :: r) n (be (r.take i)) ((i : Int) + 1) = some (if sizeS (be (r.take n)) = n + 1 then (be (r.take n), (n : Int) + 1, 0) else (0, 0, 10))
  | 0, i, hi => by
    obtain rfl : i = n := by omega
    have hbd := be_bound (r.take i) (take_bytes hb i)
    unfold tollhouseref01_Read.l0
    rw [if_neg (by omega), num_f _ hbd.1, Option.bind_some, wrap64_of (x := (i : Int) + 1) ⟨by omega, by omega⟩, numS_len]
    split <;> rfl
  | j + 1, i, hi => by
    have hbd := be_bound (r.take i) (take_bytes hb i)
    have hlen : (r.take i).length = i := by rw [List.length_take]; omega
    rw [hlen] at hbd
    have hby := rd_byte hb i (by omega)
    have hx256 : be (r.take i) * 256 + 255 ≤ 18446744073709551615 := by
      have : (256 : Int) ^ i ≤ 256 ^ 7 := by
        have z : ((256 ^ i : Nat) : Int) ≤ ((256 ^ 7 : Nat) : Int) := Int.ofNat_le.2 (Nat.pow_le_pow_right (by omega) (by omega))
        simpa using z
      omega
    unfold tollhouseref01_Read.l0
    rw [if_pos (by omega), if_pos (by omega), if_pos (by rw [List.length_cons]; omega), rd_cons, wrapU_of (x := rd r i) (by omega) (by omega), wrapU_of (x := be (r.take i) * 256) (by omega) (by omega), wrapU_of (by omega) (by omega), wrap64_of (x := (i : Int) + 1 + 1) ⟨by omega, by omega⟩]
    have e : be (r.take i) * 256 + rd r i = be (r.take (i + 1)) := by
      have z := rd_take r i n (by omega) hl
      rw [List.take_take, List.take_take, Nat.min_eq_left (by omega), Nat.min_eq_left (by omega)] at z
      rw [z, be_snoc]
    rw [e, show k + (j + 1) + 10 = k + j + 11 by omega]
    have := read_l b r n hn hl hb k j (i + 1) (by omega)
    rwa [show ((i + 1 : Nat) : Int) = (i : Int) + 1 by omega] at this
theorem refread_f (l : List Int) (hb : Bytes l) (hl : l.length ≤ 9223372036854775000) (k : Nat) : tollhouseref01_Read.f (k + 20) l = some (readS l) := by
  unfold tollhouseref01_Read.f
  cases l with
  | nil => rfl
  | cons b r =>
    have hbr : Bytes r := fun c hc => hb c (List.mem_cons_of_mem _ hc)
    have hbb := hb b List.mem_cons_self
    rw [List.length_cons] at hl
    have key : ∀ n : Nat, n ≤ 8 → ¬ b < 253 → wideS b = n → tollhouseref01_Read.j0 (k + 20) (b :: r) n = some (readS (b :: r)) := by
      intro n hn h253 hw
      show (if ((b :: r).length : Int) < (wrap64 ((n : Int) + 1)) then (some (0, 0, 10)) else (tollhouseref01_Read.l0 (k + 19) (b :: r) n 0 1)) = _
      rw [readS_cons, if_neg h253, hw, wrap64_of (x := (n : Int) + 1) ⟨by omega, by omega⟩, List.length_cons]
      split
      · rw [if_pos (by omega)]
      · rw [if_neg (by omega)]
        have z := read_l b r n hn (by omega) hbr (k + 8 - n) n 0 (by omega)
        rw [show k + 8 - n + n + 11 = k + 19 by omega] at z
        rw [List.take_zero] at z
        exact z
    rw [List.length_cons, if_neg (by omega), if_pos (by omega), show rd (b :: r) 0 = b from rfl]
    split
    · rename_i h; exact key 2 (by omega) (by omega) (by unfold wideS; rw [if_pos h])
    · rename_i h
      split
      · rename_i h2; exact key 4 (by omega) (by omega) (by unfold wideS; rw [if_neg h, if_pos h2])
      · rename_i h2
        split
        · rename_i h3; exact key 8 (by omega) (by omega) (by unfold wideS; rw [if_neg h, if_neg h2])
        · rename_i h3
          have h253 : b < 253 := by omega
          rw [wrapU_of (by omega) (by omega)]
          rw [readS_cons, if_pos h253]

theorem str_append (a b : List Int) : strOfNums a ++ strOfNums b = strOfNums (a ++ b) := by
  apply ByteArray.ext
  simp [strOfNums]
theorem str_inj {a b : List Int} (ha : Bytes a) (hb : Bytes b) (h : (strOfNums a).toList = (strOfNums b).toList) : a = b := by
  rw [ByteArray.toList_eq, ByteArray.toList_eq, strOfNums_data, strOfNums_data] at h
  induction a generalizing b with
  | nil => cases b with | nil => rfl | cons _ _ => simp at h
  | cons x a ih =>
    cases b with
    | nil => simp at h
    | cons y b =>
      simp only [List.map_cons, List.cons.injEq] at h
      have hx := ha x List.mem_cons_self
      have hy := hb y List.mem_cons_self
      have e : x = y := by
        have := congrArg UInt8.toNat h.1
        simp [UInt8.toNat_ofNat'] at this
        omega
      rw [e, ih (fun c hc => ha c (List.mem_cons_of_mem _ hc)) (fun c hc => hb c (List.mem_cons_of_mem _ hc)) h.2]
theorem bytes_append {a b : List Int} (ha : Bytes a) (hb : Bytes b) : Bytes (a ++ b) := fun c hc => by
  rcases List.mem_append.1 hc with h | h
  · exact ha c h
  · exact hb c h
end Go.Proofs.Ytpnkldjbiinnpaa.PC
