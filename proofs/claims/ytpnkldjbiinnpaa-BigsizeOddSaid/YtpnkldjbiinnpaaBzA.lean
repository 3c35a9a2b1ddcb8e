import Derived.Test.YtpnkldjbiinnpaaAmN
/- Bytes and numbers, in plain Lean. -/
namespace Go.Proofs.Ytpnkldjbiinnpaa.AM
open Go
set_option linter.unusedVariables false
set_option linter.unusedSimpArgs false
abbrev i64 (x : Int) : AV := .int .i64 x
abbrev u8 (x : Int) : AV := .int .u8 x
abbrev u64 (x : Int) : AV := .int .u64 x
def I64 (x : Int) : Prop := -9223372036854775808 ≤ x ∧ x ≤ 9223372036854775807
def U64 (x : Int) : Prop := 0 ≤ x ∧ x ≤ 18446744073709551615
def be (l : List Int) : Int := l.foldl (fun x c => x * 256 + c) 0
def Bytes (l : List Int) : Prop := ∀ c ∈ l, 0 ≤ c ∧ c ≤ 255
def wideS (b : Int) : Nat := if b = 253 then 2 else if b = 254 then 4 else 8
def sizeS (x : Int) : Int := if x < 253 then 1 else if x ≤ 65535 then 3 else if x ≤ 4294967295 then 5 else 9
/-- the number with which bytes begin -/
def readS : List Int → Int × Int × Int
  | [] => (0, 0, 10)
  | b :: r => if b < 253 then (b, 1, 0) else if r.length < wideS b then (0, 0, 10) else if sizeS (be (r.take (wideS b))) = wideS b + 1 then (be (r.take (wideS b)), wideS b + 1, 0) else (0, 0, 10)
def tailS : Nat → Int → List Int
  | 0, _ => []
  | j + 1, x => (x / 256 ^ j % 256) :: tailS j x
/-- a number's bytes -/
def numS (x : Int) : List Int := if x < 253 then [x] else if x ≤ 65535 then 253 :: tailS 2 x else if x ≤ 4294967295 then 254 :: tailS 4 x else 255 :: tailS 8 x
def firstS (x : Int) : Int := if x < 253 then 0 else if x ≤ 65535 then 253 else if x ≤ 4294967295 then 254 else 255
def widthS (x : Int) : Nat := if x < 253 then 0 else if x ≤ 65535 then 2 else if x ≤ 4294967295 then 4 else 8
theorem be_snoc (l : List Int) (c : Int) : be (l ++ [c]) = be l * 256 + c := by unfold be; rw [List.foldl_append]; rfl
theorem be_from (l : List Int) (h : Bytes l) : ∀ x : Int, 0 ≤ x → 0 ≤ l.foldl (fun x c => x * 256 + c) x ∧ l.foldl (fun x c => x * 256 + c) x < (x + 1) * 256 ^ l.length := by
  induction l with
  | nil => intro x hx; simp; omega
  | cons c l ih =>
    intro x hx
    have hc := h c List.mem_cons_self
    have hz := ih (fun y hy => h y (List.mem_cons_of_mem _ hy)) (x * 256 + c) (by omega)
    refine ⟨hz.1, Int.lt_of_lt_of_le hz.2 ?_⟩
    rw [List.length_cons, Int.pow_succ, Int.mul_comm (256 ^ l.length) 256, ← Int.mul_assoc]
    exact Int.mul_le_mul_of_nonneg_right (by omega) (Int.le_of_lt (Int.pow_pos (by omega)))
theorem be_bound (l : List Int) (h : Bytes l) : 0 ≤ be l ∧ be l < 256 ^ l.length := by
  have := be_from l h 0 (by omega)
  rw [Int.zero_add, Int.one_mul] at this
  exact this
theorem take_bytes {l : List Int} (h : Bytes l) (n : Nat) : Bytes (l.take n) := fun c hc => h c (List.mem_of_mem_take hc)
theorem drop_bytes {l : List Int} (h : Bytes l) (n : Nat) : Bytes (l.drop n) := fun c hc => h c (List.mem_of_mem_drop hc)
theorem sizeS_le (x : Int) : 0 ≤ sizeS x ∧ sizeS x ≤ 9 := by
  unfold sizeS
  split
  · omega
  · split
    · omega
    · split <;> omega
theorem tailS_len (n : Nat) (x : Int) : (tailS n x).length = n := by
  induction n with
  | zero => rfl
  | succ n ih => unfold tailS; rw [List.length_cons, ih]
theorem numS_eq (x : Int) (h : ¬ x < 253) : numS x = firstS x :: tailS (widthS x) x := by
  unfold numS firstS widthS
  rw [if_neg h, if_neg h, if_neg h]
  split
  · rfl
  · split <;> rfl
theorem readS_cons (b : Int) (r : List Int) : readS (b :: r) = if b < 253 then (b, 1, 0) else if r.length < wideS b then (0, 0, 10) else if sizeS (be (r.take (wideS b))) = wideS b + 1 then (be (r.take (wideS b)), (wideS b : Int) + 1, 0) else (0, 0, 10) := rfl
theorem emod_split (x : Int) (h : 0 ≤ x) (j : Nat) : x % 256 ^ (j + 1) = x / 256 ^ j % 256 * 256 ^ j + x % 256 ^ j := by
  obtain ⟨n, rfl⟩ := Int.eq_ofNat_of_zero_le h
  have := @Nat.mod_mul (256 ^ j) 256 n
  rw [← Nat.pow_succ] at this
  have z : ((n % 256 ^ (j + 1) : Nat) : Int) = ((n % 256 ^ j + 256 ^ j * (n / 256 ^ j % 256) : Nat) : Int) := by rw [this]
  rw [Int.natCast_add, Int.natCast_mul, Int.natCast_emod, Int.natCast_emod, Int.natCast_emod, Int.natCast_ediv, Int.natCast_pow, Int.natCast_pow] at z
  show (n : Int) % ((256 : Nat) : Int) ^ (j + 1) = _
  rw [z, Int.mul_comm, Int.add_comm]; rfl
theorem be_tail (x : Int) (h : 0 ≤ x) : ∀ (n : Nat) (a : Int), (tailS n x).foldl (fun x c => x * 256 + c) a = a * 256 ^ n + x % 256 ^ n
  | 0, a => by simp [tailS]
  | n + 1, a => by
    unfold tailS
    rw [List.foldl_cons, be_tail x h n, emod_split x h n, Int.pow_succ, Int.add_mul, Int.mul_assoc, Int.mul_comm 256, Int.add_assoc]
theorem be_tailS (x : Int) (h : 0 ≤ x) (n : Nat) (hx : x < 256 ^ n) : be (tailS n x) = x := by
  unfold be
  rw [be_tail x h, Int.zero_mul, Int.zero_add, Int.emod_eq_of_lt h hx]
theorem tailS_bytes (x : Int) (h : 0 ≤ x) (n : Nat) : Bytes (tailS n x) := by
  induction n with
  | zero => intro c hc; simp [tailS] at hc
  | succ n ih =>
    intro c hc
    unfold tailS at hc
    rcases List.mem_cons.1 hc with rfl | hc
    · omega
    · exact ih c hc
theorem numS_bytes (x : Int) (h : 0 ≤ x) : Bytes (numS x) := by
  unfold numS
  split
  · intro c hc; simp at hc; omega
  · split
    · intro c hc; rcases List.mem_cons.1 hc with rfl | hc; (· omega); exact tailS_bytes x h _ c hc
    · split
      · intro c hc; rcases List.mem_cons.1 hc with rfl | hc; (· omega); exact tailS_bytes x h _ c hc
      · intro c hc; rcases List.mem_cons.1 hc with rfl | hc; (· omega); exact tailS_bytes x h _ c hc
theorem numS_len (x : Int) : ((numS x).length : Int) = sizeS x := by
  unfold numS sizeS
  split
  · rfl
  · split
    · rw [List.length_cons, tailS_len]; rfl
    · split <;> (rw [List.length_cons, tailS_len]; rfl)
theorem readS_num (x : Int) (h : 0 ≤ x) (h1 : x ≤ 18446744073709551615) (t : List Int) : readS (numS x ++ t) = (x, ((numS x).length : Int), 0) := by
  rw [numS_len]
  have key : ∀ (b : Int) (n : Nat), ¬ b < 253 → wideS b = n → x < 256 ^ n → sizeS x = n + 1 → readS (b :: tailS n x ++ t) = (x, sizeS x, 0) := by
    intro b n hb hw hx hs
    rw [List.cons_append, readS_cons]
    have ht : (tailS n x ++ t).take n = tailS n x := by
      have := @List.take_left _ (tailS n x) t
      rwa [tailS_len] at this
    have hl : ¬ (tailS n x ++ t).length < n := by rw [List.length_append, tailS_len]; omega
    rw [if_neg hb, hw, if_neg hl, ht, be_tailS x h n hx, if_pos hs, hs]
  unfold numS
  split
  · rename_i h2
    simp [readS, sizeS, h2]
  · rename_i h2
    split
    · rename_i h3
      exact key 253 2 (by omega) rfl (by omega) (by unfold sizeS; rw [if_neg h2, if_pos h3]; rfl)
    · rename_i h3
      split
      · rename_i h4
        exact key 254 4 (by omega) rfl (by omega) (by unfold sizeS; rw [if_neg h2, if_neg h3, if_pos h4]; rfl)
      · rename_i h4
        exact key 255 8 (by omega) rfl (by omega) (by unfold sizeS; rw [if_neg h2, if_neg h3, if_neg h4]; rfl)
theorem wideS_le (b : Int) : wideS b ≤ 8 := by unfold wideS; split; (· omega); split <;> omega
theorem str_append (a b : List Int) : strOfNums a ++ strOfNums b = strOfNums (a ++ b) := by
  apply ByteArray.ext
  simp [strOfNums]
theorem str_inj {a b : List Int} (ha : Bytes a) (hb : Bytes b) (h : (strOfNums a).toList = (strOfNums b).toList) : a = b := by
  rw [ByteArray.toList_eq, ByteArray.toList_eq, strOfNums_data, strOfNums_data] at h
  induction a generalizing b with
  | nil => cases b with | nil => rfl | cons _ _ => simp at h
  | cons x a ih =>
    cases b with
    | nil => simp at h
    | cons y b =>
      simp only [List.map_cons, List.cons.injEq] at h
      have hx := ha x List.mem_cons_self
      have hy := hb y List.mem_cons_self
      have e : x = y := by
        have := congrArg UInt8.toNat h.1
        simp [UInt8.toNat_ofNat'] at this
        omega
      rw [e, ih (fun c hc => ha c (List.mem_cons_of_mem _ hc)) (fun c hc => hb c (List.mem_cons_of_mem _ hc)) h.2]
theorem bytes_append {a b : List Int} (ha : Bytes a) (hb : Bytes b) : Bytes (a ++ b) := fun c hc => by
  rcases List.mem_append.1 hc with h | h
  · exact ha c h
  · exact hb c h
theorem readS_fine (l : List Int) (h : Bytes l) : (0 ≤ (readS l).1 ∧ (readS l).1 ≤ 18446744073709551615) ∧ (0 ≤ (readS l).2.1 ∧ (readS l).2.1 ≤ l.length) ∧ ((readS l).2.2 = 0 ∨ (readS l).2.2 = 10) ∧ ((readS l).2.2 = 0 → 1 ≤ (readS l).2.1) := by
  cases l with
  | nil => simp [readS]
  | cons b r =>
    have hb := h b List.mem_cons_self
    have hr : Bytes r := fun c hc => h c (List.mem_cons_of_mem _ hc)
    rw [readS_cons]
    split
    · simp; omega
    · split
      · simp; omega
      · rename_i h1 h2
        have hw := wideS_le b
        have hbd := be_bound (r.take (wideS b)) (take_bytes hr _)
        have hlen : (r.take (wideS b)).length = wideS b := by rw [List.length_take]; omega
        rw [hlen] at hbd
        have hp : (256 : Int) ^ wideS b ≤ 256 ^ 8 := by
          have z : ((256 ^ wideS b : Nat) : Int) ≤ ((256 ^ 8 : Nat) : Int) := Int.ofNat_le.2 (Nat.pow_le_pow_right (by omega) hw)
          simpa using z
        split
        · rw [List.length_cons]; refine ⟨⟨hbd.1, by show be (r.take (wideS b)) ≤ _; omega⟩, ⟨by show 0 ≤ (wideS b : Int) + 1; omega, by show (wideS b : Int) + 1 ≤ _; omega⟩, Or.inl rfl, fun _ => by show (1 : Int) ≤ (wideS b : Int) + 1; omega⟩
        · simp; omega
theorem size_mono (x y : Int) (h : x ≤ y) : sizeS x ≤ sizeS y := by
  unfold sizeS
  repeat' split
  all_goals omega
theorem num_inj {x y : Int} (hx : 0 ≤ x) (hx1 : x ≤ 18446744073709551615) (hy : 0 ≤ y) (hy1 : y ≤ 18446744073709551615) (h : numS x = numS y) : x = y := by
  have a := readS_num x hx hx1 []
  have b := readS_num y hy hy1 []
  rw [h, b] at a
  exact (congrArg Prod.fst a).symm
theorem u8_closed : ∀ (l : List Int), closedL (l.map u8) = true
  | [] => rfl
  | x :: l => by
    have := u8_closed l
    simp only [closedL, List.map_cons, namL, nam, Bool.true_and] at this ⊢
    exact this
theorem byteEls_u8 : ∀ (l : List Int), byteEls (l.map u8) = some l
  | [] => rfl
  | x :: l => by simp only [List.map_cons, byteEls, byteEls_u8 l, Option.map_some]
theorem get_u8 {l : List Int} {i : Nat} (h : i < l.length) : (l.map u8)[i]? = some (u8 l[i]) := by rw [List.getElem?_map, List.getElem?_eq_getElem h]; rfl
theorem bytes_get {l : List Int} (h : Bytes l) {i : Nat} (hi : i < l.length) : 0 ≤ l[i] ∧ l[i] ≤ 255 := h _ (List.getElem_mem hi)
theorem w_u8 (x : Int) : IntKind.u8.wrap x = x % 256 := IntKind.wrap_u8 x
theorem shl_c (k k2 : IntKind) (x : Int) (n : Nat) (hn : n ≤ k.bits) : abin .shl (.int k x) (.int k2 (n : Int)) = some (.int k (k.wrap (x * 2 ^ n))) := by
  simp only [abin, ashift, if_neg (show ¬ (n : Int) < 0 by omega), Int.toNat_natCast, Nat.min_eq_left hn]
theorem shr_c (k k2 : IntKind) (x : Int) (n : Nat) (hn : n ≤ k.bits) : abin .shr (.int k x) (.int k2 (n : Int)) = some (.int k (x.fdiv (2 ^ n))) := by
  simp only [abin, ashift, if_neg (show ¬ (n : Int) < 0 by omega), Int.toNat_natCast, Nat.min_eq_left hn]
theorem or_byte (x c : Int) (h0 : 0 ≤ x) (h1 : x * 256 + 255 ≤ 18446744073709551615) (c0 : 0 ≤ c) (c1 : c ≤ 255) : abin .or (.int .u64 (x * 256)) (.int .u64 c) = some (.int .u64 (x * 256 + c)) := by
  obtain ⟨a, rfl⟩ := Int.eq_ofNat_of_zero_le h0
  obtain ⟨b, rfl⟩ := Int.eq_ofNat_of_zero_le c0
  simp only [abin, aint, abit, if_true, Option.map_some, Option.some.injEq, Value.int.injEq, true_and]
  have e : (BitVec.ofInt IntKind.u64.bits ((a : Int) * 256) ||| BitVec.ofInt IntKind.u64.bits (b : Int)).toNat = a * 256 + b := by
    show (BitVec.ofInt 64 ((a : Int) * 256) ||| BitVec.ofInt 64 (b : Int)).toNat = _
    rw [BitVec.toNat_or, BitVec.toNat_ofInt, BitVec.toNat_ofInt]
    have e1 : (((a : Int) * 256) % (2 ^ 64 : Nat)).toNat = a <<< 8 := by
      rw [Nat.shiftLeft_eq]
      omega
    have e2 : ((b : Int) % (2 ^ 64 : Nat)).toNat = b := by omega
    rw [e1, e2, ← Nat.shiftLeft_add_eq_or_of_lt (show b < 2 ^ 8 by omega), Nat.shiftLeft_eq]
  rw [e, IntKind.wrap_u64]
  omega
end Go.Proofs.Ytpnkldjbiinnpaa.AM
