import Derived.Test.YtkihcmlmcgokhaaDoorMd
import Derived.Test.YtkihcmlmcgokhaaDoorCards
import Derived.Lib.LaidTab
import Derived.Stop.LaidErr
/- What comes in: a digest, numbers, a list of digests; what the row's list gives: the two tables. -/
namespace Go.Proofs.YtkihcmlmcgokhaaDoor.AM
open Go
set_option linter.unusedSimpArgs false
set_option linter.unusedVariables false
theorem oc_slice {S : St} {xs : List AV} {a : Option Addr} {n c : Nat} (h : VL S xs (Value.slice a n c).cells.toList) : VL S xs [.slice a n c] := h
theorem oc_agg {S : St} {xs : List AV} {c : Array Value} (h : VL S xs (Value.agg c).cells.toList) : VL S [.agg xs] [.agg c] := VL_cons (by simp only [V]; exact ⟨c, rfl, h⟩) VL_nil
theorem okWide_array {P : Program} {w : World} {r : Reach} {base : Nat} {t : TypeId} {v : Value} {n : Nat} {e : TypeId} (ht : P.underlying t = some (.array n e)) (h : Value.okWide P w r base t v) : ∃ cs, v = .agg cs ∧ cs.size = P.cellsOf t := by
  simp only [Value.okWide, ht] at h
  obtain ⟨cs, h1, h2, _⟩ := h
  exact ⟨cs, h1, h2⟩
theorem wf_b {x : Int} (h : (Lit.int .u8 x).wf = true) : 0 ≤ x ∧ x ≤ 255 := by
  simp [Lit.wf, IntKind.min, IntKind.max, IntKind.bits, IntKind.signed] at h
  omega
theorem sec_bytes : ∀ {ys : List (List AV)}, (∀ y ∈ ys, (∃ x, y = [u8 x] ∧ (Lit.int .u8 x).wf = true) ∧ y.length = 1) → ∃ l : List Int, ys.flatten = l.map u8 ∧ l.length = ys.length ∧ Bytes l
  | [], _ => ⟨[], rfl, rfl, by intro c hc; cases hc⟩
  | y :: ys, h => by
    obtain ⟨l, h1, h2, h3⟩ := sec_bytes fun z hz => h z (List.mem_cons_of_mem _ hz)
    obtain ⟨⟨x, rfl, hx⟩, _⟩ := h y List.mem_cons_self
    refine ⟨x :: l, by rw [List.flatten_cons, h1]; rfl, by simp [h2], ?_⟩
    intro c hc
    rcases List.mem_cons.1 hc with rfl | hc
    · exact wf_b hx
    · exact h3 c hc
theorem reads_sec {P : Program} {t e : TypeId} (ht : P.underlying t = some (.array 32 e)) (hc : P.cellsOf t = 32 * P.cellsOf e) (he : P.underlying e = some (.int .u8)) (hc1 : P.cellsOf e = 1) : Reads P t (fun xs => ∃ l : List Int, xs = l.map u8 ∧ Sec l) :=
  (Reads.array ht hc (Reads.int he)).imp fun xs ⟨ys, h1, h2, h3⟩ => by
    obtain ⟨l, g1, g2, g3⟩ := sec_bytes fun y hy => ⟨(h3 y hy).1, by rw [(h3 y hy).2, hc1]⟩
    exact ⟨l, by rw [h1, g1], ⟨by omega, g3⟩⟩
theorem els_of {I : List AV → Prop} {α : Type} {k : Option Nat} {f : α → AV} {p : α → Prop} (hI : ∀ y, I y ∧ y.length = kz k ∧ oneL y = true → ∃ x, mkEl k y = f x ∧ p x) : ∀ {ys : List (List AV)}, (∀ y ∈ ys, I y ∧ y.length = kz k ∧ oneL y = true) → ∃ l : List α, ys.map (mkEl k) = l.map f ∧ l.length = ys.length ∧ ∀ x ∈ l, p x := by
  intro ys
  induction ys with
  | nil => intro _; exact ⟨[], rfl, rfl, by intro c hc; cases hc⟩
  | cons y ys ih =>
    intro h
    obtain ⟨l, h1, h2, h3⟩ := ih fun z hz => h z (List.mem_cons_of_mem _ hz)
    obtain ⟨x, hx, px⟩ := hI y (h y List.mem_cons_self)
    refine ⟨x :: l, by rw [List.map_cons, List.map_cons, h1, hx], by simp [h2], ?_⟩
    intro c hc
    rcases List.mem_cons.1 hc with rfl | hc
    · exact px
    · exact h3 c hc
/-- A list of digests. -/
theorem reads_secs {P : Program} {t e b : TypeId} (ht : P.underlying t = some (.slice e)) (hc : P.cellsOf e = 32) (hb : P.bytesOf e = 32) (he : P.underlying e = some (.array 32 b)) (hbu : P.underlying b = some (.int .u8)) (hc1 : P.cellsOf b = 1) :
    Reads P t (fun xs => ∃ l : List (List Int), xs = [.slice .none (some 32) (l.map fun s => .agg (s.map u8))] ∧ (∀ s ∈ l, Sec s) ∧ l.length * 32 ≤ 140737488351232) :=
  (Reads.slice (k := some 32) ht hc (by decide) (reads_sec he (by rw [hc, hc1]) hbu hc1)).imp fun xs ⟨ys, h1, h2, h3⟩ => by
    obtain ⟨l, g1, g2, g3⟩ := els_of (I := fun xs => ∃ l : List Int, xs = l.map u8 ∧ Sec l) (k := some 32) (f := fun s : List Int => .agg (s.map u8)) (p := Sec) (fun y hy => by
      obtain ⟨⟨s, hs, p⟩, _, _⟩ := hy
      exact ⟨s, by rw [hs]; rfl, p⟩) h3
    refine ⟨l, by rw [h1, g1], g3, ?_⟩
    rw [g2, ← hb]
    exact h2
theorem sec_st {s : List Int} (hs : Sec s) (r : List Value) : (AV.agg (s.map u8) :: r.map AV.sc).map strip = AV.agg (s.map u8) :: r.map AV.sc := by
  have h1 := (dg_of hs.len).st
  have h2 : (r.map AV.sc).map strip = r.map AV.sc := by rw [List.map_map]; rfl
  rw [List.map_cons, h2]
  simp only [strip, h1]
theorem sec_cl {s : List Int} (hs : Sec s) (r : List Value) : closedL (AV.agg (s.map u8) :: r.map AV.sc) = true :=
  args1 (dg_of hs.len) _ (by induction r with | nil => rfl | cons x r ih => simpa only [List.map_cons, closedL, namL, nam, Bool.true_and] using ih)
theorem call_sec {f : Nat} {F : AFn} {s : List Int} (r : List Value) {v : Value} (hs : Sec s) (hx : T.ext f = none) (hf : T.fn f = some F) (hp : F.pure = true) (hl : (AV.agg (s.map u8) :: r.map AV.sc).length = F.np) (hr : prun T F (AV.agg (s.map u8) :: r.map AV.sc) = some (.sc v)) :
    ag T f (AV.agg (s.map u8) :: r.map AV.sc) [] = some (.sc v, []) := call_sc hx hf hp hl (sec_st hs r) (sec_cl hs r) hr
/-- The tables as the row lists them. -/
theorem tab_imm {P : Program} {W : World} {name : String} {k : IntKind} {zs : List Int} {g : Nat} (h : Lib.TabIs P W name k zs) (hg : P.globalNamed name = some g) (j : Nat) (v : Value) (hv : (zs.map (Value.int k))[j]? = some v) : memImm W g j = some v := by
  rw [List.getElem?_map] at hv
  cases hz : zs[j]? with
  | none => rw [hz] at hv; cases hv
  | some z =>
    rw [hz] at hv
    cases hv
    obtain ⟨hj, hz2⟩ := List.getElem?_eq_some_iff.1 hz
    have := h.cell hg j hj
    unfold memImm
    rw [this]
    simp [Value.oneCell', List.getD, hz]
def tab32 : List Int := [0, 1, 28, 2, 29, 14, 24, 3, 30, 22, 20, 15, 25, 17, 4, 8, 31, 27, 13, 23, 21, 19, 16, 7, 26, 12, 18, 6, 11, 5, 10, 9]
def tab64 : List Int := [0, 1, 56, 2, 57, 49, 28, 3, 61, 58, 42, 50, 38, 29, 17, 4, 62, 47, 59, 36, 45, 43, 51, 22, 53, 39, 33, 30, 24, 18, 12, 5, 63, 55, 48, 27, 60, 41, 37, 16, 46, 35, 44, 21, 52, 32, 23, 11, 54, 26, 40, 15, 34, 20, 31, 10, 25, 14, 19, 9, 13, 8, 7, 6]
def laid2 : List (String × DataW Unit) := [("math/bits.deBruijn32tab", Rows.laid_math_bits_deBruijn32tab), ("math/bits.deBruijn64tab", Rows.laid_math_bits_deBruijn64tab)]
theorem g0 : Tryd.prog.globalNamed "math/bits.deBruijn32tab" = some 0 := by kernel_rfl
theorem g1 : Tryd.prog.globalNamed "math/bits.deBruijn64tab" = some 1 := by kernel_rfl
theorem glob_of {W : World} (h : laidMetH Tryd.prog laid2 W) : GlobOK gl (memImm W) := by
  have h0 : laidMet Tryd.prog (("math/bits.deBruijn32tab", Lib.tabData .u8 tab32) :: [("math/bits.deBruijn64tab", Lib.tabData .u8 tab64)]) W := h
  have t0 := Lib.tabIs_of_head (t := 22) (e := 5) (n := 32) g0 (by kernel_rfl) Tryd.underlying22 Tryd.underlying5 (by kernel_rfl) (by kernel_rfl) h0
  have t1 := Lib.tabIs_of_head (t := 80) (e := 5) (n := 64) g1 (by kernel_rfl) Tryd.underlying80 Tryd.underlying5 (by kernel_rfl) (by kernel_rfl) (laidMet.tail h0)
  intro g l hl j v hv
  unfold gl at hl
  split at hl
  · rename_i e
    cases hl
    rw [e]
    exact tab_imm t0 g0 j v hv
  · split at hl
    · rename_i e
      cases hl
      rw [e]
      exact tab_imm t1 g1 j v hv
    · cases hl
def withCells (l : List Value) (h : Array Obj) (i : Nat) : Array Obj := h.modify i fun
  | .cells _ t frozen => .cells l.toArray t frozen
  | o => o
/-- A WORLD FOR THE WITNESSES: the settled one, the two tables as their text lays them. -/
noncomputable def laidWorld (os : Os) : World :=
  { World.holding Tryd.prog os ⟨#[], #[], []⟩ with heap := withCells (tab64.map (Value.int .u8)) (withCells (tab32.map (Value.int .u8)) (World.holding Tryd.prog os ⟨#[], #[], []⟩).heap 0) 1 }
end Go.Proofs.YtkihcmlmcgokhaaDoor.AM

/- layer 05, in plain Lean: what a shelf keeps. -/
namespace Go.Proofs.YtkihcmlmcgokhaaDoor.AM
open Go
set_option maxRecDepth 100000
set_option linter.unusedVariables false
set_option linter.unusedSimpArgs false
/-! ### an index and its mirror -/
theorem pow12 (k : Nat) (hk : k ≤ 12) : 2 ^ (12 - k) * 2 ^ k = 4096 := by
  rw [← Nat.pow_add, Nat.sub_add_cancel hk]
theorem mir_div (i k : Nat) (hi : i < 4096) (hk : k ≤ 12) : (4095 - i) / 2 ^ k + i / 2 ^ k + 1 = 2 ^ (12 - k) ∧ (4095 - i) % 2 ^ k + i % 2 ^ k + 1 = 2 ^ k := by
  have hc := pow12 k hk
  have hP := Nat.two_pow_pos k
  generalize 2 ^ (12 - k) = c at hc ⊢
  generalize 2 ^ k = P at hc hP ⊢
  have h1 := Nat.div_add_mod i P
  have h2 := Nat.mod_lt i hP
  generalize i / P = q at h1 ⊢
  generalize i % P = r at h1 h2 ⊢
  have hq : q < c := by
    rcases Nat.lt_or_ge q c with h | h
    · exact h
    · have := Nat.mul_le_mul_left P h
      rw [Nat.mul_comm P c, hc] at this
      omega
  obtain ⟨d, rfl⟩ := Nat.exists_eq_add_of_le (show q + 1 ≤ c by omega)
  have h3 : P * q + P + P * d = 4096 := by rw [← hc, Nat.mul_comm (q + 1 + d) P, Nat.mul_add, Nat.mul_add, Nat.mul_one]
  have h4 : 4095 - i = P * d + (P - 1 - r) := by omega
  rw [h4, Nat.mul_add_div hP, Nat.mul_add_mod, Nat.div_eq_of_lt (by omega), Nat.mod_eq_of_lt (by omega)]
  omega
theorem mir_iff (i j k : Nat) (hi : i < 4096) (hj : j < 4096) (hk : k ≤ 12) : (4095 - i) / 2 ^ k = (4095 - j) / 2 ^ k ↔ i / 2 ^ k = j / 2 ^ k := by
  have h1 := (mir_div i k hi hk).1
  have h2 := (mir_div j k hj hk).1
  omega
theorem mod_succ (i k : Nat) : i % 2 ^ (k + 1) = i % 2 ^ k + 2 ^ k * (i / 2 ^ k % 2) := by rw [Nat.pow_succ, Nat.mod_mul]
theorem div_succ (i k : Nat) : i / 2 ^ (k + 1) = i / 2 ^ k / 2 := by rw [Nat.pow_succ, Nat.div_div_eq_div_mul]
theorem mod_zero_le (i : Nat) {j k : Nat} (h : j ≤ k) (h0 : i % 2 ^ k = 0) : i % 2 ^ j = 0 := by
  rw [← Nat.mod_mod_of_dvd i (Nat.pow_dvd_pow 2 h), h0, Nat.zero_mod]
theorem div_le (i m : Nat) {j k : Nat} (h : j ≤ k) (h0 : i / 2 ^ j = m / 2 ^ j) : i / 2 ^ k = m / 2 ^ k := by
  obtain ⟨d, rfl⟩ := Nat.exists_eq_add_of_le h
  rw [Nat.pow_add, ← Nat.div_div_eq_div_mul, ← Nat.div_div_eq_div_mul, h0]
theorem lowS_at (x j : Nat) (hj : j < 12) (h0 : x % 2 ^ j = 0) (h1 : x / 2 ^ j % 2 = 1) : lowS x = j := by
  rcases Nat.lt_trichotomy (lowS x) j with h | h | h
  · have hb := lowS_bit x (by omega)
    have := mod_zero_le x (show lowS x + 1 ≤ j by omega) h0
    rw [mod_succ, hb] at this
    have := Nat.two_pow_pos (lowS x)
    omega
  · exact h
  · have := mod_zero_le x (show j + 1 ≤ lowS x by omega) (lowS_mod x)
    rw [mod_succ, h1] at this
    have := Nat.two_pow_pos j
    omega
/-! ### the last of a block -/
def mE (n j : Nat) : Nat := n / 2 ^ j * 2 ^ j - 1
theorem mE_spec (n j : Nat) (hn : n < 4096) (hb : n / 2 ^ j % 2 = 1) : j < 12 ∧ mE n j < n ∧ mE n j / 2 ^ j + 1 = n / 2 ^ j ∧ mE n j % 2 ^ j + 1 = 2 ^ j ∧ lowS (4095 - mE n j) = j ∧ mE n j / 2 ^ (j + 1) = n / 2 ^ (j + 1) := by
  have hj : j < 12 := by
    rcases Nat.lt_or_ge j 12 with h | h
    · exact h
    · have : n / 2 ^ j = 0 := Nat.div_eq_of_lt (Nat.lt_of_lt_of_le hn (Nat.pow_le_pow_right (by decide) h : 2 ^ 12 ≤ 2 ^ j))
      rw [this] at hb
      simp at hb
  have hP := Nat.two_pow_pos j
  have h1 := Nat.div_add_mod n (2 ^ j)
  obtain ⟨q, hq⟩ : ∃ q, n / 2 ^ j = q + 1 := Nat.exists_eq_succ_of_ne_zero (fun h => by rw [h] at hb; simp at hb)
  have hm : mE n j = 2 ^ j * q + (2 ^ j - 1) := by
    unfold mE
    rw [hq, Nat.add_mul, Nat.one_mul, Nat.mul_comm q]
    omega
  have hd : mE n j / 2 ^ j = q := by rw [hm, Nat.mul_add_div hP, Nat.div_eq_of_lt (by omega), Nat.add_zero]
  have hr : mE n j % 2 ^ j = 2 ^ j - 1 := by rw [hm, Nat.mul_add_mod, Nat.mod_eq_of_lt (by omega)]
  have hlt : mE n j < n := by
    rw [hq, Nat.mul_add] at h1
    omega
  refine ⟨hj, hlt, by omega, by omega, ?_, by rw [div_succ, div_succ, hd, hq]; rw [hq] at hb; omega⟩
  obtain ⟨g1, g2⟩ := mir_div (mE n j) j (by omega) (by omega)
  refine lowS_at _ j hj (by omega) ?_
  rw [hd] at g1
  have h2 : 2 ^ (12 - j) = 2 * 2 ^ (11 - j) := by rw [show 12 - j = (11 - j) + 1 by omega, Nat.pow_succ]; omega
  omega
theorem mE_exists (n i : Nat) (hn : n < 4096) (hi : i < n) : ∃ j, j < 12 ∧ n / 2 ^ j % 2 = 1 ∧ i / 2 ^ j + 1 = n / 2 ^ j ∧ i / 2 ^ (j + 1) = n / 2 ^ (j + 1) := by
  have key : ∀ k, i / 2 ^ k = n / 2 ^ k → ∃ j, j < k ∧ n / 2 ^ j % 2 = 1 ∧ i / 2 ^ j + 1 = n / 2 ^ j ∧ i / 2 ^ (j + 1) = n / 2 ^ (j + 1) := by
    intro k
    induction k with
    | zero => intro h; simp at h; omega
    | succ k ih =>
      intro h
      by_cases hk : i / 2 ^ k = n / 2 ^ k
      · obtain ⟨j, h1, h2⟩ := ih hk
        exact ⟨j, by omega, h2⟩
      · have h1 : i / 2 ^ k ≤ n / 2 ^ k := Nat.div_le_div_right (by omega)
        have h2 := h
        rw [div_succ, div_succ] at h2
        exact ⟨k, by omega, by omega, by omega, h⟩
  exact key 12 (by rw [Nat.div_eq_of_lt (show i < 2 ^ 12 by omega), Nat.div_eq_of_lt (show n < 2 ^ 12 by omega)])
theorem makes_mE (n j i : Nat) (hn : n < 4096) (hi : i < 4096) (hb : n / 2 ^ j % 2 = 1) : makesB (mE n j) i = true ↔ i / 2 ^ j + 1 = n / 2 ^ j := by
  obtain ⟨h1, h2, h3, h4, h5, h6⟩ := mE_spec n j hn hb
  unfold makesB
  rw [h5, decide_eq_true_eq, mir_iff _ _ _ (by omega) hi (by omega)]
  omega
/-! ### the next one -/
theorem low_lt (n : Nat) (hn : n < 4095) : lowS (4095 - n) < 12 := by
  have h1 := lowS_le (4095 - n)
  rcases Nat.lt_or_ge (lowS (4095 - n)) 12 with h | h
  · exact h
  · have h2 := lowS_mod (4095 - n)
    rw [show lowS (4095 - n) = 12 by omega] at h2
    omega
theorem next_mod (n : Nat) (hn : n < 4095) : n % 2 ^ lowS (4095 - n) + 1 = 2 ^ lowS (4095 - n) ∧ n / 2 ^ lowS (4095 - n) % 2 = 0 := by
  have h1 := low_lt n hn
  obtain ⟨g1, g2⟩ := mir_div n (lowS (4095 - n)) (by omega) (by omega)
  have h2 := lowS_mod (4095 - n)
  have h3 := lowS_bit (4095 - n) h1
  generalize lowS (4095 - n) = k at *
  refine ⟨by omega, ?_⟩
  have h4 : 2 ^ (12 - k) = 2 * 2 ^ (11 - k) := by rw [show 12 - k = (11 - k) + 1 by omega, Nat.pow_succ]; omega
  omega
theorem ones_bit (n : Nat) : ∀ k, n % 2 ^ k + 1 = 2 ^ k → ∀ j, j < k → n / 2 ^ j % 2 = 1 := by
  intro k
  induction k with
  | zero => intro _ j hj; omega
  | succ k ih =>
    intro h j hj
    have h1 := mod_succ n k
    have h2 := Nat.mod_lt n (Nat.two_pow_pos k)
    have h3 : 2 ^ (k + 1) = 2 * 2 ^ k := by rw [Nat.pow_succ]; omega
    have h4 : n / 2 ^ k % 2 = 1 := by
      rcases Nat.mod_two_eq_zero_or_one (n / 2 ^ k) with h | h
      · rw [h] at h1; omega
      · exact h
    by_cases hjk : j = k
    · rw [hjk]; exact h4
    · exact ih (by rw [h4] at h1; omega) j (by omega)
theorem next_bit (n j : Nat) (hn : n < 4095) (hj : j < lowS (4095 - n)) : n / 2 ^ j % 2 = 1 := ones_bit n _ (next_mod n hn).1 j hj
theorem makes_next (n i : Nat) (hn : n < 4095) (hi : i < 4096) : makesB n i = true ↔ n / 2 ^ lowS (4095 - n) = i / 2 ^ lowS (4095 - n) := by
  unfold makesB
  rw [decide_eq_true_eq, mir_iff _ _ _ (by omega) hi (lowS_le _)]
theorem next_makes (n j : Nat) (hn : n < 4095) (hj : j < lowS (4095 - n)) : makesB n (mE n j) = true := by
  obtain ⟨h1, h2, h3, h4, h5, h6⟩ := mE_spec n j (by omega) (next_bit n j hn hj)
  rw [makes_next n _ hn (by omega)]
  exact (div_le _ _ (show j + 1 ≤ lowS (4095 - n) by omega) h6).symm
theorem div_lo (n k j : Nat) (h : n % 2 ^ k + 1 = 2 ^ k) (hj : j ≤ k) : (n + 1) % 2 ^ j = 0 ∧ (n + 1) / 2 ^ k = n / 2 ^ k + 1 := by
  have hP := Nat.two_pow_pos k
  have h1 := Nat.div_add_mod n (2 ^ k)
  have h2 : n + 1 = 2 ^ k * (n / 2 ^ k + 1) := by rw [Nat.mul_add]; omega
  have h3 : (n + 1) % 2 ^ k = 0 := by rw [h2]; exact Nat.mul_mod_right _ _
  refine ⟨mod_zero_le _ hj h3, ?_⟩
  rw [h2, Nat.mul_div_cancel_left _ hP]
theorem next_lo (n j : Nat) (hn : n < 4095) (hj : j < lowS (4095 - n)) : (n + 1) / 2 ^ j % 2 = 0 := by
  have h := (div_lo n _ (j + 1) (next_mod n hn).1 (by omega)).1
  have h1 := mod_succ (n + 1) j
  have hP := Nat.two_pow_pos j
  rcases Nat.mod_two_eq_zero_or_one ((n + 1) / 2 ^ j) with g | g
  · exact g
  · rw [g] at h1; omega
theorem next_at (n : Nat) (hn : n < 4095) : (n + 1) / 2 ^ lowS (4095 - n) % 2 = 1 ∧ mE (n + 1) (lowS (4095 - n)) = n := by
  obtain ⟨h1, h2⟩ := next_mod n hn
  have h3 := (div_lo n _ 0 h1 (by omega)).2
  have h4 := (div_lo n _ _ h1 (Nat.le_refl _)).1
  have h5 := Nat.div_add_mod (n + 1) (2 ^ lowS (4095 - n))
  refine ⟨by omega, ?_⟩
  unfold mE
  rw [Nat.mul_comm]
  omega
theorem next_hi (n j : Nat) (hn : n < 4095) (hj : lowS (4095 - n) < j) : (n + 1) / 2 ^ j = n / 2 ^ j := by
  obtain ⟨h1, h2⟩ := next_mod n hn
  have h3 := (div_lo n _ 0 h1 (by omega)).2
  refine div_le (n + 1) n (show lowS (4095 - n) + 1 ≤ j by omega) ?_
  rw [div_succ, div_succ, h3]
  omega
/-! ### what is kept, and what it makes -/
structure Ent where
  s : List Int
  m : Int
  b : Bool
def noE : Ent := ⟨zS, 0, false⟩
def entS (L : List (List Int)) (n j : Nat) : Ent := if n / 2 ^ j % 2 = 1 then ⟨L.getD (mE n j) zS, mE n j, true⟩ else noE
def byS (L : List (List Int)) (n : Nat) : List Ent := (List.range 13).map (entS L n)
/-- each makes those before it that it should make -/
def Con (L : List (List Int)) : Prop := ∀ a b, a < L.length → b < a → makesB a b = true → kWalk (L.getD a zS) (4095 - b) (lowS (4095 - a)) = L.getD b zS
theorem sec_getD {L : List (List Int)} (h : ∀ s ∈ L, Sec s) (i : Nat) : Sec (L.getD i zS) := by
  rw [List.getD_eq_getElem?_getD]
  cases hq : L[i]? with
  | none => exact sec_zero
  | some v => exact h v (List.mem_of_getElem? hq)
theorem kept_makes {L : List (List Int)} (hc : Con L) {n j i : Nat} (hn : n < 4096) (hl : L.length = n) (hb : n / 2 ^ j % 2 = 1) (hi : i < n) (hm : makesB (mE n j) i = true) : kWalk (L.getD (mE n j) zS) (4095 - i) j = L.getD i zS := by
  obtain ⟨h1, h2, h3, h4, h5, h6⟩ := mE_spec n j hn hb
  have h7 := (makes_mE n j i hn (by omega) hb).1 hm
  rcases Nat.lt_trichotomy i (mE n j) with h | h | h
  · have := hc (mE n j) i (by omega) h hm
    rw [h5] at this
    exact this
  · rw [h]
    refine walk_none _ _ _ ?_
    have := lowS_mod (4095 - mE n j)
    rw [h5] at this
    exact this
  · exfalso
    have g1 := Nat.div_add_mod i (2 ^ j)
    have g2 := Nat.div_add_mod (mE n j) (2 ^ j)
    have g3 := Nat.mod_lt i (Nat.two_pow_pos j)
    rw [show i / 2 ^ j = mE n j / 2 ^ j by omega] at g1
    omega
/-- what the shelf asks, and what the document asks -/
theorem asks_same {L : List (List Int)} (hc : Con L) {n : Nat} (s : List Int) (hn : n < 4095) (hl : L.length = n) :
    (∀ j, j < lowS (4095 - n) → kWalk s (4095 - mE n j) (lowS (4095 - n)) = L.getD (mE n j) zS) ↔ (∀ i, i < n → makesB n i = true → kWalk s (4095 - i) (lowS (4095 - n)) = L.getD i zS) := by
  constructor
  · intro h i hi hm
    obtain ⟨j, g1, g2, g3, g4⟩ := mE_exists n i (by omega) hi
    have hk : j < lowS (4095 - n) := by
      rcases Nat.lt_or_ge j (lowS (4095 - n)) with h | h
      · exact h
      · have := div_le n i h ((makes_next n i hn (by omega)).1 hm)
        omega
    obtain ⟨h1, h2, h3, h4, h5, h6⟩ := mE_spec n j (by omega) g2
    have hw := walk_comp s (4095 - mE n j) (4095 - i) j (by have := lowS_mod (4095 - mE n j); rw [h5] at this; exact this) ((mir_iff i (mE n j) j (by omega) (by omega) (by omega)).2 (by omega)) (lowS (4095 - n)) (by omega)
    rw [hw, h j hk]
    exact kept_makes hc (by omega) hl g2 hi ((makes_mE n j i (by omega) (by omega) g2).2 g3)
  · intro h j hj
    obtain ⟨h1, h2, h3, h4, h5, h6⟩ := mE_spec n j (by omega) (next_bit n j hn hj)
    exact h _ h2 (next_makes n j hn hj)
theorem con_snoc {L : List (List Int)} (hc : Con L) {n : Nat} (s : List Int) (hl : L.length = n) (h : ∀ i, i < n → makesB n i = true → kWalk s (4095 - i) (lowS (4095 - n)) = L.getD i zS) : Con (L ++ [s]) := by
  intro a b ha hb hm
  have e1 : ∀ i, i < n → (L ++ [s]).getD i zS = L.getD i zS := fun i hi => by
    rw [List.getD_eq_getElem?_getD, List.getD_eq_getElem?_getD, List.getElem?_append_left (by omega)]
  rw [List.length_append, List.length_singleton] at ha
  rw [e1 b (by omega)]
  by_cases han : a = n
  · rw [han] at hm hb ⊢
    have : (L ++ [s]).getD n zS = s := by rw [← hl]; simp
    rw [this]
    exact h b hb hm
  · rw [e1 a (by omega)]
    exact hc a b (by omega) hb hm
theorem con_nil : Con [] := fun a b ha => by simp at ha
theorem byS_len (L : List (List Int)) (n : Nat) : (byS L n).length = 13 := by simp [byS]
theorem byS_get (L : List (List Int)) (n j : Nat) (hj : j < 13) : (byS L n)[j]? = some (entS L n j) := by simp [byS, hj]
theorem byS_sec {L : List (List Int)} (h : ∀ s ∈ L, Sec s) (n : Nat) : ∀ x ∈ byS L n, Sec x.s := by
  intro x hx
  simp only [byS, List.mem_map, List.mem_range] at hx
  obtain ⟨j, _, rfl⟩ := hx
  unfold entS
  split
  · exact sec_getD h _
  · exact sec_zero
/-- the lowest of them stand empty -/
def loE (j : Nat) (l : List Ent) : List Ent := List.replicate j noE ++ l.drop j
theorem byS_next {L : List (List Int)} {n : Nat} (s : List Int) (hn : n < 4095) (hl : L.length = n) : byS (L ++ [s]) (n + 1) = loE (lowS (4095 - n)) ((byS L n).set (lowS (4095 - n)) ⟨s, n, true⟩) := by
  have hk := low_lt n hn
  refine List.ext_getElem? fun j => ?_
  by_cases hj : j < 13
  · rw [byS_get _ _ _ hj]
    unfold loE
    rcases Nat.lt_trichotomy j (lowS (4095 - n)) with h | h | h
    · rw [List.getElem?_append_left (by simpa using h), List.getElem?_replicate, if_pos h]
      unfold entS
      rw [if_neg (by rw [next_lo n j hn h]; decide)]
    · obtain ⟨h1, h2⟩ := next_at n hn
      rw [List.getElem?_append_right (by simp; omega), List.length_replicate, List.getElem?_drop, h, Nat.sub_self, show lowS (4095 - n) + 0 = lowS (4095 - n) from rfl, List.getElem?_set_self (by rw [byS_len]; omega)]
      unfold entS
      rw [if_pos h1, h2]
      congr 2
      rw [← hl]; simp
    · rw [List.getElem?_append_right (by simp; omega), List.length_replicate, List.getElem?_drop, show lowS (4095 - n) + (j - lowS (4095 - n)) = j by omega, List.getElem?_set_ne (by omega), byS_get _ _ _ hj]
      have h1 := next_hi n j hn h
      unfold entS
      rw [h1]
      split
      · rename_i hb
        obtain ⟨_, g2, _⟩ := mE_spec n j (by omega) hb
        have e : mE (n + 1) j = mE n j := by unfold mE; rw [h1]
        rw [e]
        congr 2
        rw [List.getD_eq_getElem?_getD, List.getD_eq_getElem?_getD, List.getElem?_append_left (by omega)]
      · rfl
  · rw [List.getElem?_eq_none (by rw [byS_len]; omega), List.getElem?_eq_none (by unfold loE; simp [byS_len]; omega)]
end Go.Proofs.YtkihcmlmcgokhaaDoor.AM

/- layer 05: a shelf's cells; a box in a store of which no more is known. -/
namespace Go.Proofs.YtkihcmlmcgokhaaDoor.AM
open Go
set_option maxRecDepth 100000
set_option linter.unusedVariables false
set_option linter.unusedSimpArgs false
/-! ### rows of equal parts -/
theorem parts_len {w : Nat} : ∀ {l : List (List AV)}, (∀ x ∈ l, x.length = w) → l.flatten.length = l.length * w
  | [], _ => by simp
  | x :: l, h => by
    rw [List.flatten_cons, List.length_append, parts_len fun y hy => h y (List.mem_cons_of_mem _ hy), h x List.mem_cons_self, List.length_cons, Nat.add_mul]
    omega
theorem parts_drop {w : Nat} : ∀ {l : List (List AV)} (t : List AV) (j : Nat), (∀ x ∈ l, x.length = w) → j ≤ l.length → (l.flatten ++ t).drop (j * w) = (l.drop j).flatten ++ t
  | _, t, 0, _, _ => by simp
  | [], t, j + 1, _, hj => by simp at hj
  | x :: l, t, j + 1, h, hj => by
    have hx := h x List.mem_cons_self
    rw [List.flatten_cons, List.append_assoc, Nat.add_mul, Nat.one_mul, Nat.add_comm, ← List.drop_drop, ← hx, List.drop_left, hx, parts_drop t j (fun y hy => h y (List.mem_cons_of_mem _ hy)) (by simpa using hj), List.drop_succ_cons]
theorem parts_take {w : Nat} {l : List (List AV)} (t : List AV) (j : Nat) (h : ∀ x ∈ l, x.length = w) {y : List AV} (hy : l[j]? = some y) : ((l.flatten ++ t).drop (j * w)).take w = y := by
  obtain ⟨hj, rfl⟩ := List.getElem?_eq_some_iff.1 hy
  rw [parts_drop t j h (Nat.le_of_lt hj), List.drop_eq_getElem_cons hj, List.flatten_cons, List.append_assoc]
  have := h l[j] (List.getElem_mem hj)
  rw [List.take_append_of_le_length (by omega), List.take_of_length_le (by omega)]
theorem splice_at {xs cs : List AV} {o : Nat} (h : o + xs.length ≤ cs.length) : splice cs o xs = cs.take o ++ (xs ++ cs.drop (o + xs.length)) := by
  match xs, h with
  | [], h => rw [splice_nil]; simp
  | [x], h =>
    rw [splice_one, List.set_eq_take_append_cons_drop, if_pos (by simp at h; omega)]
    rfl
  | x :: y :: r, h => rw [splice_more]; rfl
theorem parts_splice {w : Nat} {l : List (List AV)} (t : List AV) (j : Nat) (h : ∀ x ∈ l, x.length = w) (hj : j < l.length) (y : List AV) (hy : y.length = w) : splice (l.flatten ++ t) (j * w) y = (l.set j y).flatten ++ t := by
  have hl := parts_len h
  have h1 : (j + 1) * w ≤ l.length * w := Nat.mul_le_mul_right w hj
  rw [Nat.add_mul, Nat.one_mul] at h1
  rw [splice_at (by rw [List.length_append, hl, hy]; omega), hy, show j * w + w = (j + 1) * w by rw [Nat.add_mul, Nat.one_mul], parts_drop t (j + 1) h hj]
  have e1 : (l.flatten ++ t).take (j * w) = (l.take j).flatten := by
    have h2 : ((l.take j).flatten).length = j * w := by
      rw [parts_len fun x hx => h x (List.mem_of_mem_take hx), List.length_take, Nat.min_eq_left (Nat.le_of_lt hj)]
    have h3 : l.flatten = (l.take j).flatten ++ (l.drop j).flatten := by rw [← List.flatten_append, List.take_append_drop]
    rw [h3, List.append_assoc, List.take_append_of_le_length (by omega), List.take_of_length_le (by omega)]
  rw [e1, List.set_eq_take_append_cons_drop, if_pos hj, List.flatten_append, List.flatten_cons, List.append_assoc, List.append_assoc]
/-! ### a shelf's cells -/
def ec (x : Ent) : List AV := x.s.map u8 ++ [i64 x.m, .bool x.b]
def shC (l : List Ent) (n : Int) : List AV := (l.map ec).flatten ++ [i64 n]
structure Shw (l : List Ent) : Prop where
  len : l.length = 13
  sec : ∀ x ∈ l, Sec x.s
theorem ec_len {x : Ent} (h : Sec x.s) : (ec x).length = 34 := by simp [ec, h.len]
theorem Shw.parts {l : List Ent} (h : Shw l) : ∀ y ∈ l.map ec, y.length = 34 := by
  intro y hy
  obtain ⟨x, hx, rfl⟩ := List.mem_map.1 hy
  exact ec_len (h.sec x hx)
theorem Shw.size {l : List Ent} (h : Shw l) (n : Int) : (shC l n).length = 443 := by
  unfold shC
  rw [List.length_append, parts_len h.parts, List.length_map, h.len]
  rfl
theorem Shw.at_ {l : List Ent} (h : Shw l) (n : Int) {j : Nat} {x : Ent} (hx : l[j]? = some x) : List.take 34 (List.drop (j * 34) (shC l n)) = ec x :=
  parts_take _ j h.parts (by rw [List.getElem?_map, hx]; rfl)
theorem Shw.rest {l : List Ent} (h : Shw l) (n : Int) {j : Nat} (hj : j < 13) : 34 ≤ (List.drop (j * 34) (shC l n)).length := by
  rw [List.length_drop, h.size]
  omega
theorem Shw.last {l : List Ent} (h : Shw l) (n : Int) : List.drop 442 (shC l n) = [i64 n] := by
  have := parts_drop [i64 n] 13 h.parts (by rw [List.length_map, h.len]; omega)
  rw [show shC l n = (l.map ec).flatten ++ [i64 n] from rfl, show 442 = 13 * 34 from rfl, this, List.drop_of_length_le (by rw [List.length_map, h.len]; omega)]
  rfl
theorem Shw.put {l : List Ent} (h : Shw l) (n : Int) {j : Nat} (hj : j < 13) (x : Ent) (hx : Sec x.s) : splice (shC l n) (j * 34) (ec x) = shC (l.set j x) n := by
  unfold shC
  rw [parts_splice _ j h.parts (by rw [List.length_map, h.len]; exact hj) _ (ec_len hx), List.map_set]
theorem Shw.num {l : List Ent} (h : Shw l) (n m : Int) : (shC l n).set 442 (i64 m) = shC l m := by
  have h1 : ((l.map ec).flatten).length = 442 := by rw [parts_len h.parts, List.length_map, h.len]
  unfold shC
  rw [List.set_append_right _ _ (by omega), h1]
  rfl
theorem Shw.set {l : List Ent} (h : Shw l) (j : Nat) {x : Ent} (hx : Sec x.s) : Shw (l.set j x) :=
  ⟨by rw [List.length_set, h.len], fun y hy => by
    rcases List.mem_or_eq_of_mem_set hy with hy | rfl
    · exact h.sec y hy
    · exact hx⟩
theorem namL_append (p : Nat → Bool) : ∀ a b : List AV, namL p (a ++ b) = (namL p a && namL p b)
  | [], b => by simp [namL]
  | x :: a, b => by simp only [List.cons_append, namL, namL_append p a b, Bool.and_assoc]
theorem namL_flatten (p : Nat → Bool) : ∀ l : List (List AV), (∀ x ∈ l, namL p x = true) → namL p l.flatten = true
  | [], _ => rfl
  | x :: l, h => by rw [List.flatten_cons, namL_append, h x List.mem_cons_self, namL_flatten p l fun y hy => h y (List.mem_cons_of_mem _ hy)]; rfl
theorem u8_nam (p : Nat → Bool) : ∀ l : List Int, namL p (l.map u8) = true
  | [] => rfl
  | x :: l => u8_nam p l
theorem ec_nam (p : Nat → Bool) (x : Ent) : namL p (ec x) = true := by unfold ec; rw [namL_append, u8_nam]; rfl
theorem shC_nam (p : Nat → Bool) (l : List Ent) (n : Int) : namL p (shC l n) = true := by
  unfold shC
  rw [namL_append, namL_flatten p _ fun y hy => by obtain ⟨x, _, rfl⟩ := List.mem_map.1 hy; exact ec_nam p x]
  rfl
/-- what one place reads as -/
structure Ecf (E D : List AV) (m : Int) (b : Bool) : Prop where
  len : E.length = 34
  one : oneL E = true
  sp : splice [.int .u8 0, .int .u8 0, .int .u8 0, .int .u8 0, .int .u8 0, .int .u8 0, .int .u8 0, .int .u8 0, .int .u8 0, .int .u8 0, .int .u8 0, .int .u8 0, .int .u8 0, .int .u8 0, .int .u8 0, .int .u8 0, .int .u8 0, .int .u8 0, .int .u8 0, .int .u8 0, .int .u8 0, .int .u8 0, .int .u8 0, .int .u8 0, .int .u8 0, .int .u8 0, .int .u8 0, .int .u8 0, .int .u8 0, .int .u8 0, .int .u8 0, .int .u8 0, .int .i64 0, .bool false] 0 E = E
  n' : E[32]? = some (i64 m)
  is' : E[33]? = some (.bool b)
  n : List.drop 32 E = [i64 m, .bool b]
  is : List.drop 33 E = [.bool b]
  tk : List.take 32 E = D
  tk34 : List.take 34 E = E
  st : E.map strip = E
theorem ecf (x : Ent) (h : Sec x.s) : Ecf (ec x) (x.s.map u8) x.m x.b := by
  have hl := h.len
  have hm : (x.s.map u8).length = 32 := by rw [List.length_map, hl]
  refine ⟨ec_len h, ?_, splice_all (by rw [ec_len h]; rfl), ?_, ?_, ?_, ?_, ?_, List.take_of_length_le (by rw [ec_len h]; omega), ?_⟩
  · unfold ec
    exact oneL_append (oneL_u8 _) rfl
  · unfold ec
    rw [List.getElem?_append_right (by omega), hm]; rfl
  · unfold ec
    rw [List.getElem?_append_right (by omega), hm]; rfl
  · unfold ec
    rw [← hm, List.drop_left]
  · unfold ec
    rw [show 33 = 32 + 1 from rfl, ← List.drop_drop, ← hm, List.drop_left]; rfl
  · unfold ec
    rw [← hm, List.take_left]
  · unfold ec
    rw [List.map_append, (dg_of hl).st]; rfl
/-! ### a box among others -/
structure Hp (H : List AV → Heap) (id m : Nat) : Prop where
  lt : id < m
  len : ∀ X, (H X).length = m
  get : ∀ X g, (H X ++ g)[id]? = some (.cells X)
  get' : ∀ X, (H X)[id]? = some (.cells X)
  set : ∀ X Y g, (H X ++ g).set id (.cells Y) = H Y ++ g
  set' : ∀ X Y, (H X).set id (.cells Y) = H Y
  g0 : ∀ X x g, (H X ++ (x :: g))[m]? = some x
  g1 : ∀ X x y g, (H X ++ (x :: y :: g))[m + 1]? = some y
  g2 : ∀ X x y z g, (H X ++ (x :: y :: z :: g))[m + 2]? = some z
  s0 : ∀ X x g u, (H X ++ (x :: g)).set m u = H X ++ (u :: g)
  s1 : ∀ X x y g u, (H X ++ (x :: y :: g)).set (m + 1) u = H X ++ (x :: u :: g)
  s2 : ∀ X x y z g u, (H X ++ (x :: y :: z :: g)).set (m + 2) u = H X ++ (x :: y :: u :: g)
  wf : ∀ X, closedL X = true → (H X).all (belowO m) = true
theorem app_get {α : Type} (h t : List α) (m n : Nat) (hm : h.length = m) : (h ++ t)[m + n]? = t[n]? := by rw [← hm]; exact get_app h t n
theorem app_set {α : Type} (h t : List α) (m n : Nat) (x : α) (hm : h.length = m) : (h ++ t).set (m + n) x = h ++ t.set n x := by rw [← hm]; exact set_app h t n x
theorem hp_of {h : Heap} {id : Nat} {X0 : List AV} (hb : h[id]? = some (.cells X0)) (hw : h.all (belowO h.length) = true) : Hp (fun X => h.set id (.cells X)) id h.length ∧ h = h.set id (.cells X0) := by
  obtain ⟨hlt, he⟩ := List.getElem?_eq_some_iff.1 hb
  have hl : ∀ X : List AV, (h.set id (.cells X)).length = h.length := fun X => List.length_set
  refine ⟨⟨hlt, hl, ?_, ?_, ?_, ?_, ?_, ?_, ?_, ?_, ?_, ?_, ?_⟩, by rw [← he, List.set_getElem_self]⟩
  · intro X g; rw [List.getElem?_append_left (by rw [hl]; exact hlt), List.getElem?_set_self hlt]
  · intro X; rw [List.getElem?_set_self hlt]
  · intro X Y g; rw [List.set_append_left _ _ (by rw [hl]; exact hlt), List.set_set]
  · intro X Y; rw [List.set_set]
  · intro X x g; exact app_get _ _ _ 0 (hl X)
  · intro X x y g; exact app_get _ _ _ 1 (hl X)
  · intro X x y z g; exact app_get _ _ _ 2 (hl X)
  · intro X x g u; exact app_set _ _ _ 0 u (hl X)
  · intro X x y g u; exact app_set _ _ _ 1 u (hl X)
  · intro X x y z g u; exact app_set _ _ _ 2 u (hl X)
  · intro X hX
    rw [List.all_eq_true] at hw ⊢
    intro o ho
    rcases List.mem_or_eq_of_mem_set ho with ho | rfl
    · exact hw o ho
    · exact namL_imp (fun i hi => by cases hi) X hX
theorem trim_sym {H : Heap} {m : Nat} (g : Heap) {keep : List Nat} {e : Env} (hm : H.length = m) (hw : H.all (belowO m) = true) (hk : keep.all (fun t => below m (getE e t)) = true) : trim keep true m e (H ++ g) = some (keep.map (fun t => (t, getE e t)), H) := by
  unfold trim
  have ht : (H ++ g).take m = H := by rw [← hm, List.take_left]
  by_cases hg : m < (H ++ g).length
  · rw [if_pos ⟨rfl, hg⟩, ht, hk, hw]; rfl
  · have : g = [] := by
      rw [List.length_append, hm] at hg
      exact List.eq_nil_of_length_eq_zero (by omega)
    rw [if_neg (by intro h; exact hg h.2), this, List.append_nil]
end Go.Proofs.YtkihcmlmcgokhaaDoor.AM

/- layer 05: Put. -/
namespace Go.Proofs.YtkihcmlmcgokhaaDoor.AM
open Go
set_option maxRecDepth 100000
set_option maxHeartbeats 4000000
set_option linter.unusedVariables false
set_option linter.unusedSimpArgs false
/-- what Put asks of a shelf that holds n -/
structure PutH (l : List Ent) (n : Nat) : Prop extends Shw l where
  lt : n < 4095
  ok : ∀ (j : Nat) (x : Ent), j < lowS (4095 - n) → l[j]? = some x → x.b = true ∧ okM n x.m = true
def fitsP (l : List Ent) (n : Nat) (s : List Int) : Prop := ∀ (j : Nat) (x : Ent), j < lowS (4095 - n) → l[j]? = some x → makeS s n x.m = x.s
theorem hp_wf {H : List AV → Heap} {id m : Nat} (hp : Hp H id m) {X : List AV} (hX : closedL X = true) {g : Heap} (hg : g.all (belowO 0) = true) (i : Nat) : (H X ++ g).all (belowO (m + i)) = true := by
  rw [List.all_append, Bool.and_eq_true]
  have up : ∀ {a b : Nat} (hab : a ≤ b) (o : AObj), belowO a o = true → belowO b o = true := by
    intro a b hab o ho
    have hi : ∀ i, decide (i < a) = true → decide (i < b) = true := fun i h => by simp at h ⊢; omega
    match o, ho with
    | .box _ cs, ho => exact namL_imp hi cs ho
    | .row .., _ => rfl
    | .map es, ho =>
      simp only [belowO, List.all_eq_true, Bool.and_eq_true] at ho ⊢
      exact fun p hp => ⟨nam_imp hi _ (ho p hp).1, nam_imp hi _ (ho p hp).2⟩
  constructor
  · rw [List.all_eq_true]
    exact fun o ho => up (by omega) o (List.all_eq_true.1 (hp.wf X hX) o ho)
  · rw [List.all_eq_true]
    exact fun o ho => up (by omega) o (List.all_eq_true.1 hg o ho)
theorem box_cl (s : List Int) : belowO 0 (.cells (s.map u8)) = true := u8_nam _ s
theorem put_loop1 {H : List AV → Heap} {id m : Nat} (hp : Hp H id m) {l : List Ent} {n : Nat} (hl : PutH l n) (s : List Int) (hs : Sec s) (P : AV) (hP : below (m + 1) P = true) (hPk : lowS (4095 - n) ≠ 0 → P = .ms id 0 (some 34) (lowS (4095 - n))) (e : Env)
    (e0 : getE e 0 = .ptr id 0) (e3 : getE e 3 = .ptr m 0) (e6 : getE e 6 = i64 (lowS (4095 - n))) (e33 : getE e 33 = P) (e34 : getE e 34 = i64 (lowS (4095 - n))) (e35 : getE e 35 = i64 0) {Q : Res → Prop}
    (hQ1 : fitsP l n s → ∀ e', getE e' 0 = .ptr id 0 → getE e' 3 = .ptr m 0 → getE e' 6 = i64 (lowS (4095 - n)) → Q (.exit 1, e', H (shC l n) ++ [AObj.cells (s.map u8)]))
    (hQ2 : ¬ fitsP l n s → ∀ e' g, g.all (belowO 0) = true → getE e' 4 = i64 50 → Q (.ret, e', H (shC l n) ++ g)) :
    WP Q (axl T [0, 3, 6, 33, 34, 35] true L15_1 (m + 1) e (H (shC l n) ++ [AObj.cells (s.map u8)])) := by
  have hsh := hl.toShw
  have hlt := hl.lt
  have hk12 := low_lt n hlt
  have hd := dg_of hs.len
  have hwf := hp_wf hp (shC_nam _ l n) (g := [AObj.cells (s.map u8)]) (by rw [List.all_cons, box_cl]; rfl) 1
  have hHl : (H (shC l n) ++ [AObj.cells (s.map u8)]).length = m + 1 := by rw [List.length_append, hp.len]; rfl
  have hX := hsh.last n
  have hok := hl.ok
  unfold fitsP at hQ1 hQ2
  generalize hk : lowS (4095 - n) = k at *
  refine WP_loop (I := fun f e h => ∃ (j : Nat) (g : Heap), f = k - j ∧ j ≤ k ∧ (∀ i x, i < j → l[i]? = some x → makeS s n x.m = x.s) ∧ getE e 0 = .ptr id 0 ∧ getE e 3 = .ptr m 0 ∧ getE e 6 = i64 k ∧ getE e 33 = P ∧ getE e 34 = i64 k ∧ getE e 35 = i64 j ∧ h = (H (shC l n) ++ [AObj.cells (s.map u8)]) ++ g) ?_ k _ _
    ⟨0, [], rfl, Nat.zero_le _, fun i x hi => by omega, e0, e3, e6, e33, e34, e35, by rw [List.append_nil]⟩
  clear e0 e3 e6 e33 e34 e35 e
  rintro f e h ⟨j, g, rfl, hj, hall, e0, e3, e6, e33, e34, e35, rfl⟩
  rw [trim_sym g hHl hwf (by simp [e0, e3, e6, e33, e34, e35, hP, below, nam]; have := hp.lt; omega)]
  have q1 := hd.len
  have q5 := hd.tk
  by_cases hjk : j = k
  · subst hjk
    have hlt' : ¬ ((j : Int) < (j : Int)) := Int.lt_irrefl _
    have hQ := hQ1 (fun i x hi hx => hall i x hi hx)
    clear hQ1 hQ2
    first | have hb := hb | have hb := trivial
    repeat' (first | (simp -implicitDefEqProofs (disch := omega) only [hb, L15_1, e0, e3, e6, e33, e34, e35, hlt', wC, initE, aop, Nat.reduceEqDiff, ↓reduceIte, Nat.reduceAdd, finish, resOf, tupOf, AM.freeze, freeze1, freezeL, closed, nam, namL, if_true, if_false, deref, boxAt, exAt, ldCells, oneL, oneCell, Nat.reduceLeDiff, evL, adopt, rigid, rigidL, trim, Int.reduceEq, Int.reduceMod, Int.reduceDiv, if_pos, if_neg, asI, forall_const, implies_true, chkD, chkO, chkW, effB, reB, vEq, beq_self_eq_true, Nat.reduceSub, Nat.reduceLT, Int.reduceSub, Int.reduceAdd, Int.reduceMul, Int.reduceLT, Int.reduceLE, Int.reduceToNat, optI, aslice, cutSl, cutMs, cutStr, cutOwn, cellsOf, one, elCells, lenOf, beqV, beqVL, strip, stripO, convS]) | ((first | rw [WP_condK] | rw [WP_opsG] | rw [WP_quiG] | rw [WP_dG]); refine And.intro (fun hb => ?_) (fun hb => ?_) <;> (first | have hd := dq1 hb | have hd := dq2 hb | have hd := dq3 hb | have hd := dq4 hb | skip)))
    exact hQ _ rfl rfl rfl
  · have hlt' : ((j : Int) < (k : Int)) := by omega
    rw [hPk (by omega)] at e33
    obtain ⟨x, hx⟩ : ∃ x, l[j]? = some x := ⟨_, List.getElem?_eq_getElem (by rw [hsh.len]; omega)⟩
    have hsx : Sec x.s := hsh.sec x (List.mem_of_getElem? hx)
    obtain ⟨hb, hm⟩ := hok j x (by omega) hx
    have hat := hsh.at_ n hx
    have hrest := hsh.rest n (j := j) (by omega)
    have hc := ecf x hsx
    rw [hb] at hc
    have c1 := hc.len
    have c2 := hc.one
    have c3 := hc.sp
    have c4 := hc.n
    have c5 := hc.is
    have c6 := hc.tk
    have c7 := hc.tk34
    have c8 := hc.n'
    have c9 := hc.is'
    have hmk := call_make s hs n x.m
    rw [show makeE n x.m = 0 by unfold makeE; rw [hm]; rfl] at hmk
    have hsm := sec_make hs n x.m
    have hkq := keq (makeS s n x.m) x.s (by rw [hsm.len, hsx.len])
    have hdm := dg_of hsm.len
    have m1 := hdm.len
    have m2 := hdm.one
    have m5 := hdm.tk
    have m6 := hdm.sp
    have m7 := hdm.sl
    have hdx := dg_of hsx.len
    have x1 := hdx.len
    have hget := hp.get
    have hg0 := hp.g0
    have hg1 := hp.g1
    have hg2 := hp.g2
    have hs0 := hp.s0
    have hs1 := hp.s1
    have hs2 := hp.s2
    have hlen := hp.len
    have hbq := kbeq s
    have hbm := kbeq (makeS s n x.m)
    have hpu : T.pure 10 = true := rfl
    have hnD := u8_nam (fun i => decide (i < 0)) s
    have hnM := u8_nam (fun i => decide (i < 0)) (makeS s n x.m)
    have hnE := ec_nam (fun i => decide (i < 0)) x
    have hri : rigidL ((makeS s n x.m).map u8) = true := by
      rw [show (makeS s n x.m).map u8 = ((makeS s n x.m).map fun n => Value.int .u8 n).map AV.sc by rw [List.map_map]; rfl]
      exact sc_rigid _
    have hj0 := Int.natCast_nonneg j
    have hjn : ((j : Int)).toNat = j := Int.toNat_natCast j
    by_cases hfit : makeS s n x.m = x.s
    · have hfd : decide (makeS s n x.m = x.s) = true := decide_eq_true hfit
      have hgo : ∀ i y, i < j + 1 → l[i]? = some y → makeS s n y.m = y.s := by
        intro i y hi hy
        by_cases hij : i = j
        · rw [hij, hx] at hy
          cases hy
          exact hfit
        · exact hall i y (by omega) hy
      rw [hfd] at hkq
      clear hQ1 hQ2
      generalize (makeS s n x.m).map u8 = M at *
      generalize ec x = E at *
      generalize x.s.map u8 = Y at *
      generalize s.map u8 = D at *
      generalize shC l n = X at *
      first | have hb := hb | have hb := trivial
      repeat' (first | (simp -implicitDefEqProofs (disch := omega) only [hb, L15_1, e0, e3, e6, e33, e34, e35, hlt', hat, hrest, c1, c2, c3, c4, c5, c6, c7, c8, c9, hmk, hkq, m1, m2, m5, m6, m7, x1, hget, hg0, hg1, hg2, hs0, hs1, hs2, hlen, q1, q5, hbq, hbm, hpu, hri, hj0, hjn, hX, List.append_assoc, wC, initE, aop, Nat.reduceEqDiff, ↓reduceIte, Nat.reduceAdd, finish, resOf, tupOf, AM.freeze, freeze1, freezeL, closed, nam, namL, if_true, if_false, deref, boxAt, exAt, ldCells, oneL, oneCell, Nat.reduceLeDiff, evL, adopt, rigid, rigidL, trim, Int.reduceEq, Int.reduceMod, Int.reduceDiv, if_pos, if_neg, asI, forall_const, implies_true, chkD, chkO, chkW, effB, reB, vEq, beq_self_eq_true, Nat.reduceSub, Nat.reduceLT, Int.reduceSub, Int.reduceAdd, Int.reduceMul, Int.reduceLT, Int.reduceLE, Int.reduceToNat, optI, aslice, cutSl, cutMs, cutStr, cutOwn, cellsOf, one, elCells, lenOf, beqV, beqVL, strip, stripO, convS]) | ((first | rw [WP_condK] | rw [WP_opsG] | rw [WP_quiG] | rw [WP_dG]); refine And.intro (fun hb => ?_) (fun hb => ?_) <;> (first | have hd := dq1 hb | have hd := dq2 hb | have hd := dq3 hb | have hd := dq4 hb | skip)))
      exact ⟨k - (j + 1), by omega, j + 1, _, rfl, by omega, hgo, (hPk (by omega)).symm, rfl, rfl⟩
    · have hfd : decide (makeS s n x.m = x.s) = false := decide_eq_false hfit
      rw [hfd] at hkq
      have hQ := hQ2 (fun h => hfit (h j x (by omega) hx))
      clear hQ1 hQ2
      generalize (makeS s n x.m).map u8 = M at *
      generalize ec x = E at *
      generalize x.s.map u8 = Y at *
      generalize s.map u8 = D at *
      generalize shC l n = X at *
      first | have hb := hb | have hb := trivial
      repeat' (first | (simp -implicitDefEqProofs (disch := omega) only [hb, L15_1, e0, e3, e6, e33, e34, e35, hlt', hat, hrest, c1, c2, c3, c4, c5, c6, c7, c8, c9, hmk, hkq, m1, m2, m5, m6, m7, x1, hget, hg0, hg1, hg2, hs0, hs1, hs2, hlen, q1, q5, hbq, hbm, hpu, hri, hj0, hjn, hX, List.append_assoc, wC, initE, aop, Nat.reduceEqDiff, ↓reduceIte, Nat.reduceAdd, finish, resOf, tupOf, AM.freeze, freeze1, freezeL, closed, nam, namL, if_true, if_false, deref, boxAt, exAt, ldCells, oneL, oneCell, Nat.reduceLeDiff, evL, adopt, rigid, rigidL, trim, Int.reduceEq, Int.reduceMod, Int.reduceDiv, if_pos, if_neg, asI, forall_const, implies_true, chkD, chkO, chkW, effB, reB, vEq, beq_self_eq_true, Nat.reduceSub, Nat.reduceLT, Int.reduceSub, Int.reduceAdd, Int.reduceMul, Int.reduceLT, Int.reduceLE, Int.reduceToNat, optI, aslice, cutSl, cutMs, cutStr, cutOwn, cellsOf, one, elCells, lenOf, beqV, beqVL, strip, stripO, convS]) | ((first | rw [WP_condK] | rw [WP_opsG] | rw [WP_quiG] | rw [WP_dG]); refine And.intro (fun hb => ?_) (fun hb => ?_) <;> (first | have hd := dq1 hb | have hd := dq2 hb | have hd := dq3 hb | have hd := dq4 hb | skip)))
      exact hQ _ _ (by simp only [List.all_cons, List.all_nil, Bool.and_true, belowO, belowL, hnD, hnE, hnM]) rfl
end Go.Proofs.YtkihcmlmcgokhaaDoor.AM

/- layer 05: Put, whole. -/
namespace Go.Proofs.YtkihcmlmcgokhaaDoor.AM
open Go
set_option maxRecDepth 100000
set_option maxHeartbeats 4000000
set_option linter.unusedVariables false
set_option linter.unusedSimpArgs false
theorem loE_get {l : List Ent} (hl : l.length = 13) (j i : Nat) (hj : j ≤ 13) : (loE j l)[i]? = if i < j then some noE else l[i]? := by
  unfold loE
  split
  · rename_i h
    rw [List.getElem?_append_left (by simpa using h), List.getElem?_replicate, if_pos h]
  · rename_i h
    rw [List.getElem?_append_right (by simp; omega), List.length_replicate, List.getElem?_drop]
    congr 1
    omega
theorem loE_len {l : List Ent} (hl : l.length = 13) (j : Nat) (hj : j ≤ 13) : (loE j l).length = 13 := by
  unfold loE
  simp [hl]
  omega
theorem loE_next {l : List Ent} (hl : l.length = 13) (j : Nat) (hj : j < 13) : (loE j l).set j noE = loE (j + 1) l := by
  refine List.ext_getElem? fun i => ?_
  rw [loE_get hl (j + 1) i (by omega), List.getElem?_set, loE_len hl j (by omega), loE_get hl j i (by omega)]
  by_cases h1 : j = i
  · rw [if_pos h1, if_pos (by omega), if_pos (by omega)]
  · rw [if_neg h1]
    by_cases h2 : i < j
    · rw [if_pos h2, if_pos (by omega)]
    · rw [if_neg h2, if_neg (by omega)]
theorem loE_shw {l : List Ent} (h : Shw l) (j : Nat) (hj : j ≤ 13) : Shw (loE j l) :=
  ⟨loE_len h.len j hj, fun x hx => by
    unfold loE at hx
    rcases List.mem_append.1 hx with hx | hx
    · rw [(List.mem_replicate.1 hx).2]; exact sec_zero
    · exact h.sec x (List.mem_of_mem_drop hx)⟩
theorem loE_zero (l : List Ent) : loE 0 l = l := rfl
theorem z34_eq : AV.agg [.int .u8 0, .int .u8 0, .int .u8 0, .int .u8 0, .int .u8 0, .int .u8 0, .int .u8 0, .int .u8 0, .int .u8 0, .int .u8 0, .int .u8 0, .int .u8 0, .int .u8 0, .int .u8 0, .int .u8 0, .int .u8 0, .int .u8 0, .int .u8 0, .int .u8 0, .int .u8 0, .int .u8 0, .int .u8 0, .int .u8 0, .int .u8 0, .int .u8 0, .int .u8 0, .int .u8 0, .int .u8 0, .int .u8 0, .int .u8 0, .int .u8 0, .int .u8 0, .int .i64 0, .bool false] = AV.agg (ec noE) := rfl
theorem put_loop2 {H : List AV → Heap} {id m : Nat} (hp : Hp H id m) {l : List Ent} (hl : Shw l) (n : Int) (s : List Int) (k : Nat) (hk : k < 13) (e : Env) (e0 : getE e 0 = .ptr id 0) (e74 : getE e 74 = i64 k) (e75 : getE e 75 = i64 0) {Q : Res → Prop}
    (hQ : ∀ e', getE e' 0 = .ptr id 0 → Q (.exit 3, e', H (shC (loE k l) n) ++ [AObj.cells (s.map u8)])) :
    WP Q (axl T [0, 74, 75] true L15_0 (m + 1) e (H (shC l n) ++ [AObj.cells (s.map u8)])) := by
  refine WP_loop (I := fun f e h => ∃ (j : Nat), f = k - j ∧ j ≤ k ∧ getE e 0 = .ptr id 0 ∧ getE e 74 = i64 k ∧ getE e 75 = i64 j ∧ h = H (shC (loE j l) n) ++ [AObj.cells (s.map u8)]) ?_ k _ _ ⟨0, rfl, Nat.zero_le _, e0, e74, e75, rfl⟩
  clear e0 e74 e75 e
  rintro f e h ⟨j, rfl, hj, e0, e74, e75, rfl⟩
  have hget := hp.get
  have hset := hp.set
  have hlen := hp.len
  rw [trim_same' (by rw [List.length_append, hp.len]; exact Nat.le_refl _)]
  have hj0 := Int.natCast_nonneg j
  have hjn : ((j : Int)).toNat = j := Int.toNat_natCast j
  by_cases hjk : j = k
  · subst hjk
    have hlt' : ¬ ((j : Int) < (j : Int)) := Int.lt_irrefl _
    first | have hb := hb | have hb := trivial
    repeat' (first | (simp -implicitDefEqProofs (disch := omega) only [hb, L15_0, e0, e74, e75, hlt', wC, initE, aop, Nat.reduceEqDiff, ↓reduceIte, Nat.reduceAdd, finish, resOf, tupOf, AM.freeze, freeze1, freezeL, closed, nam, namL, if_true, if_false, deref, boxAt, exAt, ldCells, oneL, oneCell, Nat.reduceLeDiff, evL, adopt, rigid, rigidL, trim, Int.reduceEq, Int.reduceMod, Int.reduceDiv, if_pos, if_neg, asI, forall_const, implies_true, chkD, chkO, chkW, effB, reB, vEq, beq_self_eq_true, Nat.reduceSub, Nat.reduceLT, Int.reduceSub, Int.reduceAdd, Int.reduceMul, Int.reduceLT, Int.reduceLE, Int.reduceToNat, optI, aslice, cutSl, cutMs, cutStr, cutOwn, cellsOf, one, elCells, lenOf, beqV, beqVL, strip, stripO, convS]) | ((first | rw [WP_condK] | rw [WP_opsG] | rw [WP_quiG] | rw [WP_dG]); refine And.intro (fun hb => ?_) (fun hb => ?_) <;> (first | have hd := dq1 hb | have hd := dq2 hb | have hd := dq3 hb | have hd := dq4 hb | skip)))
    exact hQ _ rfl
  · have hlt' : ((j : Int) < (k : Int)) := by omega
    have hj13 : ((j : Int) < 13) := by omega
    have hz := z34_eq
    have hsj := loE_shw hl j (by omega)
    have hsp := hsj.put n (j := j) (by omega) noE sec_zero
    rw [loE_next hl.len j (by omega)] at hsp
    have hXl := hsj.size n
    have hrt : j * 34 + 34 ≤ 443 := by omega
    have hE := ec_len (x := noE) sec_zero
    have hE2 := (ecf noE sec_zero).one
    generalize ec noE = E at *
    generalize shC (loE j l) n = X at *
    first | have hb := hb | have hb := trivial
    repeat' (first | (simp -implicitDefEqProofs (disch := omega) only [hb, L15_0, e0, e74, e75, hlt', hj13, hj0, hjn, hz, hsp, hXl, hrt, hE, hE2, hget, hset, hlen, wC, initE, aop, Nat.reduceEqDiff, ↓reduceIte, Nat.reduceAdd, finish, resOf, tupOf, AM.freeze, freeze1, freezeL, closed, nam, namL, if_true, if_false, deref, boxAt, exAt, ldCells, oneL, oneCell, Nat.reduceLeDiff, evL, adopt, rigid, rigidL, trim, Int.reduceEq, Int.reduceMod, Int.reduceDiv, if_pos, if_neg, asI, forall_const, implies_true, chkD, chkO, chkW, effB, reB, vEq, beq_self_eq_true, Nat.reduceSub, Nat.reduceLT, Int.reduceSub, Int.reduceAdd, Int.reduceMul, Int.reduceLT, Int.reduceLE, Int.reduceToNat, optI, aslice, cutSl, cutMs, cutStr, cutOwn, cellsOf, one, elCells, lenOf, beqV, beqVL, strip, stripO, convS]) | ((first | rw [WP_condK] | rw [WP_opsG] | rw [WP_quiG] | rw [WP_dG]); refine And.intro (fun hb => ?_) (fun hb => ?_) <;> (first | have hd := dq1 hb | have hd := dq2 hb | have hd := dq3 hb | have hd := dq4 hb | skip)))
    exact ⟨k - (j + 1), by omega, j + 1, rfl, by omega, rfl, rfl⟩
theorem splice34 {D : List AV} (h : D.length = 32) : splice [.int .u8 0, .int .u8 0, .int .u8 0, .int .u8 0, .int .u8 0, .int .u8 0, .int .u8 0, .int .u8 0, .int .u8 0, .int .u8 0, .int .u8 0, .int .u8 0, .int .u8 0, .int .u8 0, .int .u8 0, .int .u8 0, .int .u8 0, .int .u8 0, .int .u8 0, .int .u8 0, .int .u8 0, .int .u8 0, .int .u8 0, .int .u8 0, .int .u8 0, .int .u8 0, .int .u8 0, .int .u8 0, .int .u8 0, .int .u8 0, .int .u8 0, .int .u8 0, .int .i64 0, .bool false] 0 D = D ++ [i64 0, .bool false] := by
  rw [splice_at (by rw [h]; decide), h]; rfl
theorem set34 {D : List AV} (h : D.length = 32) (n : Int) : ((D ++ [i64 0, .bool false]).set 32 (i64 n)).set 33 (.bool true) = D ++ [i64 n, .bool true] := by
  rw [List.set_append_right _ _ (by omega), List.set_append_right _ _ (by omega), h]; rfl
theorem put_fits {H : List AV → Heap} {id m : Nat} (hp : Hp H id m) {l : List Ent} {n : Nat} (hl : PutH l n) (s : List Int) (hs : Sec s) (hf : fitsP l n s) :
    ag T 15 [.ptr id 0, .agg (s.map u8)] (H (shC l n)) = some (i64 0, H (shC (loE (lowS (4095 - n)) (l.set (lowS (4095 - n)) ⟨s, n, true⟩)) ((n + 1 : Nat) : Int)) ++ [AObj.cells (s.map u8)]) := by
  refine WP_eq (k_wp rfl t15 rfl rfl ?_)
  have hsh := hl.toShw
  have hlt := hl.lt
  have hk12 := low_lt n hlt
  have hix := call_index n (by omega)
  have hd := dg_of hs.len
  have q1 := hd.len
  have q2 := hd.one
  have q5 := hd.tk
  have hX := hsh.last n
  have hgt : ¬ ((4095 : Int) < (n : Int)) := by omega
  have hXl := hsh.size n
  have hlen := hp.len
  have hget := hp.get
  have hget' := hp.get'
  have hg0 := hp.g0
  have hset := hp.set
  have hid := hp.lt
  have hk13 : ((lowS (4095 - n) : Nat) : Int) ≤ 13 := by omega
  have hk13' : ((lowS (4095 - n) : Nat) : Int) < 13 := by omega
  have hk0 := Int.natCast_nonneg (lowS (4095 - n))
  have hk13n : lowS (4095 - n) < 13 := by omega
  have hkn : (((lowS (4095 - n) : Nat) : Int)).toNat = lowS (4095 - n) := Int.toNat_natCast _
  have hsx := hsh.set (lowS (4095 - n)) (x := ⟨s, n, true⟩) hs
  have hsp := hsh.put n (j := lowS (4095 - n)) (by omega) ⟨s, n, true⟩ hs
  have hec := ecf ⟨s, n, true⟩ hs
  have hnum := (loE_shw hsx (lowS (4095 - n)) (by omega)).num n ((n + 1 : Nat) : Int)
  have hnl := (loE_shw hsx (lowS (4095 - n)) (by omega)).last n
  have hns := (loE_shw hsx (lowS (4095 - n)) (by omega)).size n
  have hrt : lowS (4095 - n) * 34 + 34 ≤ 443 := by omega
  have hstr := hd.st
  have fin_ : ∀ (P : AV), below (m + 1) P = true → (lowS (4095 - n) ≠ 0 → P = .ms id 0 (some 34) (lowS (4095 - n))) → True := fun _ _ _ => trivial
  by_cases hz : lowS (4095 - n) = 0
  · have hz0 : ((0 : Int) = ((lowS (4095 - n) : Nat) : Int)) = True := eq_true (by omega)
    first | have hb := hb | have hb := trivial
    repeat' (first | (simp -implicitDefEqProofs (disch := omega) only [hb, F15, isNil, q1, q2, q5, hlen, hget, hget', hg0, hX, hgt, hXl, hix, hk13, hk0, hz0, hkn, Int.sub_zero, Nat.zero_mul, List.append_assoc, wC, initE, aop, Nat.reduceEqDiff, ↓reduceIte, Nat.reduceAdd, finish, resOf, tupOf, AM.freeze, freeze1, freezeL, closed, nam, namL, if_true, if_false, deref, boxAt, exAt, ldCells, oneL, oneCell, Nat.reduceLeDiff, evL, adopt, rigid, rigidL, trim, Int.reduceEq, Int.reduceMod, Int.reduceDiv, if_pos, if_neg, asI, forall_const, implies_true, chkD, chkO, chkW, effB, reB, vEq, beq_self_eq_true, Nat.reduceSub, Nat.reduceLT, Int.reduceSub, Int.reduceAdd, Int.reduceMul, Int.reduceLT, Int.reduceLE, Int.reduceToNat, optI, aslice, cutSl, cutMs, cutStr, cutOwn, cellsOf, one, elCells, lenOf, beqV, beqVL, strip, stripO, convS]) | ((first | rw [WP_condK] | rw [WP_opsG] | rw [WP_quiG] | rw [WP_dG]); refine And.intro (fun hb => ?_) (fun hb => ?_) <;> (first | have hd := dq1 hb | have hd := dq2 hb | have hd := dq3 hb | have hd := dq4 hb | skip)))
    refine put_loop1 hp hl s hs _ (by rfl) (fun h => absurd hz h) _ rfl rfl rfl rfl (by show AV.int .i64 ((0 : Nat) : Int) = _; rw [hz]) rfl (fun _ e' e0 e3 e6 => ?_) (fun h => absurd hf h)
    have hri : rigidL (s.map u8) = true := by
      rw [show s.map u8 = (s.map fun n => Value.int .u8 n).map AV.sc by rw [List.map_map]; rfl]
      exact sc_rigid _
    have hp1 := splice34 (D := s.map u8) q1
    have hp2 := set34 (D := s.map u8) q1 n
    rw [show s.map u8 ++ [i64 (n : Int), .bool true] = ec ⟨s, n, true⟩ from rfl] at hp2
    have c1 := hec.len
    have c2 := hec.one
    first | have hb := hb | have hb := trivial
    repeat' (first | (simp -implicitDefEqProofs (disch := omega) only [hb, F15, e0, e3, e6, hri, hp1, hp2, hsp, c1, c2, hrt, q1, q2, q5, hlen, hget, hg0, hset, hX, hXl, hk13', hk0, hkn, hstr, List.append_assoc, wC, initE, aop, Nat.reduceEqDiff, ↓reduceIte, Nat.reduceAdd, finish, resOf, tupOf, AM.freeze, freeze1, freezeL, closed, nam, namL, if_true, if_false, deref, boxAt, exAt, ldCells, oneL, oneCell, Nat.reduceLeDiff, evL, adopt, rigid, rigidL, trim, Int.reduceEq, Int.reduceMod, Int.reduceDiv, if_pos, if_neg, asI, forall_const, implies_true, chkD, chkO, chkW, effB, reB, vEq, beq_self_eq_true, Nat.reduceSub, Nat.reduceLT, Int.reduceSub, Int.reduceAdd, Int.reduceMul, Int.reduceLT, Int.reduceLE, Int.reduceToNat, optI, aslice, cutSl, cutMs, cutStr, cutOwn, cellsOf, one, elCells, lenOf, beqV, beqVL, strip, stripO, convS]) | ((first | rw [WP_condK] | rw [WP_opsG] | rw [WP_quiG] | rw [WP_dG]); refine And.intro (fun hb => ?_) (fun hb => ?_) <;> (first | have hd := dq1 hb | have hd := dq2 hb | have hd := dq3 hb | have hd := dq4 hb | skip)))
    refine put_loop2 hp hsx n s (lowS (4095 - n)) hk13n ((75, i64 0) :: (74, i64 (lowS (4095 - n))) :: _) ?_ rfl rfl (fun e2 f0 => ?_)
    · exact e0
    have hsz' : (H (shC (loE (lowS (4095 - n)) (l.set (lowS (4095 - n)) ⟨s, n, true⟩)) n) ++ [AObj.cells (s.map u8)]).length = m + 1 := by rw [List.length_append, hp.len]; rfl
    have hadd : IntKind.i64.wrap ((n : Int) + 1) = ((n + 1 : Nat) : Int) := by rw [IntKind.wrap_i64]; omega
    first | have hb := hb | have hb := trivial
    repeat' (first | (simp -implicitDefEqProofs (disch := omega) only [hb, F15, f0, hnl, hns, hnum, hadd, hget, hset, wC, initE, aop, Nat.reduceEqDiff, ↓reduceIte, Nat.reduceAdd, finish, resOf, tupOf, AM.freeze, freeze1, freezeL, closed, nam, namL, if_true, if_false, deref, boxAt, exAt, ldCells, oneL, oneCell, Nat.reduceLeDiff, evL, adopt, rigid, rigidL, trim, Int.reduceEq, Int.reduceMod, Int.reduceDiv, if_pos, if_neg, asI, forall_const, implies_true, chkD, chkO, chkW, effB, reB, vEq, beq_self_eq_true, Nat.reduceSub, Nat.reduceLT, Int.reduceSub, Int.reduceAdd, Int.reduceMul, Int.reduceLT, Int.reduceLE, Int.reduceToNat, optI, aslice, cutSl, cutMs, cutStr, cutOwn, cellsOf, one, elCells, lenOf, beqV, beqVL, strip, stripO, convS]) | ((first | rw [WP_condK] | rw [WP_opsG] | rw [WP_quiG] | rw [WP_dG]); refine And.intro (fun hb => ?_) (fun hb => ?_) <;> (first | have hd := dq1 hb | have hd := dq2 hb | have hd := dq3 hb | have hd := dq4 hb | skip)))
    done
  · have hz0 : ¬ ((0 : Int) = ((lowS (4095 - n) : Nat) : Int)) := by omega
    first | have hb := hb | have hb := trivial
    repeat' (first | (simp -implicitDefEqProofs (disch := omega) only [hb, F15, isNil, q1, q2, q5, hlen, hget, hget', hg0, hX, hgt, hXl, hix, hk13, hk0, hz0, hkn, Int.sub_zero, Nat.zero_mul, List.append_assoc, wC, initE, aop, Nat.reduceEqDiff, ↓reduceIte, Nat.reduceAdd, finish, resOf, tupOf, AM.freeze, freeze1, freezeL, closed, nam, namL, if_true, if_false, deref, boxAt, exAt, ldCells, oneL, oneCell, Nat.reduceLeDiff, evL, adopt, rigid, rigidL, trim, Int.reduceEq, Int.reduceMod, Int.reduceDiv, if_pos, if_neg, asI, forall_const, implies_true, chkD, chkO, chkW, effB, reB, vEq, beq_self_eq_true, Nat.reduceSub, Nat.reduceLT, Int.reduceSub, Int.reduceAdd, Int.reduceMul, Int.reduceLT, Int.reduceLE, Int.reduceToNat, optI, aslice, cutSl, cutMs, cutStr, cutOwn, cellsOf, one, elCells, lenOf, beqV, beqVL, strip, stripO, convS]) | ((first | rw [WP_condK] | rw [WP_opsG] | rw [WP_quiG] | rw [WP_dG]); refine And.intro (fun hb => ?_) (fun hb => ?_) <;> (first | have hd := dq1 hb | have hd := dq2 hb | have hd := dq3 hb | have hd := dq4 hb | skip)))
    refine put_loop1 hp hl s hs _ (by simp only [below, nam, decide_eq_true_eq]; omega) (fun _ => rfl) _ rfl rfl rfl rfl rfl rfl (fun _ e' e0 e3 e6 => ?_) (fun h => absurd hf h)
    have hri : rigidL (s.map u8) = true := by
      rw [show s.map u8 = (s.map fun n => Value.int .u8 n).map AV.sc by rw [List.map_map]; rfl]
      exact sc_rigid _
    have hp1 := splice34 (D := s.map u8) q1
    have hp2 := set34 (D := s.map u8) q1 n
    rw [show s.map u8 ++ [i64 (n : Int), .bool true] = ec ⟨s, n, true⟩ from rfl] at hp2
    have c1 := hec.len
    have c2 := hec.one
    first | have hb := hb | have hb := trivial
    repeat' (first | (simp -implicitDefEqProofs (disch := omega) only [hb, F15, e0, e3, e6, hri, hp1, hp2, hsp, c1, c2, hrt, q1, q2, q5, hlen, hget, hg0, hset, hX, hXl, hk13', hk0, hkn, hstr, List.append_assoc, wC, initE, aop, Nat.reduceEqDiff, ↓reduceIte, Nat.reduceAdd, finish, resOf, tupOf, AM.freeze, freeze1, freezeL, closed, nam, namL, if_true, if_false, deref, boxAt, exAt, ldCells, oneL, oneCell, Nat.reduceLeDiff, evL, adopt, rigid, rigidL, trim, Int.reduceEq, Int.reduceMod, Int.reduceDiv, if_pos, if_neg, asI, forall_const, implies_true, chkD, chkO, chkW, effB, reB, vEq, beq_self_eq_true, Nat.reduceSub, Nat.reduceLT, Int.reduceSub, Int.reduceAdd, Int.reduceMul, Int.reduceLT, Int.reduceLE, Int.reduceToNat, optI, aslice, cutSl, cutMs, cutStr, cutOwn, cellsOf, one, elCells, lenOf, beqV, beqVL, strip, stripO, convS]) | ((first | rw [WP_condK] | rw [WP_opsG] | rw [WP_quiG] | rw [WP_dG]); refine And.intro (fun hb => ?_) (fun hb => ?_) <;> (first | have hd := dq1 hb | have hd := dq2 hb | have hd := dq3 hb | have hd := dq4 hb | skip)))
    refine put_loop2 hp hsx n s (lowS (4095 - n)) hk13n ((75, i64 0) :: (74, i64 (lowS (4095 - n))) :: _) ?_ rfl rfl (fun e2 f0 => ?_)
    · exact e0
    have hsz' : (H (shC (loE (lowS (4095 - n)) (l.set (lowS (4095 - n)) ⟨s, n, true⟩)) n) ++ [AObj.cells (s.map u8)]).length = m + 1 := by rw [List.length_append, hp.len]; rfl
    have hadd : IntKind.i64.wrap ((n : Int) + 1) = ((n + 1 : Nat) : Int) := by rw [IntKind.wrap_i64]; omega
    first | have hb := hb | have hb := trivial
    repeat' (first | (simp -implicitDefEqProofs (disch := omega) only [hb, F15, f0, hnl, hns, hnum, hadd, hget, hset, wC, initE, aop, Nat.reduceEqDiff, ↓reduceIte, Nat.reduceAdd, finish, resOf, tupOf, AM.freeze, freeze1, freezeL, closed, nam, namL, if_true, if_false, deref, boxAt, exAt, ldCells, oneL, oneCell, Nat.reduceLeDiff, evL, adopt, rigid, rigidL, trim, Int.reduceEq, Int.reduceMod, Int.reduceDiv, if_pos, if_neg, asI, forall_const, implies_true, chkD, chkO, chkW, effB, reB, vEq, beq_self_eq_true, Nat.reduceSub, Nat.reduceLT, Int.reduceSub, Int.reduceAdd, Int.reduceMul, Int.reduceLT, Int.reduceLE, Int.reduceToNat, optI, aslice, cutSl, cutMs, cutStr, cutOwn, cellsOf, one, elCells, lenOf, beqV, beqVL, strip, stripO, convS]) | ((first | rw [WP_condK] | rw [WP_opsG] | rw [WP_quiG] | rw [WP_dG]); refine And.intro (fun hb => ?_) (fun hb => ?_) <;> (first | have hd := dq1 hb | have hd := dq2 hb | have hd := dq3 hb | have hd := dq4 hb | skip)))
    done
theorem put_clash {H : List AV → Heap} {id m : Nat} (hp : Hp H id m) {l : List Ent} {n : Nat} (hl : PutH l n) (s : List Int) (hs : Sec s) (hf : ¬ fitsP l n s) :
    ∃ g, g.all (belowO 0) = true ∧ ag T 15 [.ptr id 0, .agg (s.map u8)] (H (shC l n)) = some (i64 50, H (shC l n) ++ g) := by
  suffices hh : WP (fun r => ∃ g, g.all (belowO 0) = true ∧ r = (i64 50, H (shC l n) ++ g)) (ag T 15 [.ptr id 0, .agg (s.map u8)] (H (shC l n))) by
    obtain ⟨r, h1, g, h2, rfl⟩ := WP_ex hh
    exact ⟨g, h2, h1⟩
  refine k_wp rfl t15 rfl rfl ?_
  have hsh := hl.toShw
  have hlt := hl.lt
  have hk12 := low_lt n hlt
  have hix := call_index n (by omega)
  have hd := dg_of hs.len
  have q1 := hd.len
  have q2 := hd.one
  have q5 := hd.tk
  have hX := hsh.last n
  have hgt : ¬ ((4095 : Int) < (n : Int)) := by omega
  have hXl := hsh.size n
  have hlen := hp.len
  have hget := hp.get
  have hget' := hp.get'
  have hg0 := hp.g0
  have hset := hp.set
  have hid := hp.lt
  have hk13 : ((lowS (4095 - n) : Nat) : Int) ≤ 13 := by omega
  have hk13' : ((lowS (4095 - n) : Nat) : Int) < 13 := by omega
  have hk0 := Int.natCast_nonneg (lowS (4095 - n))
  have hk13n : lowS (4095 - n) < 13 := by omega
  have hkn : (((lowS (4095 - n) : Nat) : Int)).toNat = lowS (4095 - n) := Int.toNat_natCast _
  have fin_ : ∀ (P : AV), below (m + 1) P = true → (lowS (4095 - n) ≠ 0 → P = .ms id 0 (some 34) (lowS (4095 - n))) → True := fun _ _ _ => trivial
  by_cases hz : lowS (4095 - n) = 0
  · have hz0 : ((0 : Int) = ((lowS (4095 - n) : Nat) : Int)) = True := eq_true (by omega)
    first | have hb := hb | have hb := trivial
    repeat' (first | (simp -implicitDefEqProofs (disch := omega) only [hb, F15, isNil, q1, q2, q5, hlen, hget, hget', hg0, hX, hgt, hXl, hix, hk13, hk0, hz0, hkn, Int.sub_zero, Nat.zero_mul, List.append_assoc, wC, initE, aop, Nat.reduceEqDiff, ↓reduceIte, Nat.reduceAdd, finish, resOf, tupOf, AM.freeze, freeze1, freezeL, closed, nam, namL, if_true, if_false, deref, boxAt, exAt, ldCells, oneL, oneCell, Nat.reduceLeDiff, evL, adopt, rigid, rigidL, trim, Int.reduceEq, Int.reduceMod, Int.reduceDiv, if_pos, if_neg, asI, forall_const, implies_true, chkD, chkO, chkW, effB, reB, vEq, beq_self_eq_true, Nat.reduceSub, Nat.reduceLT, Int.reduceSub, Int.reduceAdd, Int.reduceMul, Int.reduceLT, Int.reduceLE, Int.reduceToNat, optI, aslice, cutSl, cutMs, cutStr, cutOwn, cellsOf, one, elCells, lenOf, beqV, beqVL, strip, stripO, convS]) | ((first | rw [WP_condK] | rw [WP_opsG] | rw [WP_quiG] | rw [WP_dG]); refine And.intro (fun hb => ?_) (fun hb => ?_) <;> (first | have hd := dq1 hb | have hd := dq2 hb | have hd := dq3 hb | have hd := dq4 hb | skip)))
    refine put_loop1 hp hl s hs _ (by rfl) (fun h => absurd hz h) _ rfl rfl rfl rfl (by show AV.int .i64 ((0 : Nat) : Int) = _; rw [hz]) rfl (fun h => absurd h hf) (fun _ e' g hg e4 => ?_)
    first | have hb := hb | have hb := trivial
    repeat' (first | (simp -implicitDefEqProofs (disch := omega) only [hb, F15, e4, wC, initE, aop, Nat.reduceEqDiff, ↓reduceIte, Nat.reduceAdd, finish, resOf, tupOf, AM.freeze, freeze1, freezeL, closed, nam, namL, if_true, if_false, deref, boxAt, exAt, ldCells, oneL, oneCell, Nat.reduceLeDiff, evL, adopt, rigid, rigidL, trim, Int.reduceEq, Int.reduceMod, Int.reduceDiv, if_pos, if_neg, asI, forall_const, implies_true, chkD, chkO, chkW, effB, reB, vEq, beq_self_eq_true, Nat.reduceSub, Nat.reduceLT, Int.reduceSub, Int.reduceAdd, Int.reduceMul, Int.reduceLT, Int.reduceLE, Int.reduceToNat, optI, aslice, cutSl, cutMs, cutStr, cutOwn, cellsOf, one, elCells, lenOf, beqV, beqVL, strip, stripO, convS]) | ((first | rw [WP_condK] | rw [WP_opsG] | rw [WP_quiG] | rw [WP_dG]); refine And.intro (fun hb => ?_) (fun hb => ?_) <;> (first | have hd := dq1 hb | have hd := dq2 hb | have hd := dq3 hb | have hd := dq4 hb | skip)))
    exact ⟨g, hg, rfl⟩
  · have hz0 : ¬ ((0 : Int) = ((lowS (4095 - n) : Nat) : Int)) := by omega
    first | have hb := hb | have hb := trivial
    repeat' (first | (simp -implicitDefEqProofs (disch := omega) only [hb, F15, isNil, q1, q2, q5, hlen, hget, hget', hg0, hX, hgt, hXl, hix, hk13, hk0, hz0, hkn, Int.sub_zero, Nat.zero_mul, List.append_assoc, wC, initE, aop, Nat.reduceEqDiff, ↓reduceIte, Nat.reduceAdd, finish, resOf, tupOf, AM.freeze, freeze1, freezeL, closed, nam, namL, if_true, if_false, deref, boxAt, exAt, ldCells, oneL, oneCell, Nat.reduceLeDiff, evL, adopt, rigid, rigidL, trim, Int.reduceEq, Int.reduceMod, Int.reduceDiv, if_pos, if_neg, asI, forall_const, implies_true, chkD, chkO, chkW, effB, reB, vEq, beq_self_eq_true, Nat.reduceSub, Nat.reduceLT, Int.reduceSub, Int.reduceAdd, Int.reduceMul, Int.reduceLT, Int.reduceLE, Int.reduceToNat, optI, aslice, cutSl, cutMs, cutStr, cutOwn, cellsOf, one, elCells, lenOf, beqV, beqVL, strip, stripO, convS]) | ((first | rw [WP_condK] | rw [WP_opsG] | rw [WP_quiG] | rw [WP_dG]); refine And.intro (fun hb => ?_) (fun hb => ?_) <;> (first | have hd := dq1 hb | have hd := dq2 hb | have hd := dq3 hb | have hd := dq4 hb | skip)))
    refine put_loop1 hp hl s hs _ (by simp only [below, nam, decide_eq_true_eq]; omega) (fun _ => rfl) _ rfl rfl rfl rfl rfl rfl (fun h => absurd h hf) (fun _ e' g hg e4 => ?_)
    first | have hb := hb | have hb := trivial
    repeat' (first | (simp -implicitDefEqProofs (disch := omega) only [hb, F15, e4, wC, initE, aop, Nat.reduceEqDiff, ↓reduceIte, Nat.reduceAdd, finish, resOf, tupOf, AM.freeze, freeze1, freezeL, closed, nam, namL, if_true, if_false, deref, boxAt, exAt, ldCells, oneL, oneCell, Nat.reduceLeDiff, evL, adopt, rigid, rigidL, trim, Int.reduceEq, Int.reduceMod, Int.reduceDiv, if_pos, if_neg, asI, forall_const, implies_true, chkD, chkO, chkW, effB, reB, vEq, beq_self_eq_true, Nat.reduceSub, Nat.reduceLT, Int.reduceSub, Int.reduceAdd, Int.reduceMul, Int.reduceLT, Int.reduceLE, Int.reduceToNat, optI, aslice, cutSl, cutMs, cutStr, cutOwn, cellsOf, one, elCells, lenOf, beqV, beqVL, strip, stripO, convS]) | ((first | rw [WP_condK] | rw [WP_opsG] | rw [WP_quiG] | rw [WP_dG]); refine And.intro (fun hb => ?_) (fun hb => ?_) <;> (first | have hd := dq1 hb | have hd := dq2 hb | have hd := dq3 hb | have hd := dq4 hb | skip)))
    exact ⟨g, hg, rfl⟩
end Go.Proofs.YtkihcmlmcgokhaaDoor.AM

/- layer 05: Get, Kept, Len, Fork. -/
namespace Go.Proofs.YtkihcmlmcgokhaaDoor.AM
open Go
set_option maxRecDepth 100000
set_option maxHeartbeats 4000000
set_option linter.unusedVariables false
set_option linter.unusedSimpArgs false
def byC (l : List Ent) : List AV := (l.map ec).flatten
theorem byC_take {l : List Ent} (h : Shw l) (n : Int) : List.take 442 (shC l n) = byC l := by
  have h1 : (byC l).length = 442 := by unfold byC; rw [parts_len h.parts, List.length_map, h.len]
  unfold shC
  rw [show (l.map ec).flatten = byC l from rfl, ← h1, List.take_left]
theorem byC_len {l : List Ent} (h : Shw l) : (byC l).length = 442 := by unfold byC; rw [parts_len h.parts, List.length_map, h.len]
theorem byC_at {l : List Ent} (h : Shw l) {j : Nat} {x : Ent} (hx : l[j]? = some x) : List.take 34 (List.drop (j * 34) (byC l)) = ec x := by
  have := parts_take (l := l.map ec) [] j h.parts (by rw [List.getElem?_map, hx]; rfl)
  rwa [List.append_nil] at this
theorem byC_nam (p : Nat → Bool) (l : List Ent) : namL p (byC l) = true :=
  namL_flatten p _ fun y hy => by obtain ⟨x, _, rfl⟩ := List.mem_map.1 hy; exact ec_nam p x
theorem shlen {H : List AV → Heap} {id m : Nat} (hp : Hp H id m) {l : List Ent} (hl : Shw l) (n : Int) : ag T 19 [.ptr id 0] (H (shC l n)) = some (i64 n, H (shC l n)) := by
  refine WP_eq (k_wp rfl t19 rfl rfl ?_)
  have hX := hl.last n
  have hget' := hp.get'
  have hXl := hl.size n
  generalize shC l n = X at *
  first | have hb := hb | have hb := trivial
  repeat' (first | (simp -implicitDefEqProofs (disch := omega) only [hb, F19, isNil, hX, hget', hXl, wC, initE, aop, Nat.reduceEqDiff, ↓reduceIte, Nat.reduceAdd, finish, resOf, tupOf, AM.freeze, freeze1, freezeL, closed, nam, namL, if_true, if_false, deref, boxAt, exAt, ldCells, oneL, oneCell, Nat.reduceLeDiff, evL, adopt, rigid, rigidL, trim, Int.reduceEq, Int.reduceMod, Int.reduceDiv, if_pos, if_neg, asI, forall_const, implies_true, chkD, chkO, chkW, effB, reB, vEq, beq_self_eq_true, Nat.reduceSub, Nat.reduceLT, Int.reduceSub, Int.reduceAdd, Int.reduceMul, Int.reduceLT, Int.reduceLE, Int.reduceToNat, optI, aslice, cutSl, cutMs, cutStr, cutOwn, cellsOf, one, elCells, lenOf, beqV, beqVL, strip, stripO, convS]) | ((first | rw [WP_condK] | rw [WP_opsG] | rw [WP_quiG] | rw [WP_dG]); refine And.intro (fun hb => ?_) (fun hb => ?_) <;> (first | have hd := dq1 hb | have hd := dq2 hb | have hd := dq3 hb | have hd := dq4 hb | skip)))
theorem get_out {H : List AV → Heap} {id m : Nat} (hp : Hp H id m) {l : List Ent} (hl : Shw l) (n : Nat) (i : Int) (hi : i < 0 ∨ (n : Int) ≤ i) : ag T 17 [.ptr id 0, i64 i] (H (shC l n)) = some (.tup [.agg (zS.map u8), .bool false], H (shC l n) ++ [.cells (zS.map u8)]) := by
  refine WP_eq (k_wp rfl t17 rfl rfl ?_)
  have hX := hl.last n
  have hget := hp.get
  have hg0 := hp.g0
  have hs0 := hp.s0
  have hlen := hp.len
  have hza := zagg_eq
  have hdz := dg_of sec_zero.len
  have z1 := hdz.len
  have z2 := hdz.one
  have z5 := hdz.tk
  have z6 := hdz.sl
  generalize hZ : zS.map u8 = Z at hza z1 z2 z5 z6 ⊢
  generalize shC l n = X at *
  by_cases h0 : i < 0
  · first | have hb := hb | have hb := trivial
    repeat' (first | (simp -implicitDefEqProofs (disch := omega) only [hb, F17, isNil, hX, hget, hg0, hs0, hlen, hza, z1, z2, z5, z6, h0, wC, initE, aop, Nat.reduceEqDiff, ↓reduceIte, Nat.reduceAdd, finish, resOf, tupOf, AM.freeze, freeze1, freezeL, closed, nam, namL, if_true, if_false, deref, boxAt, exAt, ldCells, oneL, oneCell, Nat.reduceLeDiff, evL, adopt, rigid, rigidL, trim, Int.reduceEq, Int.reduceMod, Int.reduceDiv, if_pos, if_neg, asI, forall_const, implies_true, chkD, chkO, chkW, effB, reB, vEq, beq_self_eq_true, Nat.reduceSub, Nat.reduceLT, Int.reduceSub, Int.reduceAdd, Int.reduceMul, Int.reduceLT, Int.reduceLE, Int.reduceToNat, optI, aslice, cutSl, cutMs, cutStr, cutOwn, cellsOf, one, elCells, lenOf, beqV, beqVL, strip, stripO, convS]) | ((first | rw [WP_condK] | rw [WP_opsG] | rw [WP_quiG] | rw [WP_dG]); refine And.intro (fun hb => ?_) (fun hb => ?_) <;> (first | have hd := dq1 hb | have hd := dq2 hb | have hd := dq3 hb | have hd := dq4 hb | skip)))
    done
  · have h1 : (n : Int) ≤ i := by omega
    first | have hb := hb | have hb := trivial
    repeat' (first | (simp -implicitDefEqProofs (disch := omega) only [hb, F17, isNil, hX, hget, hg0, hs0, hlen, hza, z1, z2, z5, z6, h0, h1, wC, initE, aop, Nat.reduceEqDiff, ↓reduceIte, Nat.reduceAdd, finish, resOf, tupOf, AM.freeze, freeze1, freezeL, closed, nam, namL, if_true, if_false, deref, boxAt, exAt, ldCells, oneL, oneCell, Nat.reduceLeDiff, evL, adopt, rigid, rigidL, trim, Int.reduceEq, Int.reduceMod, Int.reduceDiv, if_pos, if_neg, asI, forall_const, implies_true, chkD, chkO, chkW, effB, reB, vEq, beq_self_eq_true, Nat.reduceSub, Nat.reduceLT, Int.reduceSub, Int.reduceAdd, Int.reduceMul, Int.reduceLT, Int.reduceLE, Int.reduceToNat, optI, aslice, cutSl, cutMs, cutStr, cutOwn, cellsOf, one, elCells, lenOf, beqV, beqVL, strip, stripO, convS]) | ((first | rw [WP_condK] | rw [WP_opsG] | rw [WP_quiG] | rw [WP_dG]); refine And.intro (fun hb => ?_) (fun hb => ?_) <;> (first | have hd := dq1 hb | have hd := dq2 hb | have hd := dq3 hb | have hd := dq4 hb | skip)))
    done
theorem get_in {H : List AV → Heap} {id m : Nat} (hp : Hp H id m) {l : List Ent} (hl : Shw l) (n : Nat) (i : Int) (h0 : 0 ≤ i) (h1 : i < n) (R : List Int)
    (hall : ∀ x ∈ l, x.b = true → okM x.m i = true → makeS x.s x.m i = R) (hex : ∃ (j : Nat) (x : Ent), l[j]? = some x ∧ x.b = true ∧ okM x.m i = true) :
    ∃ g, g.all (belowO 0) = true ∧ ag T 17 [.ptr id 0, i64 i] (H (shC l n)) = some (.tup [.agg (R.map u8), .bool true], H (shC l n) ++ g) := by
  suffices hh : WP (fun r => ∃ g, g.all (belowO 0) = true ∧ r = (.tup [.agg (R.map u8), .bool true], H (shC l n) ++ g)) (ag T 17 [.ptr id 0, i64 i] (H (shC l n))) by
    obtain ⟨r, h1, g, h2, rfl⟩ := WP_ex hh
    exact ⟨g, h2, h1⟩
  refine k_wp rfl t17 rfl rfl ?_
  have hX := hl.last n
  have hXl := hl.size n
  have hget := hp.get
  have hlen := hp.len
  have hzz : ([AObj.cells [.int .u8 0, .int .u8 0, .int .u8 0, .int .u8 0, .int .u8 0, .int .u8 0, .int .u8 0, .int .u8 0, .int .u8 0, .int .u8 0, .int .u8 0, .int .u8 0, .int .u8 0, .int .u8 0, .int .u8 0, .int .u8 0, .int .u8 0, .int .u8 0, .int .u8 0, .int .u8 0, .int .u8 0, .int .u8 0, .int .u8 0, .int .u8 0, .int .u8 0, .int .u8 0, .int .u8 0, .int .u8 0, .int .u8 0, .int .u8 0, .int .u8 0, .int .u8 0]] : Heap) = [AObj.cells (zS.map u8)] := rfl
  have hn0 : ¬ i < 0 := by omega
  have hn1 : ¬ (n : Int) ≤ i := by omega
  have htk := byC_take hl n
  have hbl := byC_len hl
  first | have hb := hb | have hb := trivial
  repeat' (first | (simp -implicitDefEqProofs (disch := omega) only [hb, F17, isNil, hX, hXl, hget, hlen, hn0, hn1, htk, hzz, wC, initE, aop, Nat.reduceEqDiff, ↓reduceIte, Nat.reduceAdd, finish, resOf, tupOf, AM.freeze, freeze1, freezeL, closed, nam, namL, if_true, if_false, deref, boxAt, exAt, ldCells, oneL, oneCell, Nat.reduceLeDiff, evL, adopt, rigid, rigidL, trim, Int.reduceEq, Int.reduceMod, Int.reduceDiv, if_pos, if_neg, asI, forall_const, implies_true, chkD, chkO, chkW, effB, reB, vEq, beq_self_eq_true, Nat.reduceSub, Nat.reduceLT, Int.reduceSub, Int.reduceAdd, Int.reduceMul, Int.reduceLT, Int.reduceLE, Int.reduceToNat, optI, aslice, cutSl, cutMs, cutStr, cutOwn, cellsOf, one, elCells, lenOf, beqV, beqVL, strip, stripO, convS]) | ((first | rw [WP_condK] | rw [WP_opsG] | rw [WP_quiG] | rw [WP_dG]); refine And.intro (fun hb => ?_) (fun hb => ?_) <;> (first | have hd := dq1 hb | have hd := dq2 hb | have hd := dq3 hb | have hd := dq4 hb | skip)))
  clear hzz
  have hwf := hp_wf hp (shC_nam _ l n) (g := [AObj.cells (zS.map u8)]) (by rw [List.all_cons, box_cl]; rfl) 1
  have hHl : (H (shC l n) ++ [AObj.cells (zS.map u8)]).length = m + 1 := by rw [List.length_append, hp.len]; rfl
  refine WP_loop (I := fun f e h => ∃ (j : Nat) (g : Heap), f = 13 - j ∧ j ≤ 13 ∧ (∀ (i' : Nat) (x : Ent), i' < j → l[i']? = some x → ¬ (x.b = true ∧ okM x.m i = true)) ∧ getE e 1 = i64 i ∧ getE e 4 = .ptr m 0 ∧ getE e 28 = .agg (byC l) ∧ getE e 29 = i64 j ∧ h = (H (shC l n) ++ [AObj.cells (zS.map u8)]) ++ g) ?_ 13 _ _
    ⟨0, [], rfl, by omega, fun i x hi => by omega, rfl, rfl, rfl, rfl, by rw [List.append_nil]⟩
  rintro f e h ⟨j, g, rfl, hj, hno, e1, e4, e28, e29, rfl⟩
  have hbn := byC_nam (fun i => decide (i < m + 1)) l
  rw [trim_sym g hHl hwf (by simp [e1, e4, e28, e29, below, nam, hbn])]
  by_cases hj13 : j = 13
  · exfalso
    obtain ⟨j', x, hx, hh⟩ := hex
    have : j' < 13 := by rw [← hl.len]; exact (List.getElem?_eq_some_iff.1 hx).1
    exact hno j' x (by omega) hx hh
  · obtain ⟨x, hx⟩ : ∃ x, l[j]? = some x := ⟨_, List.getElem?_eq_getElem (by rw [hl.len]; omega)⟩
    have hmem := List.mem_of_getElem? hx
    have hsx : Sec x.s := hl.sec x hmem
    have hat := byC_at hl hx
    have hrest : 34 ≤ 442 - j * 34 := by omega
    have hc := ecf x hsx
    have c1 := hc.len
    have c2 := hc.one
    have c3 := hc.sp
    have c4 := hc.n
    have c5 := hc.is
    have c6 := hc.tk
    have c7 := hc.tk34
    have c8 := hc.n'
    have c9 := hc.is'
    have hlt' : ((j : Int) < 13) := by omega
    have hj0 := Int.natCast_nonneg j
    have hjn : ((j : Int)).toNat = j := Int.toNat_natCast j
    have hg0 := hp.g0
    have hg1 := hp.g1
    have hg2 := hp.g2
    have hs0 := hp.s0
    have hs1 := hp.s1
    have hs2 := hp.s2
    have hmk := call_make x.s hsx x.m i
    have hsm := sec_make hsx x.m i
    have hdm := dg_of hsm.len
    have m1 := hdm.len
    have m2 := hdm.one
    have m5 := hdm.tk
    have m6 := hdm.sp
    have m7 := hdm.sl
    have hzm : splice (zS.map u8) 0 ((makeS x.s x.m i).map u8) = (makeS x.s x.m i).map u8 := splice_all (by rw [m1, List.length_map, sec_zero.len])
    have z1 : (zS.map u8).length = 32 := by rw [List.length_map, sec_zero.len]
    have hnZ := u8_nam (fun i => decide (i < 0)) zS
    have hnM := u8_nam (fun i => decide (i < 0)) (makeS x.s x.m i)
    have hnE := ec_nam (fun i => decide (i < 0)) x
    by_cases hb : x.b = true
    · rw [hb] at c4 c5 c9
      by_cases hok : okM x.m i = true
      · rw [show makeE x.m i = 0 by unfold makeE; rw [hok]; rfl] at hmk
        have hR := hall x hmem hb hok
        rw [← hR]
        generalize (makeS x.s x.m i).map u8 = M at *
        generalize ec x = E at *
        generalize x.s.map u8 = Y at *
        generalize zS.map u8 = Z at *
        generalize shC l n = X at *
        generalize byC l = B at *
        first | have hb := hb | have hb := trivial
        repeat' (first | (simp -implicitDefEqProofs (disch := omega) only [hb, L17_0, F17, e1, e4, e28, e29, hlt', hat, hrest, hbl, c1, c2, c3, c4, c5, c6, c7, c8, c9, hmk, m1, m2, m5, m6, m7, hzm, z1, hget, hg0, hg1, hg2, hs0, hs1, hs2, hlen, hj0, hjn, List.length_drop, List.append_assoc, wC, initE, aop, Nat.reduceEqDiff, ↓reduceIte, Nat.reduceAdd, finish, resOf, tupOf, AM.freeze, freeze1, freezeL, closed, nam, namL, if_true, if_false, deref, boxAt, exAt, ldCells, oneL, oneCell, Nat.reduceLeDiff, evL, adopt, rigid, rigidL, trim, Int.reduceEq, Int.reduceMod, Int.reduceDiv, if_pos, if_neg, asI, forall_const, implies_true, chkD, chkO, chkW, effB, reB, vEq, beq_self_eq_true, Nat.reduceSub, Nat.reduceLT, Int.reduceSub, Int.reduceAdd, Int.reduceMul, Int.reduceLT, Int.reduceLE, Int.reduceToNat, optI, aslice, cutSl, cutMs, cutStr, cutOwn, cellsOf, one, elCells, lenOf, beqV, beqVL, strip, stripO, convS]) | ((first | rw [WP_condK] | rw [WP_opsG] | rw [WP_quiG] | rw [WP_dG]); refine And.intro (fun hb => ?_) (fun hb => ?_) <;> (first | have hd := dq1 hb | have hd := dq2 hb | have hd := dq3 hb | have hd := dq4 hb | skip)))
        exact ⟨_, by simp only [List.all_cons, List.all_nil, Bool.and_true, belowO, belowL, hnZ, hnE, hnM], rfl⟩
      · have hno' : ∀ (i' : Nat) (y : Ent), i' < j + 1 → l[i']? = some y → ¬ (y.b = true ∧ okM y.m i = true) := by
          intro i' y hi hy
          by_cases hij : i' = j
          · rw [hij, hx] at hy
            cases hy
            exact fun h => hok h.2
          · exact hno i' y (by omega) hy
        rw [show makeE x.m i = 1 by unfold makeE; rw [if_neg hok]] at hmk
        generalize (makeS x.s x.m i).map u8 = M at *
        generalize ec x = E at *
        generalize x.s.map u8 = Y at *
        generalize zS.map u8 = Z at *
        generalize shC l n = X at *
        generalize byC l = B at *
        first | have hb := hb | have hb := trivial
        repeat' (first | (simp -implicitDefEqProofs (disch := omega) only [hb, L17_0, F17, e1, e4, e28, e29, hlt', hat, hrest, hbl, c1, c2, c3, c4, c5, c6, c7, c8, c9, hmk, m1, m2, m5, m6, m7, hzm, z1, hget, hg0, hg1, hg2, hs0, hs1, hs2, hlen, hj0, hjn, List.length_drop, List.append_assoc, wC, initE, aop, Nat.reduceEqDiff, ↓reduceIte, Nat.reduceAdd, finish, resOf, tupOf, AM.freeze, freeze1, freezeL, closed, nam, namL, if_true, if_false, deref, boxAt, exAt, ldCells, oneL, oneCell, Nat.reduceLeDiff, evL, adopt, rigid, rigidL, trim, Int.reduceEq, Int.reduceMod, Int.reduceDiv, if_pos, if_neg, asI, forall_const, implies_true, chkD, chkO, chkW, effB, reB, vEq, beq_self_eq_true, Nat.reduceSub, Nat.reduceLT, Int.reduceSub, Int.reduceAdd, Int.reduceMul, Int.reduceLT, Int.reduceLE, Int.reduceToNat, optI, aslice, cutSl, cutMs, cutStr, cutOwn, cellsOf, one, elCells, lenOf, beqV, beqVL, strip, stripO, convS]) | ((first | rw [WP_condK] | rw [WP_opsG] | rw [WP_quiG] | rw [WP_dG]); refine And.intro (fun hb => ?_) (fun hb => ?_) <;> (first | have hd := dq1 hb | have hd := dq2 hb | have hd := dq3 hb | have hd := dq4 hb | skip)))
        exact ⟨13 - (j + 1), by omega, j + 1, _, rfl, by omega, hno', rfl, rfl⟩
    · have hno' : ∀ (i' : Nat) (y : Ent), i' < j + 1 → l[i']? = some y → ¬ (y.b = true ∧ okM y.m i = true) := by
        intro i' y hi hy
        by_cases hij : i' = j
        · rw [hij, hx] at hy
          cases hy
          exact fun h => hb h.1
        · exact hno i' y (by omega) hy
      have hb' : x.b = false := by simpa using hb
      rw [hb'] at c4 c5 c9
      generalize ec x = E at *
      generalize x.s.map u8 = Y at *
      generalize zS.map u8 = Z at *
      generalize shC l n = X at *
      generalize byC l = B at *
      first | have hb := hb | have hb := trivial
      repeat' (first | (simp -implicitDefEqProofs (disch := omega) only [hb, L17_0, F17, e1, e4, e28, e29, hlt', hat, hrest, hbl, c1, c2, c3, c4, c5, c6, c7, c8, c9, hget, hg0, hg1, hg2, hs0, hs1, hs2, hlen, hj0, hjn, List.length_drop, List.append_assoc, wC, initE, aop, Nat.reduceEqDiff, ↓reduceIte, Nat.reduceAdd, finish, resOf, tupOf, AM.freeze, freeze1, freezeL, closed, nam, namL, if_true, if_false, deref, boxAt, exAt, ldCells, oneL, oneCell, Nat.reduceLeDiff, evL, adopt, rigid, rigidL, trim, Int.reduceEq, Int.reduceMod, Int.reduceDiv, if_pos, if_neg, asI, forall_const, implies_true, chkD, chkO, chkW, effB, reB, vEq, beq_self_eq_true, Nat.reduceSub, Nat.reduceLT, Int.reduceSub, Int.reduceAdd, Int.reduceMul, Int.reduceLT, Int.reduceLE, Int.reduceToNat, optI, aslice, cutSl, cutMs, cutStr, cutOwn, cellsOf, one, elCells, lenOf, beqV, beqVL, strip, stripO, convS]) | ((first | rw [WP_condK] | rw [WP_opsG] | rw [WP_quiG] | rw [WP_dG]); refine And.intro (fun hb => ?_) (fun hb => ?_) <;> (first | have hd := dq1 hb | have hd := dq2 hb | have hd := dq3 hb | have hd := dq4 hb | skip)))
      exact ⟨13 - (j + 1), by omega, j + 1, _, rfl, by omega, hno', rfl, rfl⟩
def cntB (l : List Ent) : Nat := (l.filter fun x => x.b).length
theorem cnt_snoc (l : List Ent) (j : Nat) (x : Ent) (hx : l[j]? = some x) : cntB (l.take (j + 1)) = cntB (l.take j) + if x.b then 1 else 0 := by
  obtain ⟨hj, rfl⟩ := List.getElem?_eq_some_iff.1 hx
  unfold cntB
  rw [List.take_succ_eq_append_getElem hj, List.filter_append, List.length_append]
  cases hb : l[j].b <;> simp [hb]
theorem cnt_le (l : List Ent) : cntB l ≤ l.length := List.length_filter_le _ _
theorem kept_ok {H : List AV → Heap} {id m : Nat} (hp : Hp H id m) {l : List Ent} (hl : Shw l) (n : Nat) : ag T 16 [.ptr id 0] (H (shC l n)) = some (i64 (cntB l), H (shC l n)) := by
  refine WP_eq (k_wp rfl t16 rfl rfl ?_)
  have hX := hl.last n
  have hXl := hl.size n
  have hget := hp.get
  have hget' := hp.get'
  have hlen := hp.len
  have htk := byC_take hl n
  have hbl := byC_len hl
  have hwf := hp_wf hp (shC_nam _ l n) (g := []) rfl 0
  rw [List.append_nil] at hwf
  first | have hb := hb | have hb := trivial
  repeat' (first | (simp -implicitDefEqProofs (disch := omega) only [hb, F16, isNil, hX, hXl, hget', hlen, htk, wC, initE, aop, Nat.reduceEqDiff, ↓reduceIte, Nat.reduceAdd, finish, resOf, tupOf, AM.freeze, freeze1, freezeL, closed, nam, namL, if_true, if_false, deref, boxAt, exAt, ldCells, oneL, oneCell, Nat.reduceLeDiff, evL, adopt, rigid, rigidL, trim, Int.reduceEq, Int.reduceMod, Int.reduceDiv, if_pos, if_neg, asI, forall_const, implies_true, chkD, chkO, chkW, effB, reB, vEq, beq_self_eq_true, Nat.reduceSub, Nat.reduceLT, Int.reduceSub, Int.reduceAdd, Int.reduceMul, Int.reduceLT, Int.reduceLE, Int.reduceToNat, optI, aslice, cutSl, cutMs, cutStr, cutOwn, cellsOf, one, elCells, lenOf, beqV, beqVL, strip, stripO, convS]) | ((first | rw [WP_condK] | rw [WP_opsG] | rw [WP_quiG] | rw [WP_dG]); refine And.intro (fun hb => ?_) (fun hb => ?_) <;> (first | have hd := dq1 hb | have hd := dq2 hb | have hd := dq3 hb | have hd := dq4 hb | skip)))
  refine WP_loop (I := fun f e h => ∃ (j : Nat) (g : Heap), f = 13 - j ∧ j ≤ 13 ∧ getE e 3 = i64 (cntB (l.take j)) ∧ getE e 11 = .agg (byC l) ∧ getE e 12 = i64 j ∧ h = H (shC l n) ++ g) ?_ 13 _ _
    ⟨0, [], rfl, by omega, rfl, rfl, rfl, by rw [List.append_nil]⟩
  rintro f e h ⟨j, g, rfl, hj, e3, e11, e12, rfl⟩
  have hbn := byC_nam (fun i => decide (i < m)) l
  rw [trim_sym g (hlen _) hwf (by simp [e3, e11, e12, below, nam, hbn])]
  have hg0 := hp.g0
  have hs0 := hp.s0
  by_cases hj13 : j = 13
  · subst hj13
    rw [List.take_of_length_le (by rw [hl.len]; omega)] at e3
    have hlt' : ¬ ((13 : Int) < 13) := by omega
    first | have hb := hb | have hb := trivial
    repeat' (first | (simp -implicitDefEqProofs (disch := omega) only [hb, L16_0, F16, e3, e11, e12, hlt', wC, initE, aop, Nat.reduceEqDiff, ↓reduceIte, Nat.reduceAdd, finish, resOf, tupOf, AM.freeze, freeze1, freezeL, closed, nam, namL, if_true, if_false, deref, boxAt, exAt, ldCells, oneL, oneCell, Nat.reduceLeDiff, evL, adopt, rigid, rigidL, trim, Int.reduceEq, Int.reduceMod, Int.reduceDiv, if_pos, if_neg, asI, forall_const, implies_true, chkD, chkO, chkW, effB, reB, vEq, beq_self_eq_true, Nat.reduceSub, Nat.reduceLT, Int.reduceSub, Int.reduceAdd, Int.reduceMul, Int.reduceLT, Int.reduceLE, Int.reduceToNat, optI, aslice, cutSl, cutMs, cutStr, cutOwn, cellsOf, one, elCells, lenOf, beqV, beqVL, strip, stripO, convS]) | ((first | rw [WP_condK] | rw [WP_opsG] | rw [WP_quiG] | rw [WP_dG]); refine And.intro (fun hb => ?_) (fun hb => ?_) <;> (first | have hd := dq1 hb | have hd := dq2 hb | have hd := dq3 hb | have hd := dq4 hb | skip)))
    all_goals done
  · obtain ⟨x, hx⟩ : ∃ x, l[j]? = some x := ⟨_, List.getElem?_eq_getElem (by rw [hl.len]; omega)⟩
    have hsx : Sec x.s := hl.sec x (List.mem_of_getElem? hx)
    have hat := byC_at hl hx
    have hrest : 34 ≤ 442 - j * 34 := by omega
    have hc := ecf x hsx
    have c1 := hc.len
    have c2 := hc.one
    have c3 := hc.sp
    have c5 := hc.is
    have c9 := hc.is'
    have hlt' : ((j : Int) < 13) := by omega
    have hj0 := Int.natCast_nonneg j
    have hjn : ((j : Int)).toNat = j := Int.toNat_natCast j
    have hcs := cnt_snoc l j x hx
    have hcl := cnt_le (l.take j)
    rw [List.length_take] at hcl
    have hadd : IntKind.i64.wrap (((cntB (l.take j) : Nat) : Int) + 1) = ((cntB (l.take j) + 1 : Nat) : Int) := by rw [IntKind.wrap_i64]; omega
    by_cases hb : x.b = true
    · rw [hb] at c5 c9 hcs
      rw [if_pos rfl] at hcs
      generalize ec x = E at *
      generalize shC l n = X at *
      generalize byC l = B at *
      first | have hb := hb | have hb := trivial
      repeat' (first | (simp -implicitDefEqProofs (disch := omega) only [hb, L16_0, F16, e3, e11, e12, hlt', hat, hrest, hbl, c1, c2, c3, c5, c9, hadd, hg0, hs0, hlen, hj0, hjn, List.length_drop, List.append_assoc, wC, initE, aop, Nat.reduceEqDiff, ↓reduceIte, Nat.reduceAdd, finish, resOf, tupOf, AM.freeze, freeze1, freezeL, closed, nam, namL, if_true, if_false, deref, boxAt, exAt, ldCells, oneL, oneCell, Nat.reduceLeDiff, evL, adopt, rigid, rigidL, trim, Int.reduceEq, Int.reduceMod, Int.reduceDiv, if_pos, if_neg, asI, forall_const, implies_true, chkD, chkO, chkW, effB, reB, vEq, beq_self_eq_true, Nat.reduceSub, Nat.reduceLT, Int.reduceSub, Int.reduceAdd, Int.reduceMul, Int.reduceLT, Int.reduceLE, Int.reduceToNat, optI, aslice, cutSl, cutMs, cutStr, cutOwn, cellsOf, one, elCells, lenOf, beqV, beqVL, strip, stripO, convS]) | ((first | rw [WP_condK] | rw [WP_opsG] | rw [WP_quiG] | rw [WP_dG]); refine And.intro (fun hb => ?_) (fun hb => ?_) <;> (first | have hd := dq1 hb | have hd := dq2 hb | have hd := dq3 hb | have hd := dq4 hb | skip)))
      exact ⟨13 - (j + 1), by omega, j + 1, _, rfl, by omega, by rw [hcs], rfl, rfl⟩
    · have hb' : x.b = false := by simpa using hb
      rw [hb'] at c5 c9 hcs
      rw [if_neg (by decide)] at hcs
      generalize ec x = E at *
      generalize shC l n = X at *
      generalize byC l = B at *
      first | have hb := hb | have hb := trivial
      repeat' (first | (simp -implicitDefEqProofs (disch := omega) only [hb, L16_0, F16, e3, e11, e12, hlt', hat, hrest, hbl, c1, c2, c3, c5, c9, hadd, hg0, hs0, hlen, hj0, hjn, List.length_drop, List.append_assoc, wC, initE, aop, Nat.reduceEqDiff, ↓reduceIte, Nat.reduceAdd, finish, resOf, tupOf, AM.freeze, freeze1, freezeL, closed, nam, namL, if_true, if_false, deref, boxAt, exAt, ldCells, oneL, oneCell, Nat.reduceLeDiff, evL, adopt, rigid, rigidL, trim, Int.reduceEq, Int.reduceMod, Int.reduceDiv, if_pos, if_neg, asI, forall_const, implies_true, chkD, chkO, chkW, effB, reB, vEq, beq_self_eq_true, Nat.reduceSub, Nat.reduceLT, Int.reduceSub, Int.reduceAdd, Int.reduceMul, Int.reduceLT, Int.reduceLE, Int.reduceToNat, optI, aslice, cutSl, cutMs, cutStr, cutOwn, cellsOf, one, elCells, lenOf, beqV, beqVL, strip, stripO, convS]) | ((first | rw [WP_condK] | rw [WP_opsG] | rw [WP_quiG] | rw [WP_dG]); refine And.intro (fun hb => ?_) (fun hb => ?_) <;> (first | have hd := dq1 hb | have hd := dq2 hb | have hd := dq3 hb | have hd := dq4 hb | skip)))
      exact ⟨13 - (j + 1), by omega, j + 1, _, rfl, by omega, by rw [hcs]; rfl, rfl, rfl⟩
end Go.Proofs.YtkihcmlmcgokhaaDoor.AM

/- layer 05: the shelf's calls in a store of which no more is known. -/
namespace Go.Proofs.YtkihcmlmcgokhaaDoor.AM
open Go
set_option maxRecDepth 100000
set_option maxHeartbeats 4000000
set_option linter.unusedVariables false
set_option linter.unusedSimpArgs false
def HW (h : Heap) : Prop := h.all (belowO h.length) = true
theorem belowO_up {a b : Nat} (hab : a ≤ b) (o : AObj) (ho : belowO a o = true) : belowO b o = true := by
  have hi : ∀ i, decide (i < a) = true → decide (i < b) = true := fun i h => by simp at h ⊢; omega
  match o, ho with
  | .box _ cs, ho => exact namL_imp hi cs ho
  | .row .., _ => rfl
  | .map es, ho =>
    simp only [belowO, List.all_eq_true, Bool.and_eq_true] at ho ⊢
    exact fun p hp => ⟨nam_imp hi _ (ho p hp).1, nam_imp hi _ (ho p hp).2⟩
theorem all_up {a b : Nat} (hab : a ≤ b) {h : Heap} (hh : h.all (belowO a) = true) : h.all (belowO b) = true := by
  rw [List.all_eq_true] at hh ⊢
  exact fun o ho => belowO_up hab o (hh o ho)
theorem HW.app {h g : Heap} (hh : HW h) (hg : g.all (belowO 0) = true) : HW (h ++ g) := by
  unfold HW at *
  rw [List.all_append, Bool.and_eq_true]
  exact ⟨all_up (by simp) hh, all_up (by omega) hg⟩
theorem HW.set {h : Heap} (hh : HW h) (i : Nat) {X : List AV} (hX : belowL h.length X = true) : HW (h.set i (.cells X)) := by
  unfold HW at *
  rw [List.length_set, List.all_eq_true] at *
  intro o ho
  rcases List.mem_or_eq_of_mem_set ho with ho | rfl
  · exact hh o ho
  · exact hX
/-- the same store with more behind it, but for one box -/
structure Aft (h h' : Heap) (id : Nat) (X : List AV) : Prop where
  wf : HW h'
  at_ : h'[id]? = some (.cells X)
  fr : ∀ j, j < h.length → j ≠ id → h'[j]? = h[j]?
  len : h.length ≤ h'.length
theorem aft_of {h : Heap} {id : Nat} {X0 X : List AV} {g : Heap} (hb : h[id]? = some (.cells X0)) (hw : HW (h.set id (.cells X) ++ g)) : Aft h (h.set id (.cells X) ++ g) id X := by
  obtain ⟨hlt, _⟩ := List.getElem?_eq_some_iff.1 hb
  refine ⟨hw, ?_, fun j hj hne => ?_, by simp⟩
  · rw [List.getElem?_append_left (by simpa using hlt), List.getElem?_set_self hlt]
  · rw [List.getElem?_append_left (by simpa using hj), List.getElem?_set_ne (fun h => hne h.symm)]
theorem Aft.take {h h' : Heap} {id : Nat} {X : List AV} (a : Aft h h' id X) (hid : id < h.length) : h'.take h.length = h.set id (.cells X) := by
  refine List.ext_getElem? fun j => ?_
  rw [List.getElem?_take]
  split
  · rename_i hj
    by_cases e : id = j
    · rw [← e, List.getElem?_set_self hid, a.at_]
    · rw [List.getElem?_set_ne e]
      exact a.fr j hj (fun h => e h.symm)
  · rename_i hj
    rw [List.getElem?_eq_none (by simp; omega)]
def OKr (L : List (List Int)) (s : List Int) : Prop := ∀ i, i < L.length → makesB L.length i = true → kWalk s (4095 - i) (lowS (4095 - L.length)) = L.getD i zS
/-- a shelf that holds these -/
def shL (L : List (List Int)) : List AV := shC (byS L L.length) (L.length : Nat)
structure Lst (L : List (List Int)) : Prop where
  sec : ∀ s ∈ L, Sec s
  con : Con L
  lt : L.length < 4095
theorem shw_byS {L : List (List Int)} (h : ∀ s ∈ L, Sec s) (n : Nat) : Shw (byS L n) := ⟨byS_len L n, byS_sec h n⟩
theorem byS_some {L : List (List Int)} {n j : Nat} {x : Ent} (hx : (byS L n)[j]? = some x) : j < 13 ∧ x = entS L n j := by
  have hj : j < 13 := by
    rw [← byS_len L n]
    exact (List.getElem?_eq_some_iff.1 hx).1
  rw [byS_get L n j hj] at hx
  cases hx
  exact ⟨hj, rfl⟩
theorem entS_on (L : List (List Int)) (n j : Nat) (h : n / 2 ^ j % 2 = 1) : entS L n j = ⟨L.getD (mE n j) zS, (mE n j : Nat), true⟩ := by unfold entS; rw [if_pos h]
theorem okM_nat {n i : Nat} (hn : n < 4096) (hi : i < 4096) : okM (n : Int) (i : Int) = makesB n i := by
  have e1 : inB (n : Int) = true := by simp [inB]; omega
  have e2 : inB (i : Int) = true := by simp [inB]; omega
  unfold okM
  rw [e1, e2, Int.toNat_natCast, Int.toNat_natCast]; rfl
theorem makeS_nat (s : List Int) {n i : Nat} (hn : n < 4096) (hi : i < 4096) (h : makesB n i = true) : makeS s (n : Int) (i : Int) = kWalk s (4095 - i) (lowS (4095 - n)) := by
  unfold makeS
  rw [okM_nat hn hi, if_pos h, Int.toNat_natCast, Int.toNat_natCast]
theorem putH {L : List (List Int)} (h : Lst L) : PutH (byS L L.length) L.length :=
  ⟨shw_byS h.sec _, h.lt, fun j x hj hx => by
    obtain ⟨h1, rfl⟩ := byS_some hx
    have hb := next_bit _ j h.lt hj
    obtain ⟨g1, g2, _⟩ := mE_spec _ j (by have := h.lt; omega) hb
    have := h.lt
    rw [entS_on _ _ _ hb]
    exact ⟨rfl, by rw [okM_nat (by omega) (by omega)]; exact next_makes _ j h.lt hj⟩⟩
theorem fits_iff {L : List (List Int)} (h : Lst L) (s : List Int) : fitsP (byS L L.length) L.length s ↔ OKr L s := by
  have hlt := h.lt
  unfold OKr
  rw [← asks_same h.con s hlt rfl]
  constructor
  · intro hf j hj
    have hb := next_bit _ j hlt hj
    obtain ⟨g1, g2, _⟩ := mE_spec _ j (by omega) hb
    have := hf j _ hj (byS_get L _ j (by omega))
    rw [entS_on _ _ _ hb] at this
    rw [← makeS_nat s (by omega) (by omega) (next_makes _ j hlt hj)]
    exact this
  · intro hf j x hj hx
    obtain ⟨h1, rfl⟩ := byS_some hx
    have hb := next_bit _ j hlt hj
    obtain ⟨g1, g2, _⟩ := mE_spec _ j (by omega) hb
    rw [entS_on _ _ _ hb]
    show makeS s _ ((mE L.length j : Nat) : Int) = L.getD (mE L.length j) zS
    rw [makeS_nat s (by omega) (by omega) (next_makes _ j hlt hj)]
    exact hf j hj
theorem shL_nam (p : Nat → Bool) (L : List (List Int)) : namL p (shL L) = true := shC_nam p _ _
theorem s_put {h : Heap} {a : Nat} {L : List (List Int)} (hw : HW h) (hb : h[a]? = some (.cells (shL L))) (hL : Lst L) (s : List Int) (hs : Sec s) (hf : OKr L s) :
    ∃ h', ag T 15 [.ptr a 0, .agg (s.map u8)] h = some (i64 0, h') ∧ Aft h h' a (shL (L ++ [s])) := by
  obtain ⟨hp, he⟩ := hp_of hb hw
  have h1 := put_fits hp (putH hL) s hs ((fits_iff hL s).2 hf)
  rw [← byS_next s hL.lt rfl] at h1
  have e : shC (byS (L ++ [s]) (L.length + 1)) ((L.length + 1 : Nat) : Int) = shL (L ++ [s]) := by unfold shL; rw [List.length_append, List.length_singleton]
  rw [e] at h1
  have h2 : h.set a (.cells (shC (byS L L.length) (L.length : Nat))) = h := he.symm
  simp only [h2] at h1
  exact ⟨_, h1, aft_of hb ((hw.set a (shL_nam _ _)).app (by rw [List.all_cons, box_cl]; rfl))⟩
theorem s_clash {h : Heap} {a : Nat} {L : List (List Int)} (hw : HW h) (hb : h[a]? = some (.cells (shL L))) (hL : Lst L) (s : List Int) (hs : Sec s) (hf : ¬ OKr L s) :
    ∃ h', ag T 15 [.ptr a 0, .agg (s.map u8)] h = some (i64 50, h') ∧ Aft h h' a (shL L) := by
  obtain ⟨hp, he⟩ := hp_of hb hw
  obtain ⟨g, hg, h1⟩ := put_clash hp (putH hL) s hs (fun hh => hf ((fits_iff hL s).1 hh))
  have h2 : h.set a (.cells (shC (byS L L.length) (L.length : Nat))) = h := he.symm
  simp only [h2] at h1
  refine ⟨_, h1, ?_⟩
  have := aft_of (X := shL L) (g := g) hb ((hw.set a (shL_nam _ _)).app hg)
  rwa [show h.set a (.cells (shL L)) = h from h2] at this
theorem s_get {h : Heap} {a : Nat} {L : List (List Int)} (hw : HW h) (hb : h[a]? = some (.cells (shL L))) (hL : Lst L) (i : Nat) (hi : i < L.length) :
    ∃ g, g.all (belowO 0) = true ∧ ag T 17 [.ptr a 0, i64 i] h = some (.tup [.agg ((L.getD i zS).map u8), .bool true], h ++ g) := by
  obtain ⟨hp, he⟩ := hp_of hb hw
  have hlt := hL.lt
  obtain ⟨g, hg, h1⟩ := get_in hp (shw_byS hL.sec L.length) L.length (i : Int) (Int.natCast_nonneg i) (by omega) (L.getD i zS)
    (fun x hx hxb hok => by
      obtain ⟨j, hj⟩ := List.getElem?_of_mem hx
      obtain ⟨h2, rfl⟩ := byS_some hj
      by_cases hbit : L.length / 2 ^ j % 2 = 1
      · rw [entS_on _ _ _ hbit] at hok ⊢
        obtain ⟨g1, g2, g3, g4, g5, g6⟩ := mE_spec _ j (by omega) hbit
        have hok' : okM ((mE L.length j : Nat) : Int) (i : Int) = true := hok
        rw [okM_nat (by omega) (by omega)] at hok'
        show makeS _ ((mE L.length j : Nat) : Int) _ = _
        rw [makeS_nat _ (by omega) (by omega) hok', g5]
        exact kept_makes hL.con (by omega) rfl hbit hi hok'
      · unfold entS at hxb
        rw [if_neg hbit] at hxb
        cases hxb)
    (by
      obtain ⟨j, h1, h2, h3, h4⟩ := mE_exists L.length i (by omega) hi
      obtain ⟨g1, g2, _⟩ := mE_spec _ j (by omega) h2
      refine ⟨j, _, byS_get L _ j (by omega), ?_⟩
      rw [entS_on _ _ _ h2]
      exact ⟨rfl, by show okM ((mE L.length j : Nat) : Int) _ = true; rw [okM_nat (by omega) (by omega)]; exact (makes_mE _ j i (by omega) (by omega) h2).2 h3⟩)
  have h2 : h.set a (.cells (shC (byS L L.length) (L.length : Nat))) = h := he.symm
  simp only [h2] at h1
  exact ⟨g, hg, h1⟩
theorem s_miss {h : Heap} {a : Nat} {L : List (List Int)} (hw : HW h) (hb : h[a]? = some (.cells (shL L))) (hL : Lst L) (i : Int) (hi : i < 0 ∨ (L.length : Int) ≤ i) :
    ag T 17 [.ptr a 0, i64 i] h = some (.tup [.agg (zS.map u8), .bool false], h ++ [.cells (zS.map u8)]) := by
  obtain ⟨hp, he⟩ := hp_of hb hw
  have h1 := get_out hp (shw_byS hL.sec L.length) L.length i hi
  have h2 : h.set a (.cells (shC (byS L L.length) (L.length : Nat))) = h := he.symm
  simp only [h2] at h1
  exact h1
theorem s_len {h : Heap} {a : Nat} {L : List (List Int)} (hw : HW h) (hb : h[a]? = some (.cells (shL L))) (hL : Lst L) : ag T 19 [.ptr a 0] h = some (i64 L.length, h) := by
  obtain ⟨hp, he⟩ := hp_of hb hw
  have h1 := shlen hp (shw_byS hL.sec L.length) L.length
  have h2 : h.set a (.cells (shC (byS L L.length) (L.length : Nat))) = h := he.symm
  simp only [h2] at h1
  exact h1
/-- how many bits a number has that are set -/
def popS (n : Nat) : Nat := ((List.range 13).filter fun j => n / 2 ^ j % 2 == 1).length
theorem cnt_byS (L : List (List Int)) (n : Nat) : cntB (byS L n) = popS n := by
  unfold cntB byS popS
  rw [List.filter_map, List.length_map]
  congr 1
  refine List.filter_congr fun j _ => ?_
  show (entS L n j).b = _
  unfold entS
  split
  · rename_i h; rw [h]; rfl
  · rename_i h
    exact (beq_eq_false_iff_ne.2 h).symm
theorem s_kept {h : Heap} {a : Nat} {L : List (List Int)} (hw : HW h) (hb : h[a]? = some (.cells (shL L))) (hL : Lst L) : ag T 16 [.ptr a 0] h = some (i64 (popS L.length), h) := by
  obtain ⟨hp, he⟩ := hp_of hb hw
  have h1 := kept_ok hp (shw_byS hL.sec L.length) L.length
  rw [cnt_byS] at h1
  have h2 : h.set a (.cells (shC (byS L L.length) (L.length : Nat))) = h := he.symm
  simp only [h2] at h1
  exact h1
theorem lst_nil : Lst [] := ⟨fun s hs => by simp at hs, con_nil, by simp⟩
theorem lst_snoc {L : List (List Int)} (hL : Lst L) {s : List Int} (hs : Sec s) (hf : OKr L s) (hlt : L.length < 4094) : Lst (L ++ [s]) :=
  ⟨fun t ht => by
    rcases List.mem_append.1 ht with h | h
    · exact hL.sec t h
    · rw [List.mem_singleton.1 h]; exact hs, con_snoc hL.con s rfl hf, by rw [List.length_append, List.length_singleton]; omega⟩
end Go.Proofs.YtkihcmlmcgokhaaDoor.AM

/- layer 05: the document's shelf. -/
namespace Go.Proofs.YtkihcmlmcgokhaaDoor.AM
open Go
set_option maxRecDepth 100000
set_option maxHeartbeats 4000000
set_option linter.unusedVariables false
set_option linter.unusedSimpArgs false
abbrev agD (s : List Int) : AV := .agg (s.map u8)
def isL (v : AV) (L : List (List Int)) : Prop := (v = .nil ∧ L = []) ∨ ∃ o, v = .slice o (some 32) (L.map agD)
theorem isL_len {v : AV} {L : List (List Int)} (h : isL v L) : lenOf v = some L.length := by
  rcases h with ⟨rfl, rfl⟩ | ⟨o, rfl⟩
  · rfl
  · simp [lenOf]
theorem isL_els {v : AV} {L : List (List Int)} (h : isL v L) (hp : Heap) : elemsOf hp (some 32) v = some (L.map agD) := by
  rcases h with ⟨rfl, rfl⟩ | ⟨o, rfl⟩
  · rfl
  · simp [elemsOf]
theorem isL_one {v : AV} {L : List (List Int)} (h : isL v L) : oneL [v] = true := by
  rcases h with ⟨rfl, rfl⟩ | ⟨o, rfl⟩ <;> rfl
theorem isL_sl {v : AV} {L : List (List Int)} (h : isL v L) (h0 : L.length ≠ 0) : ∃ o, v = .slice o (some 32) (L.map agD) := by
  rcases h with ⟨rfl, rfl⟩ | h
  · exact absurd rfl h0
  · exact h
theorem agD_get {L : List (List Int)} {i : Nat} (hi : i < L.length) : (L.map agD)[i]? = some (agD (L.getD i zS)) := by
  rw [List.getElem?_map, List.getD_eq_getElem?_getD, List.getElem?_eq_getElem hi]; rfl
theorem rput_loop {H : List AV → Heap} {id m : Nat} (hp : Hp H id m) {v : AV} {L : List (List Int)} (hv : isL v L) (hw : (H [v]).all (belowO m) = true) (hL : Lst L) (s : List Int) (hs : Sec s) (e : Env)
    (e0 : getE e 0 = .ptr id 0) (e3 : getE e 3 = .ptr m 0) (e5 : getE e 5 = i64 L.length) (e6 : getE e 6 = i64 0) {Q : Res → Prop}
    (hQ1 : OKr L s → ∀ e', getE e' 0 = .ptr id 0 → getE e' 3 = .ptr m 0 → Q (.exit 0, e', H [v] ++ [AObj.cells (s.map u8)]))
    (hQ2 : ¬ OKr L s → ∀ e' g, g.all (belowO 0) = true → getE e' 4 = i64 50 → Q (.ret, e', H [v] ++ g)) :
    WP Q (axl T [0, 3, 5, 6] true L22_0 (m + 1) e (H [v] ++ [AObj.cells (s.map u8)])) := by
  have hlt := hL.lt
  have hd := dg_of hs.len
  have hwf : (H [v] ++ [AObj.cells (s.map u8)]).all (belowO (m + 1)) = true := by
    rw [List.all_append, Bool.and_eq_true]
    exact ⟨all_up (by omega) hw, all_up (Nat.zero_le _) (by rw [List.all_cons, box_cl]; rfl)⟩
  have hHl : (H [v] ++ [AObj.cells (s.map u8)]).length = m + 1 := by rw [List.length_append, hp.len]; rfl
  have hvl := isL_sl hv
  unfold OKr at hQ1 hQ2
  have hgD := fun i (hi : i < L.length) => agD_get hi
  have hsD : ∀ i, Sec (L.getD i zS) := sec_getD hL.sec
  generalize hn : L.length = n at *
  refine WP_loop (I := fun f e h => ∃ (j : Nat) (g : Heap), f = n - j ∧ j ≤ n ∧ (∀ i, i < j → makesB n i = true → kWalk s (4095 - i) (lowS (4095 - n)) = L.getD i zS) ∧ getE e 0 = .ptr id 0 ∧ getE e 3 = .ptr m 0 ∧ getE e 5 = i64 n ∧ getE e 6 = i64 j ∧ h = (H [v] ++ [AObj.cells (s.map u8)]) ++ g) ?_ n _ _
    ⟨0, [], rfl, Nat.zero_le _, fun i hi => by omega, e0, e3, e5, e6, by rw [List.append_nil]⟩
  clear e0 e3 e5 e6 e
  rintro f e h ⟨j, g, rfl, hj, hall, e0, e3, e5, e6, rfl⟩
  rw [trim_sym g hHl hwf (by simp [e0, e3, e5, e6, below, nam]; have := hp.lt; omega)]
  have q1 := hd.len
  have q5 := hd.tk
  by_cases hjn : j = n
  · subst hjn
    have hlt' : ¬ ((j : Int) < (j : Int)) := Int.lt_irrefl _
    have hQ := hQ1 hall
    clear hQ1 hQ2
    first | have hb := hb | have hb := trivial
    repeat' (first | (simp -implicitDefEqProofs (disch := omega) only [hb, L22_0, e0, e3, e5, e6, hlt', wC, initE, aop, Nat.reduceEqDiff, ↓reduceIte, Nat.reduceAdd, finish, resOf, tupOf, AM.freeze, freeze1, freezeL, closed, nam, namL, if_true, if_false, deref, boxAt, exAt, ldCells, oneL, oneCell, Nat.reduceLeDiff, evL, adopt, rigid, rigidL, trim, Int.reduceEq, Int.reduceMod, Int.reduceDiv, if_pos, if_neg, asI, forall_const, implies_true, chkD, chkO, chkW, effB, reB, vEq, beq_self_eq_true, Nat.reduceSub, Nat.reduceLT, Int.reduceSub, Int.reduceAdd, Int.reduceMul, Int.reduceLT, Int.reduceLE, Int.reduceToNat, optI, aslice, cutSl, cutMs, cutStr, cutOwn, cellsOf, one, elCells, lenOf, beqV, beqVL, strip, stripO, convS]) | ((first | rw [WP_condK] | rw [WP_opsG] | rw [WP_quiG] | rw [WP_dG]); refine And.intro (fun hb => ?_) (fun hb => ?_) <;> (first | have hd := dq1 hb | have hd := dq2 hb | have hd := dq3 hb | have hd := dq4 hb | skip)))
    exact hQ _ rfl rfl
  · have hlt' : ((j : Int) < (n : Int)) := by omega
    obtain ⟨o, rfl⟩ := hvl (by omega)
    have hmk := call_rmake s hs n j
    have hgj := hgD j (by omega)
    have hsj := hsD j
    have hsm := sec_make hs n j
    have hkq := keq (makeS s n j) (L.getD j zS) (by rw [hsm.len, hsj.len])
    have hdm := dg_of hsm.len
    have m1 := hdm.len
    have m2 := hdm.one
    have m5 := hdm.tk
    have m6 := hdm.sp
    have m7 := hdm.sl
    have hdx := dg_of hsj.len
    have x1 := hdx.len
    have x5 := hdx.tk
    have hget := hp.get
    have hg0 := hp.g0
    have hg1 := hp.g1
    have hs0 := hp.s0
    have hs1 := hp.s1
    have hlen := hp.len
    have hj0 := Int.natCast_nonneg j
    have hjt : ((j : Int)).toNat = j := Int.toNat_natCast j
    have hwr : IntKind.i64.wrap ((j : Int) + 1) = ((j + 1 : Nat) : Int) := by rw [IntKind.wrap_i64]; omega
    have hnS := u8_nam (fun i => decide (i < 0)) s
    have hnM := u8_nam (fun i => decide (i < 0)) (makeS s n j)
    by_cases hm : makesB n j = true
    · have hE : makeE (n : Int) (j : Int) = 0 := by unfold makeE; rw [okM_nat (by omega) (by omega), hm]; rfl
      have hS := makeS_nat s (n := n) (i := j) (by omega) (by omega) hm
      rw [hE] at hmk
      by_cases hfit : makeS s n j = L.getD j zS
      · have hgo : ∀ i, i < j + 1 → makesB n i = true → kWalk s (4095 - i) (lowS (4095 - n)) = L.getD i zS := by
          intro i hi hy
          by_cases hij : i = j
          · rw [hij, ← hS, hfit]
          · exact hall i (by omega) hy
        rw [decide_eq_true hfit] at hkq
        clear hQ1 hQ2
        generalize (makeS s n j).map u8 = M at *
        unfold agD at hgj
        generalize (L.getD j zS).map u8 = Y at *
        generalize s.map u8 = D at *
        generalize L.map agD = LL at *
        first | have hb := hb | have hb := trivial
        repeat' (first | (simp -implicitDefEqProofs (disch := omega) only [hb, L22_0, e0, e3, e5, e6, hlt', hmk, hgj, hkq, m1, m2, m5, m6, m7, x1, x5, hget, hg0, hg1, hs0, hs1, hlen, q1, q5, hj0, hjt, hwr, List.append_assoc, wC, initE, aop, Nat.reduceEqDiff, ↓reduceIte, Nat.reduceAdd, finish, resOf, tupOf, AM.freeze, freeze1, freezeL, closed, nam, namL, if_true, if_false, deref, boxAt, exAt, ldCells, oneL, oneCell, Nat.reduceLeDiff, evL, adopt, rigid, rigidL, trim, Int.reduceEq, Int.reduceMod, Int.reduceDiv, if_pos, if_neg, asI, forall_const, implies_true, chkD, chkO, chkW, effB, reB, vEq, beq_self_eq_true, Nat.reduceSub, Nat.reduceLT, Int.reduceSub, Int.reduceAdd, Int.reduceMul, Int.reduceLT, Int.reduceLE, Int.reduceToNat, optI, aslice, cutSl, cutMs, cutStr, cutOwn, cellsOf, one, elCells, lenOf, beqV, beqVL, strip, stripO, convS]) | ((first | rw [WP_condK] | rw [WP_opsG] | rw [WP_quiG] | rw [WP_dG]); refine And.intro (fun hb => ?_) (fun hb => ?_) <;> (first | have hd := dq1 hb | have hd := dq2 hb | have hd := dq3 hb | have hd := dq4 hb | skip)))
        exact ⟨n - (j + 1), by omega, j + 1, _, rfl, by omega, hgo, rfl, rfl⟩
      · rw [decide_eq_false hfit] at hkq
        have hQ := hQ2 (fun h => hfit (by rw [hS]; exact h j (by omega) hm))
        clear hQ1 hQ2
        generalize (makeS s n j).map u8 = M at *
        unfold agD at hgj
        generalize (L.getD j zS).map u8 = Y at *
        generalize s.map u8 = D at *
        generalize L.map agD = LL at *
        first | have hb := hb | have hb := trivial
        repeat' (first | (simp -implicitDefEqProofs (disch := omega) only [hb, L22_0, e0, e3, e5, e6, hlt', hmk, hgj, hkq, m1, m2, m5, m6, m7, x1, x5, hget, hg0, hg1, hs0, hs1, hlen, q1, q5, hj0, hjt, hwr, List.append_assoc, wC, initE, aop, Nat.reduceEqDiff, ↓reduceIte, Nat.reduceAdd, finish, resOf, tupOf, AM.freeze, freeze1, freezeL, closed, nam, namL, if_true, if_false, deref, boxAt, exAt, ldCells, oneL, oneCell, Nat.reduceLeDiff, evL, adopt, rigid, rigidL, trim, Int.reduceEq, Int.reduceMod, Int.reduceDiv, if_pos, if_neg, asI, forall_const, implies_true, chkD, chkO, chkW, effB, reB, vEq, beq_self_eq_true, Nat.reduceSub, Nat.reduceLT, Int.reduceSub, Int.reduceAdd, Int.reduceMul, Int.reduceLT, Int.reduceLE, Int.reduceToNat, optI, aslice, cutSl, cutMs, cutStr, cutOwn, cellsOf, one, elCells, lenOf, beqV, beqVL, strip, stripO, convS]) | ((first | rw [WP_condK] | rw [WP_opsG] | rw [WP_quiG] | rw [WP_dG]); refine And.intro (fun hb => ?_) (fun hb => ?_) <;> (first | have hd := dq1 hb | have hd := dq2 hb | have hd := dq3 hb | have hd := dq4 hb | skip)))
        exact hQ _ _ (by simp only [List.all_cons, List.all_nil, Bool.and_true, belowO, belowL, hnS, hnM]) rfl
    · have hE : makeE (n : Int) (j : Int) = 1 := by unfold makeE; rw [okM_nat (by omega) (by omega), if_neg hm]
      rw [hE] at hmk
      have hgo : ∀ i, i < j + 1 → makesB n i = true → kWalk s (4095 - i) (lowS (4095 - n)) = L.getD i zS := by
        intro i hi hy
        by_cases hij : i = j
        · rw [hij] at hy; exact absurd hy hm
        · exact hall i (by omega) hy
      clear hQ1 hQ2
      generalize (makeS s n j).map u8 = M at *
      generalize s.map u8 = D at *
      first | have hb := hb | have hb := trivial
      repeat' (first | (simp -implicitDefEqProofs (disch := omega) only [hb, L22_0, e0, e3, e5, e6, hlt', hmk, m1, m2, m5, m6, m7, x1, x5, hget, hg0, hg1, hs0, hs1, hlen, q1, q5, hj0, hjt, hwr, List.append_assoc, wC, initE, aop, Nat.reduceEqDiff, ↓reduceIte, Nat.reduceAdd, finish, resOf, tupOf, AM.freeze, freeze1, freezeL, closed, nam, namL, if_true, if_false, deref, boxAt, exAt, ldCells, oneL, oneCell, Nat.reduceLeDiff, evL, adopt, rigid, rigidL, trim, Int.reduceEq, Int.reduceMod, Int.reduceDiv, if_pos, if_neg, asI, forall_const, implies_true, chkD, chkO, chkW, effB, reB, vEq, beq_self_eq_true, Nat.reduceSub, Nat.reduceLT, Int.reduceSub, Int.reduceAdd, Int.reduceMul, Int.reduceLT, Int.reduceLE, Int.reduceToNat, optI, aslice, cutSl, cutMs, cutStr, cutOwn, cellsOf, one, elCells, lenOf, beqV, beqVL, strip, stripO, convS]) | ((first | rw [WP_condK] | rw [WP_opsG] | rw [WP_quiG] | rw [WP_dG]); refine And.intro (fun hb => ?_) (fun hb => ?_) <;> (first | have hd := dq1 hb | have hd := dq2 hb | have hd := dq3 hb | have hd := dq4 hb | skip)))
      exact ⟨n - (j + 1), by omega, j + 1, _, rfl, by omega, hgo, rfl, rfl⟩
theorem rput_clash {H : List AV → Heap} {id m : Nat} (hp : Hp H id m) {v : AV} {L : List (List Int)} (hv : isL v L) (hw : (H [v]).all (belowO m) = true) (hL : Lst L) (s : List Int) (hs : Sec s) (hf : ¬ OKr L s) :
    ∃ g, g.all (belowO 0) = true ∧ ag T 22 [.ptr id 0, .agg (s.map u8)] (H [v]) = some (i64 50, H [v] ++ g) := by
  suffices hh : WP (fun r => ∃ g, g.all (belowO 0) = true ∧ r = (i64 50, H [v] ++ g)) (ag T 22 [.ptr id 0, .agg (s.map u8)] (H [v])) by
    obtain ⟨r, h1, g, h2, rfl⟩ := WP_ex hh
    exact ⟨g, h2, h1⟩
  refine k_wp rfl t22 rfl rfl ?_
  have hlt := hL.lt
  have hd := dg_of hs.len
  have q1 := hd.len
  have q2 := hd.one
  have q5 := hd.tk
  have hlen := hp.len
  have hget := hp.get
  have hget' := hp.get'
  have hg0 := hp.g0
  have hln := isL_len hv
  have hne : ¬ ((L.length : Int) = 4096) := by omega
  first | have hb := hb | have hb := trivial
  repeat' (first | (simp -implicitDefEqProofs (disch := omega) only [hb, F22, q1, q2, q5, hlen, hget, hget', hg0, hln, hne, wC, initE, aop, Nat.reduceEqDiff, ↓reduceIte, Nat.reduceAdd, finish, resOf, tupOf, AM.freeze, freeze1, freezeL, closed, nam, namL, if_true, if_false, deref, boxAt, exAt, ldCells, oneL, oneCell, Nat.reduceLeDiff, evL, adopt, rigid, rigidL, trim, Int.reduceEq, Int.reduceMod, Int.reduceDiv, if_pos, if_neg, asI, forall_const, implies_true, chkD, chkO, chkW, effB, reB, vEq, beq_self_eq_true, Nat.reduceSub, Nat.reduceLT, Int.reduceSub, Int.reduceAdd, Int.reduceMul, Int.reduceLT, Int.reduceLE, Int.reduceToNat, optI, aslice, cutSl, cutMs, cutStr, cutOwn, cellsOf, one, elCells, beqV, beqVL, strip, stripO, convS]) | ((first | rw [WP_condK] | rw [WP_opsG] | rw [WP_quiG] | rw [WP_dG]); refine And.intro (fun hb => ?_) (fun hb => ?_) <;> (first | have hd := dq1 hb | have hd := dq2 hb | have hd := dq3 hb | have hd := dq4 hb | skip)))
  refine rput_loop hp hv hw hL s hs _ rfl rfl rfl rfl (fun h => absurd h hf) (fun _ e' g hg e4 => ?_)
  first | have hb := hb | have hb := trivial
  repeat' (first | (simp -implicitDefEqProofs (disch := omega) only [hb, F22, e4, wC, initE, aop, Nat.reduceEqDiff, ↓reduceIte, Nat.reduceAdd, finish, resOf, tupOf, AM.freeze, freeze1, freezeL, closed, nam, namL, if_true, if_false, deref, boxAt, exAt, ldCells, oneL, oneCell, Nat.reduceLeDiff, evL, adopt, rigid, rigidL, trim, Int.reduceEq, Int.reduceMod, Int.reduceDiv, if_pos, if_neg, asI, forall_const, implies_true, chkD, chkO, chkW, effB, reB, vEq, beq_self_eq_true, Nat.reduceSub, Nat.reduceLT, Int.reduceSub, Int.reduceAdd, Int.reduceMul, Int.reduceLT, Int.reduceLE, Int.reduceToNat, optI, aslice, cutSl, cutMs, cutStr, cutOwn, cellsOf, one, elCells, lenOf, beqV, beqVL, strip, stripO, convS]) | ((first | rw [WP_condK] | rw [WP_opsG] | rw [WP_quiG] | rw [WP_dG]); refine And.intro (fun hb => ?_) (fun hb => ?_) <;> (first | have hd := dq1 hb | have hd := dq2 hb | have hd := dq3 hb | have hd := dq4 hb | skip)))
  exact ⟨g, hg, rfl⟩
theorem rput_fits {H : List AV → Heap} {id m : Nat} (hp : Hp H id m) {v : AV} {L : List (List Int)} (hv : isL v L) (hw : (H [v]).all (belowO m) = true) (hL : Lst L) (s : List Int) (hs : Sec s) (hf : OKr L s) :
    ag T 22 [.ptr id 0, .agg (s.map u8)] (H [v]) = some (i64 0, H [.slice (.tok (m + 1)) (some 32) ((L ++ [s]).map agD)] ++ [.cells (s.map u8), .row (some 32) (L.length + 1)]) := by
  refine WP_eq (k_wp rfl t22 rfl rfl ?_)
  have hlt := hL.lt
  have hd := dg_of hs.len
  have q1 := hd.len
  have q2 := hd.one
  have q5 := hd.tk
  have hlen := hp.len
  have hget := hp.get
  have hget' := hp.get'
  have hg0 := hp.g0
  have hln := isL_len hv
  have hne : ¬ ((L.length : Int) = 4096) := by omega
  first | have hb := hb | have hb := trivial
  repeat' (first | (simp -implicitDefEqProofs (disch := omega) only [hb, F22, q1, q2, q5, hlen, hget, hget', hg0, hln, hne, wC, initE, aop, Nat.reduceEqDiff, ↓reduceIte, Nat.reduceAdd, finish, resOf, tupOf, AM.freeze, freeze1, freezeL, closed, nam, namL, if_true, if_false, deref, boxAt, exAt, ldCells, oneL, oneCell, Nat.reduceLeDiff, evL, adopt, rigid, rigidL, trim, Int.reduceEq, Int.reduceMod, Int.reduceDiv, if_pos, if_neg, asI, forall_const, implies_true, chkD, chkO, chkW, effB, reB, vEq, beq_self_eq_true, Nat.reduceSub, Nat.reduceLT, Int.reduceSub, Int.reduceAdd, Int.reduceMul, Int.reduceLT, Int.reduceLE, Int.reduceToNat, optI, aslice, cutSl, cutMs, cutStr, cutOwn, cellsOf, one, elCells, beqV, beqVL, strip, stripO, convS]) | ((first | rw [WP_condK] | rw [WP_opsG] | rw [WP_quiG] | rw [WP_dG]); refine And.intro (fun hb => ?_) (fun hb => ?_) <;> (first | have hd := dq1 hb | have hd := dq2 hb | have hd := dq3 hb | have hd := dq4 hb | skip)))
  refine rput_loop hp hv hw hL s hs _ rfl rfl rfl rfl (fun _ e' e0 e3 => ?_) (fun h => absurd hf h)
  have hel := isL_els hv
  have hg1 := hp.g1
  have hs1 := hp.s1
  have hset := hp.set
  have hone := isL_one hv
  have hfb : fitsB (0 + L.length) 32 = true := by unfold fitsB; rw [decide_eq_true_eq]; left; omega
  have hfb1 : fitsB L.length 32 = true := by unfold fitsB; rw [decide_eq_true_eq]; left; omega
  have hfb2 : fitsB (L.length + 1) 32 = true := by unfold fitsB; rw [decide_eq_true_eq]; left; omega
  have hlm : (L.map agD).length = L.length := List.length_map ..
  have hfin : L.map agD ++ [.agg (s.map u8)] = (L ++ [s]).map agD := by rw [List.map_append]; rfl
  have hbv : beqV v v = true ∨ True := .inr trivial
  have hel2 : ∀ (h : Heap) (x : AV), elemsOf h (some 32) (.slice .full (some 32) [x]) = some [x] := fun h x => by simp [elemsOf]
  have hstr := hd.st
  have hbq := kbeq s
  first | have hb := hb | have hb := trivial
  repeat' (first | (simp -implicitDefEqProofs (disch := omega) only [hb, F22, e0, e3, aappend, setEls, elFits, stripEl, List.replicate_succ, List.replicate_zero, q1, q2, q5, hlen, hget, hget', hg0, hg1, hs1, hset, hln, hel, hel2, hstr, hone, hfb, hfb1, hfb2, hfin, hbq, List.append_assoc, wC, initE, aop, Nat.reduceEqDiff, ↓reduceIte, Nat.reduceAdd, finish, resOf, tupOf, AM.freeze, freeze1, freezeL, closed, nam, namL, if_true, if_false, deref, boxAt, exAt, ldCells, oneL, oneCell, Nat.reduceLeDiff, evL, adopt, rigid, rigidL, trim, Int.reduceEq, Int.reduceMod, Int.reduceDiv, if_pos, if_neg, asI, forall_const, implies_true, chkD, chkO, chkW, effB, reB, vEq, beq_self_eq_true, Nat.reduceSub, Nat.reduceLT, Int.reduceSub, Int.reduceAdd, Int.reduceMul, Int.reduceLT, Int.reduceLE, Int.reduceToNat, optI, aslice, cutSl, cutMs, cutStr, cutOwn, cellsOf, one, elCells, lenOf, beqV, beqVL, strip, stripO, convS]) | ((first | rw [WP_condK] | rw [WP_opsG] | rw [WP_quiG] | rw [WP_dG]); refine And.intro (fun hb => ?_) (fun hb => ?_) <;> (first | have hd := dq1 hb | have hd := dq2 hb | have hd := dq3 hb | have hd := dq4 hb | skip)))
  done
end Go.Proofs.YtkihcmlmcgokhaaDoor.AM

/- layer 05: the document's shelf in a store; a new shelf, a fork; how many are kept. -/
namespace Go.Proofs.YtkihcmlmcgokhaaDoor.AM
open Go
set_option maxRecDepth 100000
set_option maxHeartbeats 4000000
set_option linter.unusedVariables false
set_option linter.unusedSimpArgs false
theorem agD_nam (p : Nat → Bool) : ∀ L : List (List Int), namL p (L.map agD) = true
  | [] => rfl
  | s :: L => by
    rw [List.map_cons]
    simp only [namL, nam, u8_nam, agD_nam p L, Bool.and_self]
theorem all_set {h : Heap} {m k : Nat} (hw : h.all (belowO m) = true) (hk : m ≤ k) (i : Nat) {X : List AV} (hX : belowL k X = true) : (h.set i (.cells X)).all (belowO k) = true := by
  rw [List.all_eq_true] at *
  intro o ho
  rcases List.mem_or_eq_of_mem_set ho with ho | rfl
  · exact belowO_up hk o (hw o ho)
  · exact hX
theorem r_put {h : Heap} {b : Nat} {v : AV} {L : List (List Int)} (hw : HW h) (hb : h[b]? = some (.cells [v])) (hv : isL v L) (hL : Lst L) (s : List Int) (hs : Sec s) (hf : OKr L s) :
    ∃ h' v', ag T 22 [.ptr b 0, .agg (s.map u8)] h = some (i64 0, h') ∧ Aft h h' b [v'] ∧ isL v' (L ++ [s]) := by
  obtain ⟨hp, he⟩ := hp_of hb hw
  have h2 : h.set b (.cells [v]) = h := he.symm
  have h1 := rput_fits hp hv (by rw [h2]; exact hw) hL s hs hf
  simp only [h2] at h1
  refine ⟨_, _, h1, aft_of hb ?_, .inr ⟨_, rfl⟩⟩
  unfold HW
  rw [List.all_append, Bool.and_eq_true, List.length_append, List.length_set]
  refine ⟨all_set hw (by omega) b ?_, ?_⟩
  · simp only [belowL, namL, nam, agD_nam, List.length_cons, List.length_nil, Bool.and_true, decide_eq_true_eq]
    omega
  · exact all_up (Nat.zero_le _) (by rw [List.all_cons, box_cl]; rfl)
theorem r_clash {h : Heap} {b : Nat} {v : AV} {L : List (List Int)} (hw : HW h) (hb : h[b]? = some (.cells [v])) (hv : isL v L) (hL : Lst L) (s : List Int) (hs : Sec s) (hf : ¬ OKr L s) :
    ∃ h', ag T 22 [.ptr b 0, .agg (s.map u8)] h = some (i64 50, h') ∧ Aft h h' b [v] := by
  obtain ⟨hp, he⟩ := hp_of hb hw
  have h2 : h.set b (.cells [v]) = h := he.symm
  obtain ⟨g, hg, h1⟩ := rput_clash hp hv (by rw [h2]; exact hw) hL s hs hf
  simp only [h2] at h1
  refine ⟨_, h1, ?_⟩
  have := aft_of (X := [v]) (g := g) hb (by rw [h2]; exact hw.app hg)
  rwa [h2] at this
/-! ### a new one, and a fork -/
theorem shL_nil : ([.int .u8 0, .int .u8 0, .int .u8 0, .int .u8 0, .int .u8 0, .int .u8 0, .int .u8 0, .int .u8 0, .int .u8 0, .int .u8 0, .int .u8 0, .int .u8 0, .int .u8 0, .int .u8 0, .int .u8 0, .int .u8 0, .int .u8 0, .int .u8 0, .int .u8 0, .int .u8 0, .int .u8 0, .int .u8 0, .int .u8 0, .int .u8 0, .int .u8 0, .int .u8 0, .int .u8 0, .int .u8 0, .int .u8 0, .int .u8 0, .int .u8 0, .int .u8 0, .int .i64 0, .bool false, .int .u8 0, .int .u8 0, .int .u8 0, .int .u8 0, .int .u8 0, .int .u8 0, .int .u8 0, .int .u8 0, .int .u8 0, .int .u8 0, .int .u8 0, .int .u8 0, .int .u8 0, .int .u8 0, .int .u8 0, .int .u8 0, .int .u8 0, .int .u8 0, .int .u8 0, .int .u8 0, .int .u8 0, .int .u8 0, .int .u8 0, .int .u8 0, .int .u8 0, .int .u8 0, .int .u8 0, .int .u8 0, .int .u8 0, .int .u8 0, .int .u8 0, .int .u8 0, .int .i64 0, .bool false, .int .u8 0, .int .u8 0, .int .u8 0, .int .u8 0, .int .u8 0, .int .u8 0, .int .u8 0, .int .u8 0, .int .u8 0, .int .u8 0, .int .u8 0, .int .u8 0, .int .u8 0, .int .u8 0, .int .u8 0, .int .u8 0, .int .u8 0, .int .u8 0, .int .u8 0, .int .u8 0, .int .u8 0, .int .u8 0, .int .u8 0, .int .u8 0, .int .u8 0, .int .u8 0, .int .u8 0, .int .u8 0, .int .u8 0, .int .u8 0, .int .u8 0, .int .u8 0, .int .i64 0, .bool false, .int .u8 0, .int .u8 0, .int .u8 0, .int .u8 0, .int .u8 0, .int .u8 0, .int .u8 0, .int .u8 0, .int .u8 0, .int .u8 0, .int .u8 0, .int .u8 0, .int .u8 0, .int .u8 0, .int .u8 0, .int .u8 0, .int .u8 0, .int .u8 0, .int .u8 0, .int .u8 0, .int .u8 0, .int .u8 0, .int .u8 0, .int .u8 0, .int .u8 0, .int .u8 0, .int .u8 0, .int .u8 0, .int .u8 0, .int .u8 0, .int .u8 0, .int .u8 0, .int .i64 0, .bool false, .int .u8 0, .int .u8 0, .int .u8 0, .int .u8 0, .int .u8 0, .int .u8 0, .int .u8 0, .int .u8 0, .int .u8 0, .int .u8 0, .int .u8 0, .int .u8 0, .int .u8 0, .int .u8 0, .int .u8 0, .int .u8 0, .int .u8 0, .int .u8 0, .int .u8 0, .int .u8 0, .int .u8 0, .int .u8 0, .int .u8 0, .int .u8 0, .int .u8 0, .int .u8 0, .int .u8 0, .int .u8 0, .int .u8 0, .int .u8 0, .int .u8 0, .int .u8 0, .int .i64 0, .bool false, .int .u8 0, .int .u8 0, .int .u8 0, .int .u8 0, .int .u8 0, .int .u8 0, .int .u8 0, .int .u8 0, .int .u8 0, .int .u8 0, .int .u8 0, .int .u8 0, .int .u8 0, .int .u8 0, .int .u8 0, .int .u8 0, .int .u8 0, .int .u8 0, .int .u8 0, .int .u8 0, .int .u8 0, .int .u8 0, .int .u8 0, .int .u8 0, .int .u8 0, .int .u8 0, .int .u8 0, .int .u8 0, .int .u8 0, .int .u8 0, .int .u8 0, .int .u8 0, .int .i64 0, .bool false, .int .u8 0, .int .u8 0, .int .u8 0, .int .u8 0, .int .u8 0, .int .u8 0, .int .u8 0, .int .u8 0, .int .u8 0, .int .u8 0, .int .u8 0, .int .u8 0, .int .u8 0, .int .u8 0, .int .u8 0, .int .u8 0, .int .u8 0, .int .u8 0, .int .u8 0, .int .u8 0, .int .u8 0, .int .u8 0, .int .u8 0, .int .u8 0, .int .u8 0, .int .u8 0, .int .u8 0, .int .u8 0, .int .u8 0, .int .u8 0, .int .u8 0, .int .u8 0, .int .i64 0, .bool false, .int .u8 0, .int .u8 0, .int .u8 0, .int .u8 0, .int .u8 0, .int .u8 0, .int .u8 0, .int .u8 0, .int .u8 0, .int .u8 0, .int .u8 0, .int .u8 0, .int .u8 0, .int .u8 0, .int .u8 0, .int .u8 0, .int .u8 0, .int .u8 0, .int .u8 0, .int .u8 0, .int .u8 0, .int .u8 0, .int .u8 0, .int .u8 0, .int .u8 0, .int .u8 0, .int .u8 0, .int .u8 0, .int .u8 0, .int .u8 0, .int .u8 0, .int .u8 0, .int .i64 0, .bool false, .int .u8 0, .int .u8 0, .int .u8 0, .int .u8 0, .int .u8 0, .int .u8 0, .int .u8 0, .int .u8 0, .int .u8 0, .int .u8 0, .int .u8 0, .int .u8 0, .int .u8 0, .int .u8 0, .int .u8 0, .int .u8 0, .int .u8 0, .int .u8 0, .int .u8 0, .int .u8 0, .int .u8 0, .int .u8 0, .int .u8 0, .int .u8 0, .int .u8 0, .int .u8 0, .int .u8 0, .int .u8 0, .int .u8 0, .int .u8 0, .int .u8 0, .int .u8 0, .int .i64 0, .bool false, .int .u8 0, .int .u8 0, .int .u8 0, .int .u8 0, .int .u8 0, .int .u8 0, .int .u8 0, .int .u8 0, .int .u8 0, .int .u8 0, .int .u8 0, .int .u8 0, .int .u8 0, .int .u8 0, .int .u8 0, .int .u8 0, .int .u8 0, .int .u8 0, .int .u8 0, .int .u8 0, .int .u8 0, .int .u8 0, .int .u8 0, .int .u8 0, .int .u8 0, .int .u8 0, .int .u8 0, .int .u8 0, .int .u8 0, .int .u8 0, .int .u8 0, .int .u8 0, .int .i64 0, .bool false, .int .u8 0, .int .u8 0, .int .u8 0, .int .u8 0, .int .u8 0, .int .u8 0, .int .u8 0, .int .u8 0, .int .u8 0, .int .u8 0, .int .u8 0, .int .u8 0, .int .u8 0, .int .u8 0, .int .u8 0, .int .u8 0, .int .u8 0, .int .u8 0, .int .u8 0, .int .u8 0, .int .u8 0, .int .u8 0, .int .u8 0, .int .u8 0, .int .u8 0, .int .u8 0, .int .u8 0, .int .u8 0, .int .u8 0, .int .u8 0, .int .u8 0, .int .u8 0, .int .i64 0, .bool false, .int .u8 0, .int .u8 0, .int .u8 0, .int .u8 0, .int .u8 0, .int .u8 0, .int .u8 0, .int .u8 0, .int .u8 0, .int .u8 0, .int .u8 0, .int .u8 0, .int .u8 0, .int .u8 0, .int .u8 0, .int .u8 0, .int .u8 0, .int .u8 0, .int .u8 0, .int .u8 0, .int .u8 0, .int .u8 0, .int .u8 0, .int .u8 0, .int .u8 0, .int .u8 0, .int .u8 0, .int .u8 0, .int .u8 0, .int .u8 0, .int .u8 0, .int .u8 0, .int .i64 0, .bool false, .int .u8 0, .int .u8 0, .int .u8 0, .int .u8 0, .int .u8 0, .int .u8 0, .int .u8 0, .int .u8 0, .int .u8 0, .int .u8 0, .int .u8 0, .int .u8 0, .int .u8 0, .int .u8 0, .int .u8 0, .int .u8 0, .int .u8 0, .int .u8 0, .int .u8 0, .int .u8 0, .int .u8 0, .int .u8 0, .int .u8 0, .int .u8 0, .int .u8 0, .int .u8 0, .int .u8 0, .int .u8 0, .int .u8 0, .int .u8 0, .int .u8 0, .int .u8 0, .int .i64 0, .bool false, .int .i64 0] : List AV) = shL [] := rfl
theorem new_ok (h : Heap) : ag T 14 [] h = some (.ptr h.length 0, h ++ [.cells (shL [])]) := by
  refine WP_eq (k_wp rfl t14 rfl rfl ?_)
  have hz : AV.agg [.int .u8 0, .int .u8 0, .int .u8 0, .int .u8 0, .int .u8 0, .int .u8 0, .int .u8 0, .int .u8 0, .int .u8 0, .int .u8 0, .int .u8 0, .int .u8 0, .int .u8 0, .int .u8 0, .int .u8 0, .int .u8 0, .int .u8 0, .int .u8 0, .int .u8 0, .int .u8 0, .int .u8 0, .int .u8 0, .int .u8 0, .int .u8 0, .int .u8 0, .int .u8 0, .int .u8 0, .int .u8 0, .int .u8 0, .int .u8 0, .int .u8 0, .int .u8 0, .int .i64 0, .bool false, .int .u8 0, .int .u8 0, .int .u8 0, .int .u8 0, .int .u8 0, .int .u8 0, .int .u8 0, .int .u8 0, .int .u8 0, .int .u8 0, .int .u8 0, .int .u8 0, .int .u8 0, .int .u8 0, .int .u8 0, .int .u8 0, .int .u8 0, .int .u8 0, .int .u8 0, .int .u8 0, .int .u8 0, .int .u8 0, .int .u8 0, .int .u8 0, .int .u8 0, .int .u8 0, .int .u8 0, .int .u8 0, .int .u8 0, .int .u8 0, .int .u8 0, .int .u8 0, .int .i64 0, .bool false, .int .u8 0, .int .u8 0, .int .u8 0, .int .u8 0, .int .u8 0, .int .u8 0, .int .u8 0, .int .u8 0, .int .u8 0, .int .u8 0, .int .u8 0, .int .u8 0, .int .u8 0, .int .u8 0, .int .u8 0, .int .u8 0, .int .u8 0, .int .u8 0, .int .u8 0, .int .u8 0, .int .u8 0, .int .u8 0, .int .u8 0, .int .u8 0, .int .u8 0, .int .u8 0, .int .u8 0, .int .u8 0, .int .u8 0, .int .u8 0, .int .u8 0, .int .u8 0, .int .i64 0, .bool false, .int .u8 0, .int .u8 0, .int .u8 0, .int .u8 0, .int .u8 0, .int .u8 0, .int .u8 0, .int .u8 0, .int .u8 0, .int .u8 0, .int .u8 0, .int .u8 0, .int .u8 0, .int .u8 0, .int .u8 0, .int .u8 0, .int .u8 0, .int .u8 0, .int .u8 0, .int .u8 0, .int .u8 0, .int .u8 0, .int .u8 0, .int .u8 0, .int .u8 0, .int .u8 0, .int .u8 0, .int .u8 0, .int .u8 0, .int .u8 0, .int .u8 0, .int .u8 0, .int .i64 0, .bool false, .int .u8 0, .int .u8 0, .int .u8 0, .int .u8 0, .int .u8 0, .int .u8 0, .int .u8 0, .int .u8 0, .int .u8 0, .int .u8 0, .int .u8 0, .int .u8 0, .int .u8 0, .int .u8 0, .int .u8 0, .int .u8 0, .int .u8 0, .int .u8 0, .int .u8 0, .int .u8 0, .int .u8 0, .int .u8 0, .int .u8 0, .int .u8 0, .int .u8 0, .int .u8 0, .int .u8 0, .int .u8 0, .int .u8 0, .int .u8 0, .int .u8 0, .int .u8 0, .int .i64 0, .bool false, .int .u8 0, .int .u8 0, .int .u8 0, .int .u8 0, .int .u8 0, .int .u8 0, .int .u8 0, .int .u8 0, .int .u8 0, .int .u8 0, .int .u8 0, .int .u8 0, .int .u8 0, .int .u8 0, .int .u8 0, .int .u8 0, .int .u8 0, .int .u8 0, .int .u8 0, .int .u8 0, .int .u8 0, .int .u8 0, .int .u8 0, .int .u8 0, .int .u8 0, .int .u8 0, .int .u8 0, .int .u8 0, .int .u8 0, .int .u8 0, .int .u8 0, .int .u8 0, .int .i64 0, .bool false, .int .u8 0, .int .u8 0, .int .u8 0, .int .u8 0, .int .u8 0, .int .u8 0, .int .u8 0, .int .u8 0, .int .u8 0, .int .u8 0, .int .u8 0, .int .u8 0, .int .u8 0, .int .u8 0, .int .u8 0, .int .u8 0, .int .u8 0, .int .u8 0, .int .u8 0, .int .u8 0, .int .u8 0, .int .u8 0, .int .u8 0, .int .u8 0, .int .u8 0, .int .u8 0, .int .u8 0, .int .u8 0, .int .u8 0, .int .u8 0, .int .u8 0, .int .u8 0, .int .i64 0, .bool false, .int .u8 0, .int .u8 0, .int .u8 0, .int .u8 0, .int .u8 0, .int .u8 0, .int .u8 0, .int .u8 0, .int .u8 0, .int .u8 0, .int .u8 0, .int .u8 0, .int .u8 0, .int .u8 0, .int .u8 0, .int .u8 0, .int .u8 0, .int .u8 0, .int .u8 0, .int .u8 0, .int .u8 0, .int .u8 0, .int .u8 0, .int .u8 0, .int .u8 0, .int .u8 0, .int .u8 0, .int .u8 0, .int .u8 0, .int .u8 0, .int .u8 0, .int .u8 0, .int .i64 0, .bool false, .int .u8 0, .int .u8 0, .int .u8 0, .int .u8 0, .int .u8 0, .int .u8 0, .int .u8 0, .int .u8 0, .int .u8 0, .int .u8 0, .int .u8 0, .int .u8 0, .int .u8 0, .int .u8 0, .int .u8 0, .int .u8 0, .int .u8 0, .int .u8 0, .int .u8 0, .int .u8 0, .int .u8 0, .int .u8 0, .int .u8 0, .int .u8 0, .int .u8 0, .int .u8 0, .int .u8 0, .int .u8 0, .int .u8 0, .int .u8 0, .int .u8 0, .int .u8 0, .int .i64 0, .bool false, .int .u8 0, .int .u8 0, .int .u8 0, .int .u8 0, .int .u8 0, .int .u8 0, .int .u8 0, .int .u8 0, .int .u8 0, .int .u8 0, .int .u8 0, .int .u8 0, .int .u8 0, .int .u8 0, .int .u8 0, .int .u8 0, .int .u8 0, .int .u8 0, .int .u8 0, .int .u8 0, .int .u8 0, .int .u8 0, .int .u8 0, .int .u8 0, .int .u8 0, .int .u8 0, .int .u8 0, .int .u8 0, .int .u8 0, .int .u8 0, .int .u8 0, .int .u8 0, .int .i64 0, .bool false, .int .u8 0, .int .u8 0, .int .u8 0, .int .u8 0, .int .u8 0, .int .u8 0, .int .u8 0, .int .u8 0, .int .u8 0, .int .u8 0, .int .u8 0, .int .u8 0, .int .u8 0, .int .u8 0, .int .u8 0, .int .u8 0, .int .u8 0, .int .u8 0, .int .u8 0, .int .u8 0, .int .u8 0, .int .u8 0, .int .u8 0, .int .u8 0, .int .u8 0, .int .u8 0, .int .u8 0, .int .u8 0, .int .u8 0, .int .u8 0, .int .u8 0, .int .u8 0, .int .i64 0, .bool false, .int .u8 0, .int .u8 0, .int .u8 0, .int .u8 0, .int .u8 0, .int .u8 0, .int .u8 0, .int .u8 0, .int .u8 0, .int .u8 0, .int .u8 0, .int .u8 0, .int .u8 0, .int .u8 0, .int .u8 0, .int .u8 0, .int .u8 0, .int .u8 0, .int .u8 0, .int .u8 0, .int .u8 0, .int .u8 0, .int .u8 0, .int .u8 0, .int .u8 0, .int .u8 0, .int .u8 0, .int .u8 0, .int .u8 0, .int .u8 0, .int .u8 0, .int .u8 0, .int .i64 0, .bool false, .int .u8 0, .int .u8 0, .int .u8 0, .int .u8 0, .int .u8 0, .int .u8 0, .int .u8 0, .int .u8 0, .int .u8 0, .int .u8 0, .int .u8 0, .int .u8 0, .int .u8 0, .int .u8 0, .int .u8 0, .int .u8 0, .int .u8 0, .int .u8 0, .int .u8 0, .int .u8 0, .int .u8 0, .int .u8 0, .int .u8 0, .int .u8 0, .int .u8 0, .int .u8 0, .int .u8 0, .int .u8 0, .int .u8 0, .int .u8 0, .int .u8 0, .int .u8 0, .int .i64 0, .bool false, .int .i64 0] = AV.agg (shL []) := rfl
  have h1 : oneL (shL []) = true := rfl
  generalize shL [] = X at *
  first | have hb := hb | have hb := trivial
  repeat' (first | (simp -implicitDefEqProofs (disch := omega) only [hb, F14, hz, h1, wC, initE, aop, Nat.reduceEqDiff, ↓reduceIte, Nat.reduceAdd, finish, resOf, tupOf, AM.freeze, freeze1, freezeL, closed, nam, namL, if_true, if_false, deref, boxAt, exAt, ldCells, oneL, oneCell, Nat.reduceLeDiff, evL, adopt, rigid, rigidL, trim, Int.reduceEq, Int.reduceMod, Int.reduceDiv, if_pos, if_neg, asI, forall_const, implies_true, chkD, chkO, chkW, effB, reB, vEq, beq_self_eq_true, Nat.reduceSub, Nat.reduceLT, Int.reduceSub, Int.reduceAdd, Int.reduceMul, Int.reduceLT, Int.reduceLE, Int.reduceToNat, optI, aslice, cutSl, cutMs, cutStr, cutOwn, cellsOf, one, elCells, lenOf, beqV, beqVL, strip, stripO, convS]) | ((first | rw [WP_condK] | rw [WP_opsG] | rw [WP_quiG] | rw [WP_dG]); refine And.intro (fun hb => ?_) (fun hb => ?_) <;> (first | have hd := dq1 hb | have hd := dq2 hb | have hd := dq3 hb | have hd := dq4 hb | skip)))
theorem shL_one (L : List (List Int)) (h : ∀ s ∈ L, Sec s) : oneL (shL L) = true := by
  unfold shL shC
  refine oneL_append ?_ rfl
  have : ∀ l : List Ent, oneL (l.map ec).flatten = true := by
    intro l
    induction l with
    | nil => rfl
    | cons x l ih =>
      rw [List.map_cons, List.flatten_cons]
      refine oneL_append ?_ ih
      unfold ec
      exact oneL_append (oneL_u8 _) rfl
  exact this _
theorem fork_ok {h : Heap} {a : Nat} {L : List (List Int)} (hb : h[a]? = some (.cells (shL L))) (hL : ∀ s ∈ L, Sec s) : ag T 24 [.ptr a 0] h = some (.ptr h.length 0, h ++ [.cells (shL L)]) := by
  refine WP_eq (k_wp rfl t24 rfl rfl ?_)
  have hz : ([AObj.cells [.int .u8 0, .int .u8 0, .int .u8 0, .int .u8 0, .int .u8 0, .int .u8 0, .int .u8 0, .int .u8 0, .int .u8 0, .int .u8 0, .int .u8 0, .int .u8 0, .int .u8 0, .int .u8 0, .int .u8 0, .int .u8 0, .int .u8 0, .int .u8 0, .int .u8 0, .int .u8 0, .int .u8 0, .int .u8 0, .int .u8 0, .int .u8 0, .int .u8 0, .int .u8 0, .int .u8 0, .int .u8 0, .int .u8 0, .int .u8 0, .int .u8 0, .int .u8 0, .int .i64 0, .bool false, .int .u8 0, .int .u8 0, .int .u8 0, .int .u8 0, .int .u8 0, .int .u8 0, .int .u8 0, .int .u8 0, .int .u8 0, .int .u8 0, .int .u8 0, .int .u8 0, .int .u8 0, .int .u8 0, .int .u8 0, .int .u8 0, .int .u8 0, .int .u8 0, .int .u8 0, .int .u8 0, .int .u8 0, .int .u8 0, .int .u8 0, .int .u8 0, .int .u8 0, .int .u8 0, .int .u8 0, .int .u8 0, .int .u8 0, .int .u8 0, .int .u8 0, .int .u8 0, .int .i64 0, .bool false, .int .u8 0, .int .u8 0, .int .u8 0, .int .u8 0, .int .u8 0, .int .u8 0, .int .u8 0, .int .u8 0, .int .u8 0, .int .u8 0, .int .u8 0, .int .u8 0, .int .u8 0, .int .u8 0, .int .u8 0, .int .u8 0, .int .u8 0, .int .u8 0, .int .u8 0, .int .u8 0, .int .u8 0, .int .u8 0, .int .u8 0, .int .u8 0, .int .u8 0, .int .u8 0, .int .u8 0, .int .u8 0, .int .u8 0, .int .u8 0, .int .u8 0, .int .u8 0, .int .i64 0, .bool false, .int .u8 0, .int .u8 0, .int .u8 0, .int .u8 0, .int .u8 0, .int .u8 0, .int .u8 0, .int .u8 0, .int .u8 0, .int .u8 0, .int .u8 0, .int .u8 0, .int .u8 0, .int .u8 0, .int .u8 0, .int .u8 0, .int .u8 0, .int .u8 0, .int .u8 0, .int .u8 0, .int .u8 0, .int .u8 0, .int .u8 0, .int .u8 0, .int .u8 0, .int .u8 0, .int .u8 0, .int .u8 0, .int .u8 0, .int .u8 0, .int .u8 0, .int .u8 0, .int .i64 0, .bool false, .int .u8 0, .int .u8 0, .int .u8 0, .int .u8 0, .int .u8 0, .int .u8 0, .int .u8 0, .int .u8 0, .int .u8 0, .int .u8 0, .int .u8 0, .int .u8 0, .int .u8 0, .int .u8 0, .int .u8 0, .int .u8 0, .int .u8 0, .int .u8 0, .int .u8 0, .int .u8 0, .int .u8 0, .int .u8 0, .int .u8 0, .int .u8 0, .int .u8 0, .int .u8 0, .int .u8 0, .int .u8 0, .int .u8 0, .int .u8 0, .int .u8 0, .int .u8 0, .int .i64 0, .bool false, .int .u8 0, .int .u8 0, .int .u8 0, .int .u8 0, .int .u8 0, .int .u8 0, .int .u8 0, .int .u8 0, .int .u8 0, .int .u8 0, .int .u8 0, .int .u8 0, .int .u8 0, .int .u8 0, .int .u8 0, .int .u8 0, .int .u8 0, .int .u8 0, .int .u8 0, .int .u8 0, .int .u8 0, .int .u8 0, .int .u8 0, .int .u8 0, .int .u8 0, .int .u8 0, .int .u8 0, .int .u8 0, .int .u8 0, .int .u8 0, .int .u8 0, .int .u8 0, .int .i64 0, .bool false, .int .u8 0, .int .u8 0, .int .u8 0, .int .u8 0, .int .u8 0, .int .u8 0, .int .u8 0, .int .u8 0, .int .u8 0, .int .u8 0, .int .u8 0, .int .u8 0, .int .u8 0, .int .u8 0, .int .u8 0, .int .u8 0, .int .u8 0, .int .u8 0, .int .u8 0, .int .u8 0, .int .u8 0, .int .u8 0, .int .u8 0, .int .u8 0, .int .u8 0, .int .u8 0, .int .u8 0, .int .u8 0, .int .u8 0, .int .u8 0, .int .u8 0, .int .u8 0, .int .i64 0, .bool false, .int .u8 0, .int .u8 0, .int .u8 0, .int .u8 0, .int .u8 0, .int .u8 0, .int .u8 0, .int .u8 0, .int .u8 0, .int .u8 0, .int .u8 0, .int .u8 0, .int .u8 0, .int .u8 0, .int .u8 0, .int .u8 0, .int .u8 0, .int .u8 0, .int .u8 0, .int .u8 0, .int .u8 0, .int .u8 0, .int .u8 0, .int .u8 0, .int .u8 0, .int .u8 0, .int .u8 0, .int .u8 0, .int .u8 0, .int .u8 0, .int .u8 0, .int .u8 0, .int .i64 0, .bool false, .int .u8 0, .int .u8 0, .int .u8 0, .int .u8 0, .int .u8 0, .int .u8 0, .int .u8 0, .int .u8 0, .int .u8 0, .int .u8 0, .int .u8 0, .int .u8 0, .int .u8 0, .int .u8 0, .int .u8 0, .int .u8 0, .int .u8 0, .int .u8 0, .int .u8 0, .int .u8 0, .int .u8 0, .int .u8 0, .int .u8 0, .int .u8 0, .int .u8 0, .int .u8 0, .int .u8 0, .int .u8 0, .int .u8 0, .int .u8 0, .int .u8 0, .int .u8 0, .int .i64 0, .bool false, .int .u8 0, .int .u8 0, .int .u8 0, .int .u8 0, .int .u8 0, .int .u8 0, .int .u8 0, .int .u8 0, .int .u8 0, .int .u8 0, .int .u8 0, .int .u8 0, .int .u8 0, .int .u8 0, .int .u8 0, .int .u8 0, .int .u8 0, .int .u8 0, .int .u8 0, .int .u8 0, .int .u8 0, .int .u8 0, .int .u8 0, .int .u8 0, .int .u8 0, .int .u8 0, .int .u8 0, .int .u8 0, .int .u8 0, .int .u8 0, .int .u8 0, .int .u8 0, .int .i64 0, .bool false, .int .u8 0, .int .u8 0, .int .u8 0, .int .u8 0, .int .u8 0, .int .u8 0, .int .u8 0, .int .u8 0, .int .u8 0, .int .u8 0, .int .u8 0, .int .u8 0, .int .u8 0, .int .u8 0, .int .u8 0, .int .u8 0, .int .u8 0, .int .u8 0, .int .u8 0, .int .u8 0, .int .u8 0, .int .u8 0, .int .u8 0, .int .u8 0, .int .u8 0, .int .u8 0, .int .u8 0, .int .u8 0, .int .u8 0, .int .u8 0, .int .u8 0, .int .u8 0, .int .i64 0, .bool false, .int .u8 0, .int .u8 0, .int .u8 0, .int .u8 0, .int .u8 0, .int .u8 0, .int .u8 0, .int .u8 0, .int .u8 0, .int .u8 0, .int .u8 0, .int .u8 0, .int .u8 0, .int .u8 0, .int .u8 0, .int .u8 0, .int .u8 0, .int .u8 0, .int .u8 0, .int .u8 0, .int .u8 0, .int .u8 0, .int .u8 0, .int .u8 0, .int .u8 0, .int .u8 0, .int .u8 0, .int .u8 0, .int .u8 0, .int .u8 0, .int .u8 0, .int .u8 0, .int .i64 0, .bool false, .int .u8 0, .int .u8 0, .int .u8 0, .int .u8 0, .int .u8 0, .int .u8 0, .int .u8 0, .int .u8 0, .int .u8 0, .int .u8 0, .int .u8 0, .int .u8 0, .int .u8 0, .int .u8 0, .int .u8 0, .int .u8 0, .int .u8 0, .int .u8 0, .int .u8 0, .int .u8 0, .int .u8 0, .int .u8 0, .int .u8 0, .int .u8 0, .int .u8 0, .int .u8 0, .int .u8 0, .int .u8 0, .int .u8 0, .int .u8 0, .int .u8 0, .int .u8 0, .int .i64 0, .bool false, .int .i64 0]] : Heap) = [AObj.cells (shL [])] := rfl
  have hl : (shL L).length = 443 := (shw_byS hL L.length).size _
  have ho := shL_one L hL
  have hl0 : (shL []).length = 443 := (shw_byS (L := []) (by simp) 0).size _
  have hsp : splice (shL []) 0 (shL L) = shL L := splice_all (by rw [hl, hl0])
  have htk : List.take 443 (shL L) = shL L := List.take_of_length_le (by rw [hl]; exact Nat.le_refl _)
  generalize shL L = X at *
  generalize shL [] = Z at *
  first | have hb := hb | have hb := trivial
  repeat' (first | (simp -implicitDefEqProofs (disch := omega) only [hb, F24, isNil, hz, hl, hl0, ho, hsp, htk, hb, wC, initE, aop, Nat.reduceEqDiff, ↓reduceIte, Nat.reduceAdd, finish, resOf, tupOf, AM.freeze, freeze1, freezeL, closed, nam, namL, if_true, if_false, deref, boxAt, exAt, ldCells, oneL, oneCell, Nat.reduceLeDiff, evL, adopt, rigid, rigidL, trim, Int.reduceEq, Int.reduceMod, Int.reduceDiv, if_pos, if_neg, asI, forall_const, implies_true, chkD, chkO, chkW, effB, reB, vEq, beq_self_eq_true, Nat.reduceSub, Nat.reduceLT, Int.reduceSub, Int.reduceAdd, Int.reduceMul, Int.reduceLT, Int.reduceLE, Int.reduceToNat, optI, aslice, cutSl, cutMs, cutStr, cutOwn, cellsOf, one, elCells, lenOf, beqV, beqVL, strip, stripO, convS]) | ((first | rw [WP_condK] | rw [WP_opsG] | rw [WP_quiG] | rw [WP_dG]); refine And.intro (fun hb => ?_) (fun hb => ?_) <;> (first | have hd := dq1 hb | have hd := dq2 hb | have hd := dq3 hb | have hd := dq4 hb | skip)))
  done
end Go.Proofs.YtkihcmlmcgokhaaDoor.AM

/- layer 05: how many no later one makes; a look at both; the bits that are set. -/
namespace Go.Proofs.YtkihcmlmcgokhaaDoor.AM
open Go
set_option maxRecDepth 100000
set_option maxHeartbeats 4000000
set_option linter.unusedVariables false
set_option linter.unusedSimpArgs false
/-- no one from i+1 on makes i, of those before n -/
def lone (i : Nat) : Nat → Bool
  | 0 => true
  | n + 1 => lone i n && !(decide (i < n) && makesB n i)
def keptS (n : Nat) : List Nat := (List.range n).filter fun i => lone i n
theorem lone_self (i : Nat) : ∀ n, n ≤ i + 1 → lone i n = true
  | 0, _ => rfl
  | n + 1, h => by rw [lone, lone_self i n (by omega), decide_eq_false (by omega)]; rfl
theorem keptS_succ (n : Nat) : keptS (n + 1) = (keptS n).filter (fun i => !makesB n i) ++ [n] := by
  unfold keptS
  rw [List.range_succ, List.filter_append, List.filter_filter]
  congr 1
  · refine List.filter_congr fun i hi => ?_
    rw [List.mem_range] at hi
    rw [lone, decide_eq_true hi, Bool.true_and, Bool.and_comm]
  · rw [List.filter_cons, lone_self n (n + 1) (by omega), if_pos rfl]; rfl
def keptN : Nat → List Nat → Nat → Bool
  | 0, l, n => l.length == popS n
  | f + 1, l, n => l.length == popS n && keptN f (l.filter (fun i => !makesB n i) ++ [n]) (n + 1)
theorem keptN_spec : ∀ (f n : Nat), keptN f (keptS n) n = true → ∀ m, n ≤ m → m ≤ n + f → (keptS m).length = popS m
  | 0, n, h, m, h1, h2 => by
    obtain rfl : m = n := by omega
    simpa [keptN] using h
  | f + 1, n, h, m, h1, h2 => by
    rw [keptN, Bool.and_eq_true, ← keptS_succ] at h
    by_cases hm : m = n
    · rw [hm]; simpa using h.1
    · exact keptN_spec f (n + 1) h.2 m (by omega) (by omega)
theorem kept_pop (m : Nat) (hm : m ≤ 300) : (keptS m).length = popS m := keptN_spec 300 0 (by kernel_rfl) m (by omega) (by omega)
theorem pop_le (n : Nat) : popS n ≤ 13 := by
  unfold popS
  have := List.length_filter_le (fun j => n / 2 ^ j % 2 == 1) (List.range 13)
  simpa using this
theorem call_makes' (n m : Nat) (hn : n < 4096) (hm : m < 4096) (h : Heap) : ag T 12 [i64 n, i64 m] h = some (.sc (.bool (makesB n m)), h) := call_makes n m hn hm h
theorem rk_succ (n i : Nat) (l : List Nat) (hl : l = (List.range i).filter fun k => lone k n) (h : lone i n = true) : (List.range (i + 1)).filter (fun k => lone k n) = l ++ [i] := by
  rw [List.range_succ, List.filter_append, ← hl, List.filter_cons, h]; rfl
theorem r_kept {h : Heap} {b : Nat} {v : AV} {L : List (List Int)} (hb : h[b]? = some (.cells [v])) (hv : isL v L) (hlt : L.length < 4095) : ag T 25 [.ptr b 0] h = some (i64 (keptS L.length).length, h) := by
  refine WP_eq (k_wp rfl t25 rfl rfl ?_)
  have hln := isL_len hv
  generalize hn : L.length = n at *
  first | have hb := hb | have hb := trivial
  repeat' (first | (simp -implicitDefEqProofs (disch := omega) only [hb, F25, wC, initE, aop, Nat.reduceEqDiff, ↓reduceIte, Nat.reduceAdd, finish, resOf, tupOf, AM.freeze, freeze1, freezeL, closed, nam, namL, if_true, if_false, deref, boxAt, exAt, ldCells, oneL, oneCell, Nat.reduceLeDiff, evL, adopt, rigid, rigidL, trim, Int.reduceEq, Int.reduceMod, Int.reduceDiv, if_pos, if_neg, asI, forall_const, implies_true, chkD, chkO, chkW, effB, reB, vEq, beq_self_eq_true, Nat.reduceSub, Nat.reduceLT, Int.reduceSub, Int.reduceAdd, Int.reduceMul, Int.reduceLT, Int.reduceLE, Int.reduceToNat, optI, aslice, cutSl, cutMs, cutStr, cutOwn, cellsOf, one, elCells, beqV, beqVL, strip, stripO, convS]) | ((first | rw [WP_condK] | rw [WP_opsG] | rw [WP_quiG] | rw [WP_dG]); refine And.intro (fun hb => ?_) (fun hb => ?_) <;> (first | have hd := dq1 hb | have hd := dq2 hb | have hd := dq3 hb | have hd := dq4 hb | skip)))
  refine WP_loop (I := fun f e h' => ∃ i : Nat, f = n - i ∧ i ≤ n ∧ getE e 0 = .ptr b 0 ∧ getE e 3 = i64 ((List.range i).filter fun k => lone k n).length ∧ getE e 4 = i64 i ∧ h' = h) ?_ n _ _ ⟨0, rfl, Nat.zero_le _, rfl, rfl, rfl, rfl⟩
  rintro f e h' ⟨i, rfl, hi, e0, e3, e4, rfl⟩
  rw [trim_same' (Nat.le_refl _)]
  by_cases hin : i = n
  · subst hin
    have hlt' : ¬ ((i : Int) < (i : Int)) := Int.lt_irrefl _
    first | have hb := hb | have hb := trivial
    repeat' (first | (simp -implicitDefEqProofs (disch := omega) only [hb, L25_1, F25, e0, e3, e4, hb, hln, hlt', wC, initE, aop, Nat.reduceEqDiff, ↓reduceIte, Nat.reduceAdd, finish, resOf, tupOf, AM.freeze, freeze1, freezeL, closed, nam, namL, if_true, if_false, deref, boxAt, exAt, ldCells, oneL, oneCell, Nat.reduceLeDiff, evL, adopt, rigid, rigidL, trim, Int.reduceEq, Int.reduceMod, Int.reduceDiv, if_pos, if_neg, asI, forall_const, implies_true, chkD, chkO, chkW, effB, reB, vEq, beq_self_eq_true, Nat.reduceSub, Nat.reduceLT, Int.reduceSub, Int.reduceAdd, Int.reduceMul, Int.reduceLT, Int.reduceLE, Int.reduceToNat, optI, aslice, cutSl, cutMs, cutStr, cutOwn, cellsOf, one, elCells, beqV, beqVL, strip, stripO, convS]) | ((first | rw [WP_condK] | rw [WP_opsG] | rw [WP_quiG] | rw [WP_dG]); refine And.intro (fun hb => ?_) (fun hb => ?_) <;> (first | have hd := dq1 hb | have hd := dq2 hb | have hd := dq3 hb | have hd := dq4 hb | skip)))
    all_goals first | rfl | done
  · have hlt' : ((i : Int) < (n : Int)) := by omega
    have hwr : IntKind.i64.wrap ((i : Int) + 1) = ((i + 1 : Nat) : Int) := by rw [IntKind.wrap_i64]; omega
    first | have hb := hb | have hb := trivial
    repeat' (first | (simp -implicitDefEqProofs (disch := omega) only [hb, L25_1, e0, e3, e4, hb, hln, hlt', hwr, wC, initE, aop, Nat.reduceEqDiff, ↓reduceIte, Nat.reduceAdd, finish, resOf, tupOf, AM.freeze, freeze1, freezeL, closed, nam, namL, if_true, if_false, deref, boxAt, exAt, ldCells, oneL, oneCell, Nat.reduceLeDiff, evL, adopt, rigid, rigidL, trim, Int.reduceEq, Int.reduceMod, Int.reduceDiv, if_pos, if_neg, asI, forall_const, implies_true, chkD, chkO, chkW, effB, reB, vEq, beq_self_eq_true, Nat.reduceSub, Nat.reduceLT, Int.reduceSub, Int.reduceAdd, Int.reduceMul, Int.reduceLT, Int.reduceLE, Int.reduceToNat, optI, aslice, cutSl, cutMs, cutStr, cutOwn, cellsOf, one, elCells, beqV, beqVL, strip, stripO, convS]) | ((first | rw [WP_condK] | rw [WP_opsG] | rw [WP_quiG] | rw [WP_dG]); refine And.intro (fun hb => ?_) (fun hb => ?_) <;> (first | have hd := dq1 hb | have hd := dq2 hb | have hd := dq3 hb | have hd := dq4 hb | skip)))
    have hsplit : ∀ b : Bool, lone i n = b → ((List.range (i + 1)).filter fun k => lone k n).length = ((List.range i).filter fun k => lone k n).length + (if b then 1 else 0) := by
      intro b hb'
      rw [List.range_succ, List.filter_append, List.length_append, List.filter_cons, hb']
      cases b <;> rfl
    have hcl : ((List.range i).filter fun k => lone k n).length ≤ i := by
      have := List.length_filter_le (fun k => lone k n) (List.range i)
      simpa using this
    generalize ((List.range i).filter fun k => lone k n).length = c at *
    refine WP_loop (I := fun f e h => ∃ j : Nat, f = n - j ∧ i + 1 ≤ j ∧ j ≤ n ∧ getE e 0 = .ptr b 0 ∧ getE e 3 = i64 c ∧ getE e 4 = i64 i ∧ getE e 5 = .bool (lone i j) ∧ getE e 6 = i64 j ∧ h = h') ?_ (n - (i + 1)) _ _ ⟨i + 1, rfl, Nat.le_refl _, by omega, rfl, rfl, rfl, by rw [lone_self i (i + 1) (Nat.le_refl _)]; rfl, rfl, rfl⟩
    clear e0 e3 e4 e
    rintro f e h ⟨j, rfl, hij, hj, e0, e3, e4, e5, e6, rfl⟩
    rw [trim_same' (Nat.le_refl _)]
    by_cases hjn : j = n
    · subst hjn
      have hlj : ¬ ((j : Int) < (j : Int)) := Int.lt_irrefl _
      have hadd : IntKind.i64.wrap ((c : Int) + 1) = ((c + 1 : Nat) : Int) := by rw [IntKind.wrap_i64]; omega
      cases hlo : lone i j with
      | true =>
        rw [hlo] at e5
        have hs := hsplit true hlo
        first | have hb := hb | have hb := trivial
        repeat' (first | (simp -implicitDefEqProofs (disch := omega) only [hb, L25_0, e0, e3, e4, e5, e6, hb, hln, hlj, hwr, hadd, wC, initE, aop, Nat.reduceEqDiff, ↓reduceIte, Nat.reduceAdd, finish, resOf, tupOf, AM.freeze, freeze1, freezeL, closed, nam, namL, if_true, if_false, deref, boxAt, exAt, ldCells, oneL, oneCell, Nat.reduceLeDiff, evL, adopt, rigid, rigidL, trim, Int.reduceEq, Int.reduceMod, Int.reduceDiv, if_pos, if_neg, asI, forall_const, implies_true, chkD, chkO, chkW, effB, reB, vEq, beq_self_eq_true, Nat.reduceSub, Nat.reduceLT, Int.reduceSub, Int.reduceAdd, Int.reduceMul, Int.reduceLT, Int.reduceLE, Int.reduceToNat, optI, aslice, cutSl, cutMs, cutStr, cutOwn, cellsOf, one, elCells, beqV, beqVL, strip, stripO, convS]) | ((first | rw [WP_condK] | rw [WP_opsG] | rw [WP_quiG] | rw [WP_dG]); refine And.intro (fun hb => ?_) (fun hb => ?_) <;> (first | have hd := dq1 hb | have hd := dq2 hb | have hd := dq3 hb | have hd := dq4 hb | skip)))
        exact ⟨j - (i + 1), by omega, i + 1, rfl, by omega, by rw [hs]; rfl, rfl⟩
      | false =>
        rw [hlo] at e5
        have hs := hsplit false hlo
        first | have hb := hb | have hb := trivial
        repeat' (first | (simp -implicitDefEqProofs (disch := omega) only [hb, L25_0, e0, e3, e4, e5, e6, hb, hln, hlj, hwr, hadd, wC, initE, aop, Nat.reduceEqDiff, ↓reduceIte, Nat.reduceAdd, finish, resOf, tupOf, AM.freeze, freeze1, freezeL, closed, nam, namL, if_true, if_false, deref, boxAt, exAt, ldCells, oneL, oneCell, Nat.reduceLeDiff, evL, adopt, rigid, rigidL, trim, Int.reduceEq, Int.reduceMod, Int.reduceDiv, if_pos, if_neg, asI, forall_const, implies_true, chkD, chkO, chkW, effB, reB, vEq, beq_self_eq_true, Nat.reduceSub, Nat.reduceLT, Int.reduceSub, Int.reduceAdd, Int.reduceMul, Int.reduceLT, Int.reduceLE, Int.reduceToNat, optI, aslice, cutSl, cutMs, cutStr, cutOwn, cellsOf, one, elCells, beqV, beqVL, strip, stripO, convS]) | ((first | rw [WP_condK] | rw [WP_opsG] | rw [WP_quiG] | rw [WP_dG]); refine And.intro (fun hb => ?_) (fun hb => ?_) <;> (first | have hd := dq1 hb | have hd := dq2 hb | have hd := dq3 hb | have hd := dq4 hb | skip)))
        exact ⟨j - (i + 1), by omega, i + 1, rfl, by omega, by rw [hs]; rfl, rfl⟩
    · have hlj : ((j : Int) < (n : Int)) := by omega
      have hwj : IntKind.i64.wrap ((j : Int) + 1) = ((j + 1 : Nat) : Int) := by rw [IntKind.wrap_i64]; omega
      have hmk := call_makes' j i (by omega) (by omega)
      have hlo : lone i (j + 1) = (lone i j && !makesB j i) := by rw [lone, decide_eq_true (show i < j by omega), Bool.true_and]
      cases hm : makesB j i with
      | true =>
        rw [hm] at hmk hlo
        first | have hb := hb | have hb := trivial
        repeat' (first | (simp -implicitDefEqProofs (disch := omega) only [hb, L25_0, e0, e3, e4, e5, e6, hb, hln, hlj, hwj, hmk, wC, initE, aop, Nat.reduceEqDiff, ↓reduceIte, Nat.reduceAdd, finish, resOf, tupOf, AM.freeze, freeze1, freezeL, closed, nam, namL, if_true, if_false, deref, boxAt, exAt, ldCells, oneL, oneCell, Nat.reduceLeDiff, evL, adopt, rigid, rigidL, trim, Int.reduceEq, Int.reduceMod, Int.reduceDiv, if_pos, if_neg, asI, forall_const, implies_true, chkD, chkO, chkW, effB, reB, vEq, beq_self_eq_true, Nat.reduceSub, Nat.reduceLT, Int.reduceSub, Int.reduceAdd, Int.reduceMul, Int.reduceLT, Int.reduceLE, Int.reduceToNat, optI, aslice, cutSl, cutMs, cutStr, cutOwn, cellsOf, one, elCells, beqV, beqVL, strip, stripO, convS]) | ((first | rw [WP_condK] | rw [WP_opsG] | rw [WP_quiG] | rw [WP_dG]); refine And.intro (fun hb => ?_) (fun hb => ?_) <;> (first | have hd := dq1 hb | have hd := dq2 hb | have hd := dq3 hb | have hd := dq4 hb | skip)))
        exact ⟨n - (j + 1), by omega, j + 1, rfl, by omega, by omega, by rw [hlo]; simp, rfl⟩
      | false =>
        rw [hm] at hmk hlo
        first | have hb := hb | have hb := trivial
        repeat' (first | (simp -implicitDefEqProofs (disch := omega) only [hb, L25_0, e0, e3, e4, e5, e6, hb, hln, hlj, hwj, hmk, wC, initE, aop, Nat.reduceEqDiff, ↓reduceIte, Nat.reduceAdd, finish, resOf, tupOf, AM.freeze, freeze1, freezeL, closed, nam, namL, if_true, if_false, deref, boxAt, exAt, ldCells, oneL, oneCell, Nat.reduceLeDiff, evL, adopt, rigid, rigidL, trim, Int.reduceEq, Int.reduceMod, Int.reduceDiv, if_pos, if_neg, asI, forall_const, implies_true, chkD, chkO, chkW, effB, reB, vEq, beq_self_eq_true, Nat.reduceSub, Nat.reduceLT, Int.reduceSub, Int.reduceAdd, Int.reduceMul, Int.reduceLT, Int.reduceLE, Int.reduceToNat, optI, aslice, cutSl, cutMs, cutStr, cutOwn, cellsOf, one, elCells, beqV, beqVL, strip, stripO, convS]) | ((first | rw [WP_condK] | rw [WP_opsG] | rw [WP_quiG] | rw [WP_dG]); refine And.intro (fun hb => ?_) (fun hb => ?_) <;> (first | have hd := dq1 hb | have hd := dq2 hb | have hd := dq3 hb | have hd := dq4 hb | skip)))
        exact ⟨n - (j + 1), by omega, j + 1, rfl, by omega, by omega, by rw [hlo]; simp, rfl⟩
end Go.Proofs.YtkihcmlmcgokhaaDoor.AM

/- layer 05: a look at both shelves. -/
namespace Go.Proofs.YtkihcmlmcgokhaaDoor.AM
open Go
set_option maxRecDepth 100000
set_option maxHeartbeats 4000000
set_option linter.unusedVariables false
set_option linter.unusedSimpArgs false
theorem s_len' {h : Heap} {a : Nat} {L : List (List Int)} (hb : h[a]? = some (.cells (shL L))) (hL : ∀ s ∈ L, Sec s) : ag T 19 [.ptr a 0] h = some (i64 L.length, h) := by
  refine WP_eq (k_wp rfl t19 rfl rfl ?_)
  have hX : List.drop 442 (shL L) = [i64 L.length] := (shw_byS hL L.length).last _
  have hXl : (shL L).length = 443 := (shw_byS hL L.length).size _
  generalize shL L = X at *
  first | have hb := hb | have hb := trivial
  repeat' (first | (simp -implicitDefEqProofs (disch := omega) only [hb, F19, isNil, hX, hb, hXl, wC, initE, aop, Nat.reduceEqDiff, ↓reduceIte, Nat.reduceAdd, finish, resOf, tupOf, AM.freeze, freeze1, freezeL, closed, nam, namL, if_true, if_false, deref, boxAt, exAt, ldCells, oneL, oneCell, Nat.reduceLeDiff, evL, adopt, rigid, rigidL, trim, Int.reduceEq, Int.reduceMod, Int.reduceDiv, if_pos, if_neg, asI, forall_const, implies_true, chkD, chkO, chkW, effB, reB, vEq, beq_self_eq_true, Nat.reduceSub, Nat.reduceLT, Int.reduceSub, Int.reduceAdd, Int.reduceMul, Int.reduceLT, Int.reduceLE, Int.reduceToNat, optI, aslice, cutSl, cutMs, cutStr, cutOwn, cellsOf, one, elCells, lenOf, beqV, beqVL, strip, stripO, convS]) | ((first | rw [WP_condK] | rw [WP_opsG] | rw [WP_quiG] | rw [WP_dG]); refine And.intro (fun hb => ?_) (fun hb => ?_) <;> (first | have hd := dq1 hb | have hd := dq2 hb | have hd := dq3 hb | have hd := dq4 hb | skip)))
theorem agD_beq : ∀ L : List (List Int), beqVL (L.map agD) (L.map agD) = true
  | [] => rfl
  | s :: L => by
    rw [List.map_cons]
    simp only [beqVL, beqV, kbeq, agD_beq L, Bool.and_self]
theorem isL_beq {v : AV} {L : List (List Int)} (h : isL v L) : beqV v v = true := by
  rcases h with ⟨rfl, rfl⟩ | ⟨o, rfl⟩
  · rfl
  · simp only [beqV, agD_beq, beq_self_eq_true, Bool.and_self]
theorem looks_ok {h : Heap} {a b : Nat} {v : AV} {L : List (List Int)} (hw : HW h) (ha : h[a]? = some (.cells (shL L))) (hb : h[b]? = some (.cells [v])) (hv : isL v L) (hL : Lst L) (i : Int) :
    ∃ g, g.all (belowO 0) = true ∧ ag T 23 [.ptr a 0, .ptr b 0, i64 i] h = some (.sc (.bool true), h ++ g) := by
  suffices hh : WP (fun r => ∃ g, g.all (belowO 0) = true ∧ r = (.sc (.bool true), h ++ g)) (ag T 23 [.ptr a 0, .ptr b 0, i64 i] h) by
    obtain ⟨r, h1, g, h2, rfl⟩ := WP_ex hh
    exact ⟨g, h2, h1⟩
  refine k_wp rfl t23 rfl rfl ?_
  have hlt := hL.lt
  have hln := isL_len hv
  obtain ⟨hal, _⟩ := List.getElem?_eq_some_iff.1 ha
  obtain ⟨hbl, _⟩ := List.getElem?_eq_some_iff.1 hb
  have hza := zagg_eq
  have hdz := dg_of sec_zero.len
  have z1 := hdz.len
  have z2 := hdz.one
  have z5 := hdz.tk
  have z6 := hdz.sl
  have hnZ := u8_nam (fun i => decide (i < 0)) zS
  have hbq := isL_beq hv
  have hbl2 := agD_beq L
  by_cases h0 : i < 0 ∨ (L.length : Int) ≤ i
  · have hg := s_miss hw ha hL i h0
    have hlen : ∀ g, ag T 19 [.ptr a 0] (h ++ ([AObj.cells (zS.map u8)] ++ g)) = some (i64 L.length, h ++ ([AObj.cells (zS.map u8)] ++ g)) := fun g => s_len' (by rw [List.getElem?_append_left hal]; exact ha) hL.sec
    have hgb : ∀ g, (h ++ ([AObj.cells (zS.map u8)] ++ g))[b]? = some (.cells [v]) := fun g => by rw [List.getElem?_append_left hbl]; exact hb
    have hzq := keq_same zS
    simp only [List.cons_append, List.nil_append] at hlen hgb
    generalize hZ : zS.map u8 = Z at *
    by_cases h1 : i < 0
    · have h2 : ¬ (0 ≤ i) := by omega
      first | have hb := hb | have hb := trivial
      repeat' (first | (simp -implicitDefEqProofs (disch := omega) only [hb, F23, hg, hlen, hgb, hza, hzq, z1, z2, z5, z6, h2, hln, hbq, List.append_assoc, wC, initE, aop, Nat.reduceEqDiff, ↓reduceIte, Nat.reduceAdd, finish, resOf, tupOf, AM.freeze, freeze1, freezeL, closed, nam, namL, if_true, if_false, deref, boxAt, exAt, ldCells, oneL, oneCell, Nat.reduceLeDiff, evL, adopt, rigid, rigidL, trim, Int.reduceEq, Int.reduceMod, Int.reduceDiv, if_pos, if_neg, asI, forall_const, implies_true, chkD, chkO, chkW, effB, reB, vEq, beq_self_eq_true, Nat.reduceSub, Nat.reduceLT, Int.reduceSub, Int.reduceAdd, Int.reduceMul, Int.reduceLT, Int.reduceLE, Int.reduceToNat, optI, aslice, cutSl, cutMs, cutStr, cutOwn, cellsOf, one, elCells, beqV, beqVL, strip, stripO, convS]) | ((first | rw [WP_condK] | rw [WP_opsG] | rw [WP_quiG] | rw [WP_dG]); refine And.intro (fun hb => ?_) (fun hb => ?_) <;> (first | have hd := dq1 hb | have hd := dq2 hb | have hd := dq3 hb | have hd := dq4 hb | skip)))
      exact ⟨_, by simp only [List.all_cons, List.all_nil, Bool.and_true, belowO, belowL, hnZ], rfl⟩
    · have h2 : 0 ≤ i := by omega
      have h3 : ¬ (i < (L.length : Int)) := by omega
      first | have hb := hb | have hb := trivial
      repeat' (first | (simp -implicitDefEqProofs (disch := omega) only [hb, F23, hg, hlen, hgb, hza, hzq, z1, z2, z5, z6, h2, h3, hln, hbq, List.append_assoc, wC, initE, aop, Nat.reduceEqDiff, ↓reduceIte, Nat.reduceAdd, finish, resOf, tupOf, AM.freeze, freeze1, freezeL, closed, nam, namL, if_true, if_false, deref, boxAt, exAt, ldCells, oneL, oneCell, Nat.reduceLeDiff, evL, adopt, rigid, rigidL, trim, Int.reduceEq, Int.reduceMod, Int.reduceDiv, if_pos, if_neg, asI, forall_const, implies_true, chkD, chkO, chkW, effB, reB, vEq, beq_self_eq_true, Nat.reduceSub, Nat.reduceLT, Int.reduceSub, Int.reduceAdd, Int.reduceMul, Int.reduceLT, Int.reduceLE, Int.reduceToNat, optI, aslice, cutSl, cutMs, cutStr, cutOwn, cellsOf, one, elCells, beqV, beqVL, strip, stripO, convS]) | ((first | rw [WP_condK] | rw [WP_opsG] | rw [WP_quiG] | rw [WP_dG]); refine And.intro (fun hb => ?_) (fun hb => ?_) <;> (first | have hd := dq1 hb | have hd := dq2 hb | have hd := dq3 hb | have hd := dq4 hb | skip)))
      exact ⟨_, by simp only [List.all_cons, List.all_nil, Bool.and_true, belowO, belowL, hnZ], rfl⟩
  · obtain ⟨k, rfl⟩ : ∃ k : Nat, i = k := ⟨i.toNat, by omega⟩
    have hk : k < L.length := by omega
    obtain ⟨g1, hg1, hg⟩ := s_get hw ha hL k hk
    have hlen : ∀ g, ag T 19 [.ptr a 0] (h ++ (g1 ++ g)) = some (i64 L.length, h ++ (g1 ++ g)) := fun g => s_len' (by rw [List.getElem?_append_left hal]; exact ha) hL.sec
    have hgb : ∀ g, (h ++ (g1 ++ g))[b]? = some (.cells [v]) := fun g => by rw [List.getElem?_append_left hbl]; exact hb
    simp only [← List.append_assoc h] at hlen hgb
    obtain ⟨o, rfl⟩ := isL_sl hv (by omega)
    have hsk := sec_getD hL.sec k
    have hkq := keq_same (L.getD k zS)
    have hgk := agD_get hk
    unfold agD at hgk
    have hdx := dg_of hsk.len
    have x1 := hdx.len
    have x2 := hdx.one
    have x5 := hdx.tk
    have x6 := hdx.sl
    have hzx : splice (zS.map u8) 0 ((L.getD k zS).map u8) = (L.getD k zS).map u8 := splice_all (by rw [x1, z1])
    have hnX := u8_nam (fun i => decide (i < 0)) (L.getD k zS)
    have h2 : (0 : Int) ≤ (k : Int) := by omega
    have h3 : ((k : Int) < (L.length : Int)) := by omega
    have hkt : ((k : Int)).toNat = k := Int.toNat_natCast k
    have hml : (L.map agD).length = L.length := List.length_map ..
    unfold agD at hln
    have hfin : ∀ g, g.all (belowO 0) = true → (h ++ g1) ++ g = h ++ (g1 ++ g) ∧ (g1 ++ g).all (belowO 0) = true := fun g hg' => ⟨List.append_assoc .., by rw [List.all_append, hg1, hg']; rfl⟩
    generalize hG : h ++ g1 = G at *
    generalize hZ : zS.map u8 = Z at *
    generalize (L.getD k zS).map u8 = X at *
    first | have hb := hb | have hb := trivial
    repeat' (first | (simp -implicitDefEqProofs (disch := omega) only [hb, F23, hg, hlen, hgb, hza, hkq, z1, z2, z5, z6, x1, x2, x5, x6, hzx, hgk, h2, h3, hkt, hln, hbl2, List.append_assoc, wC, initE, aop, Nat.reduceEqDiff, ↓reduceIte, Nat.reduceAdd, finish, resOf, tupOf, AM.freeze, freeze1, freezeL, closed, nam, namL, if_true, if_false, deref, boxAt, exAt, ldCells, oneL, oneCell, Nat.reduceLeDiff, evL, adopt, rigid, rigidL, trim, Int.reduceEq, Int.reduceMod, Int.reduceDiv, if_pos, if_neg, asI, forall_const, implies_true, chkD, chkO, chkW, effB, reB, vEq, beq_self_eq_true, Nat.reduceSub, Nat.reduceLT, Int.reduceSub, Int.reduceAdd, Int.reduceMul, Int.reduceLT, Int.reduceLE, Int.reduceToNat, optI, aslice, cutSl, cutMs, cutStr, cutOwn, cellsOf, one, elCells, beqV, beqVL, strip, stripO, convS]) | ((first | rw [WP_condK] | rw [WP_opsG] | rw [WP_quiG] | rw [WP_dG]); refine And.intro (fun hb => ?_) (fun hb => ?_) <;> (first | have hd := dq1 hb | have hd := dq2 hb | have hd := dq3 hb | have hd := dq4 hb | skip)))
    obtain ⟨f1, f2⟩ := hfin [.cells X, .cells X] (by simp only [List.all_cons, List.all_nil, Bool.and_true, belowO, belowL, hnX])
    exact ⟨_, f2, by rw [← f1]⟩
end Go.Proofs.YtkihcmlmcgokhaaDoor.AM

/- layer 05: SecretsBits. -/
namespace Go.Proofs.YtkihcmlmcgokhaaDoor.AM
open Go
set_option maxRecDepth 100000
set_option maxHeartbeats 4000000
set_option linter.unusedVariables false
set_option linter.unusedSimpArgs false
/-- the first n secrets of a seed -/
def LS (s : List Int) (n : Nat) : List (List Int) := (List.range n).map fun i : Nat => atS s i
theorem LS_len (s : List Int) (n : Nat) : (LS s n).length = n := by simp [LS]
theorem LS_succ (s : List Int) (n : Nat) : LS s (n + 1) = LS s n ++ [atS s n] := by simp [LS, List.range_succ]
theorem LS_get (s : List Int) {n i : Nat} (h : i < n) : (LS s n).getD i zS = atS s i := by
  rw [List.getD_eq_getElem?_getD]
  simp [LS, h]
theorem atS_nat (s : List Int) {n : Nat} (h : n < 4096) : atS s n = kWalk s (4095 - n) 12 := by
  unfold atS
  rw [show inB (n : Int) = true by simp [inB]; omega, if_pos rfl, Int.toNat_natCast]
theorem LS_ok (s : List Int) (n : Nat) (hn : n < 4095) : OKr (LS s n) (atS s n) := by
  intro i hi hm
  rw [LS_len] at hi hm ⊢
  rw [LS_get s hi, atS_nat s (by omega), atS_nat s (by omega)]
  have h1 := (makes_next n i hn (by omega)).1 hm
  exact (walk_comp s (4095 - n) (4095 - i) (lowS (4095 - n)) (lowS_mod _) ((mir_iff i n _ (by omega) (by omega) (lowS_le _)).2 h1.symm) 12 (lowS_le _)).symm
theorem LS_lst (s : List Int) (hs : Sec s) : ∀ n, n < 4095 → Lst (LS s n)
  | 0, _ => lst_nil
  | n + 1, h => by
    rw [LS_succ]
    exact lst_snoc (LS_lst s hs n (by omega)) (sec_at hs n) (LS_ok s n (by omega)) (by rw [LS_len]; omega)
/-- how many bits are set, by the machine -/
def popOK (n : Nat) : Bool := match gcall T 20 26 [u64 n] [] with
  | some (.sc (.int .i64 v), []) => v == (popS n : Nat)
  | _ => false
theorem pops_ok : (List.range 140).all popOK = true := by kernel_rfl
theorem call_pop (n : Nat) (hn : n < 140) (h : Heap) : ag T 26 [u64 n] h = some (i64 (popS n), h) := by
  have h1 := List.all_eq_true.1 pops_ok n (List.mem_range.2 hn)
  unfold popOK at h1
  have h2 : gcall T 20 26 [u64 n] [] = some (i64 (popS n), []) := by
    revert h1
    split
    · rename_i v hv
      intro h1
      rw [hv, eq_of_beq h1]
    · intro h1; cases h1
  exact k_any rfl t26 rfl rfl rfl rfl (ag_of_gcall h2) h
theorem cells_nam (s : List Int) (m : Nat) : belowO m (.cells (s.map u8)) = true := u8_nam _ s
theorem shL_below (L : List (List Int)) (m : Nat) : belowO m (.cells (shL L)) = true := shL_nam _ L
theorem secretsBits_ok (s : List Int) (hs : Sec s) (n : Int) : prun T F8 [.agg (s.map u8), i64 n] = some (.bool true) := by
  refine WP_eq (prun_wp ?_)
  have hlv := call_lives
  have hnew := new_ok [.cells (s.map u8)]
  have hd := dg_of hs.len
  have q1 := hd.len
  have q2 := hd.one
  have q5 := hd.tk
  have hra := fun n => call_rat s hs n
  obtain ⟨k, hk, hkn⟩ : ∃ k : Nat, k < 140 ∧ (n.tmod 140 = (k : Int) ∨ n.tmod 140 < 0 ∧ n.tmod 140 = -(k : Int)) := by
    refine ⟨(n.tmod 140).natAbs, ?_, ?_⟩
    · have := Int.tmod_lt_of_pos n (show (0 : Int) < 140 by decide)
      have h2 := Int.lt_tmod_of_pos n (show (0 : Int) < 140 by decide)
      omega
    · omega
  have hneg : IntKind.i64.wrap (0 - (-(k : Int))) = (k : Int) := by rw [IntKind.wrap_i64]; omega
  have haun : aun .neg (.int .i64 (-(k : Int))) = some (.int .i64 (k : Int)) := by simp only [aun]; rw [hneg]
  have main : ∀ (e : Env) (Q : Res → Prop), getE e 2 = .ptr 0 0 → getE e 5 = .ptr 1 0 → getE e 6 = i64 k → getE e 7 = i64 0 → (∀ e', getE e' 5 = .ptr 1 0 → getE e' 6 = i64 k → Q (.exit 0, e', [.cells (s.map u8), .cells (shL (LS s k))])) → WP Q (axl T [2, 5, 6, 7] true L8_0 2 e [.cells (s.map u8), .cells (shL [])]) := by
    intro e Q e2 e5 e6 e7 hQ
    refine WP_loop (I := fun f e h => ∃ (j : Nat) (g : Heap), f = k - j ∧ j ≤ k ∧ getE e 2 = .ptr 0 0 ∧ getE e 5 = .ptr 1 0 ∧ getE e 6 = i64 k ∧ getE e 7 = i64 j ∧ h = [AObj.cells (s.map u8), .cells (shL (LS s j))] ++ g) ?_ k _ _ ⟨0, [], rfl, Nat.zero_le _, e2, e5, e6, e7, rfl⟩
    clear e2 e5 e6 e7 e
    rintro f e h ⟨j, g, rfl, hj, e2, e5, e6, e7, rfl⟩
    have hw2 : ([AObj.cells (s.map u8), .cells (shL (LS s j))] : Heap).all (belowO 2) = true := by
      simp only [List.all_cons, List.all_nil, Bool.and_true, cells_nam, shL_below]
    rw [trim_sym (m := 2) g rfl hw2 (by simp [e2, e5, e6, e7, below, nam])]
    by_cases hjk : j = k
    · subst hjk
      have hlt' : ¬ ((j : Int) < (j : Int)) := Int.lt_irrefl _
      first | have hb := hb | have hb := trivial
      repeat' (first | (simp -implicitDefEqProofs (disch := omega) only [hb, L8_0, e2, e5, e6, e7, hlt', wC, initE, aop, Nat.reduceEqDiff, ↓reduceIte, Nat.reduceAdd, finish, resOf, tupOf, AM.freeze, freeze1, freezeL, closed, nam, namL, if_true, if_false, deref, boxAt, exAt, ldCells, oneL, oneCell, Nat.reduceLeDiff, evL, adopt, rigid, rigidL, trim, Int.reduceEq, Int.reduceMod, Int.reduceDiv, if_pos, if_neg, asI, forall_const, implies_true, chkD, chkO, chkW, effB, reB, vEq, beq_self_eq_true, Nat.reduceSub, Nat.reduceLT, Int.reduceSub, Int.reduceAdd, Int.reduceMul, Int.reduceLT, Int.reduceLE, Int.reduceToNat, optI, aslice, cutSl, cutMs, cutStr, cutOwn, cellsOf, one, elCells, lenOf, beqV, beqVL, strip, stripO, convS]) | ((first | rw [WP_condK] | rw [WP_opsG] | rw [WP_quiG] | rw [WP_dG]); refine And.intro (fun hb => ?_) (fun hb => ?_) <;> (first | have hd := dq1 hb | have hd := dq2 hb | have hd := dq3 hb | have hd := dq4 hb | skip)))
      exact hQ _ rfl rfl
    · have hlt' : ((j : Int) < (k : Int)) := by omega
      have hwr : IntKind.i64.wrap ((j : Int) + 1) = ((j + 1 : Nat) : Int) := by rw [IntKind.wrap_i64]; omega
      obtain ⟨h', hput, haft⟩ := s_put (h := [AObj.cells (s.map u8), .cells (shL (LS s j))]) (a := 1) (L := LS s j) hw2 rfl (LS_lst s hs j (by omega)) (atS s j) (sec_at hs _) (LS_ok s j (by omega))
      have htk := haft.take (by show 1 < 2; omega)
      have hra1 := hra j
      generalize (atS s j).map u8 = A at *
      generalize hD : s.map u8 = D at *
      generalize hX : shL (LS s j) = X at *
      first | have hb := hb | have hb := trivial
      repeat' (first | (simp -implicitDefEqProofs (disch := omega) only [hb, L8_0, e2, e5, e6, e7, hlt', hwr, hput, hra1, q1, q2, q5, wC, initE, aop, Nat.reduceEqDiff, ↓reduceIte, Nat.reduceAdd, finish, resOf, tupOf, AM.freeze, freeze1, freezeL, closed, nam, namL, if_true, if_false, deref, boxAt, exAt, ldCells, oneL, oneCell, Nat.reduceLeDiff, evL, adopt, rigid, rigidL, trim, Int.reduceEq, Int.reduceMod, Int.reduceDiv, if_pos, if_neg, asI, forall_const, implies_true, chkD, chkO, chkW, effB, reB, vEq, beq_self_eq_true, Nat.reduceSub, Nat.reduceLT, Int.reduceSub, Int.reduceAdd, Int.reduceMul, Int.reduceLT, Int.reduceLE, Int.reduceToNat, optI, aslice, cutSl, cutMs, cutStr, cutOwn, cellsOf, one, elCells, lenOf, beqV, beqVL, strip, stripO, convS]) | ((first | rw [WP_condK] | rw [WP_opsG] | rw [WP_quiG] | rw [WP_dG]); refine And.intro (fun hb => ?_) (fun hb => ?_) <;> (first | have hd := dq1 hb | have hd := dq2 hb | have hd := dq3 hb | have hd := dq4 hb | skip)))
      refine ⟨k - (j + 1), by omega, j + 1, h'.drop 2, rfl, by omega, rfl, ?_⟩
      rw [LS_succ]
      conv => lhs; rw [← List.take_append_drop 2 h']
      rw [show h'.take 2 = [AObj.cells D, AObj.cells X].set 1 (.cells (shL (LS s j ++ [atS s j]))) from htk]
      rfl
  have hL := LS_lst s hs k (by omega)
  have hw2 : ([AObj.cells (s.map u8), .cells (shL (LS s k))] : Heap).all (belowO 2) = true := by
    simp only [List.all_cons, List.all_nil, Bool.and_true, cells_nam, shL_below]
  have hlen := s_len (h := [AObj.cells (s.map u8), .cells (shL (LS s k))]) (a := 1) hw2 rfl hL
  have hkept := s_kept (h := [AObj.cells (s.map u8), .cells (shL (LS s k))]) (a := 1) hw2 rfl hL
  rw [LS_len] at hlen hkept
  have hpop := call_pop k hk
  have hcv : IntKind.u64.wrap (k : Int) = (k : Int) := by rw [IntKind.wrap_u64]; omega
  generalize s.map u8 = D at *
  generalize shL (LS s k) = X at *
  generalize shL [] = X0 at *
  rcases hkn with hkn | ⟨hk0, hkn⟩
  · have h0 : ¬ ((k : Int) < 0) := by omega
    first | have hb := hb | have hb := trivial
    repeat' (first | (simp -implicitDefEqProofs (disch := omega) only [hb, F8, isNil, hlv, hnew, q1, q2, q5, hkn, h0, wC, initE, aop, Nat.reduceEqDiff, ↓reduceIte, Nat.reduceAdd, finish, resOf, tupOf, AM.freeze, freeze1, freezeL, closed, nam, namL, if_true, if_false, deref, boxAt, exAt, ldCells, oneL, oneCell, Nat.reduceLeDiff, evL, adopt, rigid, rigidL, trim, Int.reduceEq, Int.reduceMod, Int.reduceDiv, if_pos, if_neg, asI, forall_const, implies_true, chkD, chkO, chkW, effB, reB, vEq, beq_self_eq_true, Nat.reduceSub, Nat.reduceLT, Int.reduceSub, Int.reduceAdd, Int.reduceMul, Int.reduceLT, Int.reduceLE, Int.reduceToNat, optI, aslice, cutSl, cutMs, cutStr, cutOwn, cellsOf, one, elCells, lenOf, beqV, beqVL, strip, stripO, convS]) | ((first | rw [WP_condK] | rw [WP_opsG] | rw [WP_quiG] | rw [WP_dG]); refine And.intro (fun hb => ?_) (fun hb => ?_) <;> (first | have hd := dq1 hb | have hd := dq2 hb | have hd := dq3 hb | have hd := dq4 hb | skip)))
    refine main _ _ rfl rfl rfl rfl (fun e' e5 e6 => ?_)
    first | have hb := hb | have hb := trivial
    repeat' (first | (simp -implicitDefEqProofs (disch := omega) only [hb, F8, e5, e6, hlen, hkept, hpop, hcv, wC, initE, aop, Nat.reduceEqDiff, ↓reduceIte, Nat.reduceAdd, finish, resOf, tupOf, AM.freeze, freeze1, freezeL, closed, nam, namL, if_true, if_false, deref, boxAt, exAt, ldCells, oneL, oneCell, Nat.reduceLeDiff, evL, adopt, rigid, rigidL, trim, Int.reduceEq, Int.reduceMod, Int.reduceDiv, if_pos, if_neg, asI, forall_const, implies_true, chkD, chkO, chkW, effB, reB, vEq, beq_self_eq_true, Nat.reduceSub, Nat.reduceLT, Int.reduceSub, Int.reduceAdd, Int.reduceMul, Int.reduceLT, Int.reduceLE, Int.reduceToNat, optI, aslice, cutSl, cutMs, cutStr, cutOwn, cellsOf, one, elCells, lenOf, beqV, beqVL, strip, stripO, convS]) | ((first | rw [WP_condK] | rw [WP_opsG] | rw [WP_quiG] | rw [WP_dG]); refine And.intro (fun hb => ?_) (fun hb => ?_) <;> (first | have hd := dq1 hb | have hd := dq2 hb | have hd := dq3 hb | have hd := dq4 hb | skip)))
    all_goals done
  · have h0 : (-(k : Int) < 0) := by omega
    first | have hb := hb | have hb := trivial
    repeat' (first | (simp -implicitDefEqProofs (disch := omega) only [hb, F8, isNil, hlv, hnew, q1, q2, q5, hkn, h0, haun, wC, initE, aop, Nat.reduceEqDiff, ↓reduceIte, Nat.reduceAdd, finish, resOf, tupOf, AM.freeze, freeze1, freezeL, closed, nam, namL, if_true, if_false, deref, boxAt, exAt, ldCells, oneL, oneCell, Nat.reduceLeDiff, evL, adopt, rigid, rigidL, trim, Int.reduceEq, Int.reduceMod, Int.reduceDiv, if_pos, if_neg, asI, forall_const, implies_true, chkD, chkO, chkW, effB, reB, vEq, beq_self_eq_true, Nat.reduceSub, Nat.reduceLT, Int.reduceSub, Int.reduceAdd, Int.reduceMul, Int.reduceLT, Int.reduceLE, Int.reduceToNat, optI, aslice, cutSl, cutMs, cutStr, cutOwn, cellsOf, one, elCells, lenOf, beqV, beqVL, strip, stripO, convS]) | ((first | rw [WP_condK] | rw [WP_opsG] | rw [WP_quiG] | rw [WP_dG]); refine And.intro (fun hb => ?_) (fun hb => ?_) <;> (first | have hd := dq1 hb | have hd := dq2 hb | have hd := dq3 hb | have hd := dq4 hb | skip)))
    refine main _ _ rfl rfl rfl rfl (fun e' e5 e6 => ?_)
    first | have hb := hb | have hb := trivial
    repeat' (first | (simp -implicitDefEqProofs (disch := omega) only [hb, F8, e5, e6, hlen, hkept, hpop, hcv, wC, initE, aop, Nat.reduceEqDiff, ↓reduceIte, Nat.reduceAdd, finish, resOf, tupOf, AM.freeze, freeze1, freezeL, closed, nam, namL, if_true, if_false, deref, boxAt, exAt, ldCells, oneL, oneCell, Nat.reduceLeDiff, evL, adopt, rigid, rigidL, trim, Int.reduceEq, Int.reduceMod, Int.reduceDiv, if_pos, if_neg, asI, forall_const, implies_true, chkD, chkO, chkW, effB, reB, vEq, beq_self_eq_true, Nat.reduceSub, Nat.reduceLT, Int.reduceSub, Int.reduceAdd, Int.reduceMul, Int.reduceLT, Int.reduceLE, Int.reduceToNat, optI, aslice, cutSl, cutMs, cutStr, cutOwn, cellsOf, one, elCells, lenOf, beqV, beqVL, strip, stripO, convS]) | ((first | rw [WP_condK] | rw [WP_opsG] | rw [WP_quiG] | rw [WP_dG]); refine And.intro (fun hb => ?_) (fun hb => ?_) <;> (first | have hd := dq1 hb | have hd := dq2 hb | have hd := dq3 hb | have hd := dq4 hb | skip)))
    all_goals done
end Go.Proofs.YtkihcmlmcgokhaaDoor.AM

/- layer 05: SecretsTold. -/
namespace Go.Proofs.YtkihcmlmcgokhaaDoor.AM
open Go
set_option maxRecDepth 100000
set_option maxHeartbeats 4000000
set_option linter.unusedVariables false
set_option linter.unusedSimpArgs false
abbrev told (s o : List Int) (L : List (List Int)) : Heap := [AObj.cells (s.map u8), .cells (o.map u8), .cells (shL L)]
theorem told_wf (s o : List Int) (L : List (List Int)) : (told s o L).all (belowO 3) = true := by
  simp only [List.all_cons, List.all_nil, Bool.and_true, cells_nam, shL_below]
theorem aft_told {s o : List Int} {L L' : List (List Int)} {h' : Heap} (a : Aft (told s o L) h' 2 (shL L')) : h' = told s o L' ++ h'.drop 3 := by
  have := a.take (by show 2 < 3; omega)
  conv => lhs; rw [← List.take_append_drop 3 h']
  rw [show h'.take 3 = (told s o L).set 2 (.cells (shL L')) from this]
  rfl
theorem told1 (s o : List Int) (hs : Sec s) (k : Nat) (hk : k < 80) (e : Env) {Q : Res → Prop} (e3 : getE e 3 = .ptr 0 0) (e5 : getE e 5 = .ptr 1 0) (e7 : getE e 7 = .ptr 2 0) (e8 : getE e 8 = i64 k) (e9 : getE e 9 = i64 0)
    (hQ : ∀ e', getE e' 3 = .ptr 0 0 → getE e' 5 = .ptr 1 0 → getE e' 7 = .ptr 2 0 → getE e' 8 = i64 k → Q (.exit 0, e', told s o (LS s k))) : WP Q (axl T [3, 5, 7, 8, 9] true L4_2 3 e (told s o [])) := by
  refine WP_loop (I := fun f e h => ∃ (j : Nat) (g : Heap), f = k - j ∧ j ≤ k ∧ getE e 3 = .ptr 0 0 ∧ getE e 5 = .ptr 1 0 ∧ getE e 7 = .ptr 2 0 ∧ getE e 8 = i64 k ∧ getE e 9 = i64 j ∧ h = told s o (LS s j) ++ g) ?_ k _ _ ⟨0, [], rfl, Nat.zero_le _, e3, e5, e7, e8, e9, rfl⟩
  clear e3 e5 e7 e8 e9 e
  rintro f e h ⟨j, g, rfl, hj, e3, e5, e7, e8, e9, rfl⟩
  rw [trim_sym (m := 3) g rfl (told_wf _ _ _) (by simp [e3, e5, e7, e8, e9, below, nam])]
  by_cases hjk : j = k
  · subst hjk
    have hlt' : ¬ ((j : Int) < (j : Int)) := Int.lt_irrefl _
    first | have hb := hb | have hb := trivial
    repeat' (first | (simp -implicitDefEqProofs (disch := omega) only [hb, L4_2, e3, e5, e7, e8, e9, hlt', wC, initE, aop, Nat.reduceEqDiff, ↓reduceIte, Nat.reduceAdd, finish, resOf, tupOf, AM.freeze, freeze1, freezeL, closed, nam, namL, if_true, if_false, deref, boxAt, exAt, ldCells, oneL, oneCell, Nat.reduceLeDiff, evL, adopt, rigid, rigidL, trim, Int.reduceEq, Int.reduceMod, Int.reduceDiv, if_pos, if_neg, asI, forall_const, implies_true, chkD, chkO, chkW, effB, reB, vEq, beq_self_eq_true, Nat.reduceSub, Nat.reduceLT, Int.reduceSub, Int.reduceAdd, Int.reduceMul, Int.reduceLT, Int.reduceLE, Int.reduceToNat, optI, aslice, cutSl, cutMs, cutStr, cutOwn, cellsOf, one, elCells, lenOf, beqV, beqVL, strip, stripO, convS]) | ((first | rw [WP_condK] | rw [WP_opsG] | rw [WP_quiG] | rw [WP_dG]); refine And.intro (fun hb => ?_) (fun hb => ?_) <;> (first | have hd := dq1 hb | have hd := dq2 hb | have hd := dq3 hb | have hd := dq4 hb | skip)))
    exact hQ _ rfl rfl rfl rfl
  · have hlt' : ((j : Int) < (k : Int)) := by omega
    have hwr : IntKind.i64.wrap ((j : Int) + 1) = ((j + 1 : Nat) : Int) := by rw [IntKind.wrap_i64]; omega
    obtain ⟨h', hput, haft⟩ := s_put (h := told s o (LS s j)) (a := 2) (L := LS s j) (told_wf _ _ _) rfl (LS_lst s hs j (by omega)) (atS s j) (sec_at hs _) (LS_ok s j (by omega))
    have hra := call_rat s hs j
    have hL' := LS_lst s hs (j + 1) (by omega)
    rw [LS_succ] at hL'
    have hkept := s_kept haft.wf haft.at_ hL'
    rw [List.length_append, LS_len, List.length_singleton] at hkept
    have hpl := pop_le (j + 1)
    have hp13 : ¬ ((13 : Int) < (popS (j + 1) : Nat)) := by omega
    have hfin := aft_told haft
    have hd := dg_of hs.len
    have q1 := hd.len
    have q5 := hd.tk
    generalize (atS s j).map u8 = A at *
    generalize hT : told s o (LS s j) = H at *
    have hH0 : H[0]? = some (.cells (s.map u8)) := by rw [← hT]; rfl
    generalize s.map u8 = D at *
    first | have hb := hb | have hb := trivial
    repeat' (first | (simp -implicitDefEqProofs (disch := omega) only [hb, L4_2, e3, e5, e7, e8, e9, hlt', hwr, hput, hra, hH0, hkept, hp13, q1, q5, wC, initE, aop, Nat.reduceEqDiff, ↓reduceIte, Nat.reduceAdd, finish, resOf, tupOf, AM.freeze, freeze1, freezeL, closed, nam, namL, if_true, if_false, deref, boxAt, exAt, ldCells, oneL, oneCell, Nat.reduceLeDiff, evL, adopt, rigid, rigidL, trim, Int.reduceEq, Int.reduceMod, Int.reduceDiv, if_pos, if_neg, asI, forall_const, implies_true, chkD, chkO, chkW, effB, reB, vEq, beq_self_eq_true, Nat.reduceSub, Nat.reduceLT, Int.reduceSub, Int.reduceAdd, Int.reduceMul, Int.reduceLT, Int.reduceLE, Int.reduceToNat, optI, aslice, cutSl, cutMs, cutStr, cutOwn, cellsOf, one, elCells, lenOf, beqV, beqVL, strip, stripO, convS]) | ((first | rw [WP_condK] | rw [WP_opsG] | rw [WP_quiG] | rw [WP_dG]); refine And.intro (fun hb => ?_) (fun hb => ?_) <;> (first | have hd := dq1 hb | have hd := dq2 hb | have hd := dq3 hb | have hd := dq4 hb | skip)))
    exact ⟨k - (j + 1), by omega, j + 1, h'.drop 3, rfl, by omega, rfl, by rw [LS_succ]; exact hfin⟩
theorem told2 (s o : List Int) (hs : Sec s) (k : Nat) (hk : k < 80) (e : Env) {Q : Res → Prop} (e3 : getE e 3 = .ptr 0 0) (e5 : getE e 5 = .ptr 1 0) (e7 : getE e 7 = .ptr 2 0) (e8 : getE e 8 = i64 k) (e10 : getE e 10 = i64 0)
    (hQ : ∀ e', getE e' 3 = .ptr 0 0 → getE e' 5 = .ptr 1 0 → getE e' 7 = .ptr 2 0 → getE e' 8 = i64 k → Q (.exit 2, e', told s o (LS s k))) : WP Q (axl T [3, 5, 7, 8, 10] true L4_1 3 e (told s o (LS s k))) := by
  have hL := LS_lst s hs k (by omega)
  refine WP_loop (I := fun f e h => ∃ (j : Nat) (g : Heap), f = k - j ∧ j ≤ k ∧ getE e 3 = .ptr 0 0 ∧ getE e 5 = .ptr 1 0 ∧ getE e 7 = .ptr 2 0 ∧ getE e 8 = i64 k ∧ getE e 10 = i64 j ∧ h = told s o (LS s k) ++ g) ?_ k _ _ ⟨0, [], rfl, Nat.zero_le _, e3, e5, e7, e8, e10, rfl⟩
  clear e3 e5 e7 e8 e10 e
  rintro f e h ⟨j, g, rfl, hj, e3, e5, e7, e8, e10, rfl⟩
  rw [trim_sym (m := 3) g rfl (told_wf _ _ _) (by simp [e3, e5, e7, e8, e10, below, nam])]
  by_cases hjk : j = k
  · subst hjk
    have hlt' : ¬ ((j : Int) < (j : Int)) := Int.lt_irrefl _
    first | have hb := hb | have hb := trivial
    repeat' (first | (simp -implicitDefEqProofs (disch := omega) only [hb, L4_1, e3, e5, e7, e8, e10, hlt', wC, initE, aop, Nat.reduceEqDiff, ↓reduceIte, Nat.reduceAdd, finish, resOf, tupOf, AM.freeze, freeze1, freezeL, closed, nam, namL, if_true, if_false, deref, boxAt, exAt, ldCells, oneL, oneCell, Nat.reduceLeDiff, evL, adopt, rigid, rigidL, trim, Int.reduceEq, Int.reduceMod, Int.reduceDiv, if_pos, if_neg, asI, forall_const, implies_true, chkD, chkO, chkW, effB, reB, vEq, beq_self_eq_true, Nat.reduceSub, Nat.reduceLT, Int.reduceSub, Int.reduceAdd, Int.reduceMul, Int.reduceLT, Int.reduceLE, Int.reduceToNat, optI, aslice, cutSl, cutMs, cutStr, cutOwn, cellsOf, one, elCells, lenOf, beqV, beqVL, strip, stripO, convS]) | ((first | rw [WP_condK] | rw [WP_opsG] | rw [WP_quiG] | rw [WP_dG]); refine And.intro (fun hb => ?_) (fun hb => ?_) <;> (first | have hd := dq1 hb | have hd := dq2 hb | have hd := dq3 hb | have hd := dq4 hb | skip)))
    exact hQ _ rfl rfl rfl rfl
  · have hlt' : ((j : Int) < (k : Int)) := by omega
    have hwr : IntKind.i64.wrap ((j : Int) + 1) = ((j + 1 : Nat) : Int) := by rw [IntKind.wrap_i64]; omega
    obtain ⟨g1, hg1, hget⟩ := s_get (h := told s o (LS s k)) (a := 2) (told_wf _ _ _) rfl hL j (by rw [LS_len]; omega)
    rw [LS_get s (by omega)] at hget
    have hra := call_rat s hs j
    have hkq := keq_same (atS s j)
    have hbq := kbeq (atS s j)
    have hda := dg_of (sec_at hs (j : Int)).len
    have a1 := hda.len
    have a2 := hda.one
    have a5 := hda.tk
    have a6 := hda.sl
    have hd := dg_of hs.len
    have q1 := hd.len
    have q5 := hd.tk
    have hfin : ∀ g, (told s o (LS s k) ++ g1) ++ g = told s o (LS s k) ++ (g1 ++ g) := fun g => List.append_assoc ..
    have hH0 : ∀ g, ((told s o (LS s k) ++ g1) ++ g)[0]? = some (.cells (s.map u8)) := fun g => rfl
    generalize told s o (LS s k) ++ g1 = G at *
    generalize (atS s j).map u8 = A at *
    generalize s.map u8 = D at *
    first | have hb := hb | have hb := trivial
    repeat' (first | (simp -implicitDefEqProofs (disch := omega) only [hb, L4_1, e3, e5, e7, e8, e10, hlt', hwr, hget, hra, hH0, hkq, hbq, a1, a2, a5, a6, q1, q5, List.append_assoc, wC, initE, aop, Nat.reduceEqDiff, ↓reduceIte, Nat.reduceAdd, finish, resOf, tupOf, AM.freeze, freeze1, freezeL, closed, nam, namL, if_true, if_false, deref, boxAt, exAt, ldCells, oneL, oneCell, Nat.reduceLeDiff, evL, adopt, rigid, rigidL, trim, Int.reduceEq, Int.reduceMod, Int.reduceDiv, if_pos, if_neg, asI, forall_const, implies_true, chkD, chkO, chkW, effB, reB, vEq, beq_self_eq_true, Nat.reduceSub, Nat.reduceLT, Int.reduceSub, Int.reduceAdd, Int.reduceMul, Int.reduceLT, Int.reduceLE, Int.reduceToNat, optI, aslice, cutSl, cutMs, cutStr, cutOwn, cellsOf, one, elCells, lenOf, beqV, beqVL, strip, stripO, convS]) | ((first | rw [WP_condK] | rw [WP_opsG] | rw [WP_quiG] | rw [WP_dG]); refine And.intro (fun hb => ?_) (fun hb => ?_) <;> (first | have hd := dq1 hb | have hd := dq2 hb | have hd := dq3 hb | have hd := dq4 hb | skip)))
    exact ⟨k - (j + 1), by omega, j + 1, _, rfl, by omega, rfl, hfin _⟩
/-- does it make all those that it should make -/
def fitB (o s : List Int) (n : Nat) : Nat → Bool
  | 0 => true
  | j + 1 => fitB o s n j && !(makesB n j && !decide (makeS o n j = atS s j))
theorem fitB_spec (o s : List Int) (n : Nat) (hn : n < 4096) : ∀ j, j ≤ n → (fitB o s n j = true ↔ ∀ i, i < j → makesB n i = true → kWalk o (4095 - i) (lowS (4095 - n)) = atS s i)
  | 0, _ => ⟨fun _ i hi => by omega, fun _ => rfl⟩
  | j + 1, hj => by
    rw [fitB, Bool.and_eq_true, fitB_spec o s n hn j (by omega)]
    constructor
    · rintro ⟨h1, h2⟩ i hi hm
      by_cases hij : i = j
      · rw [hij] at hm ⊢
        rw [hm] at h2
        rw [← makeS_nat o hn (by omega) hm]
        simpa using h2
      · exact h1 i (by omega) hm
    · intro h
      refine ⟨fun i hi => h i (by omega), ?_⟩
      cases hm : makesB n j with
      | false => rfl
      | true =>
        have := h j (by omega) hm
        rw [← makeS_nat o hn (by omega) hm] at this
        simp [this]
theorem fitB_iff (o s : List Int) (n : Nat) (hn : n < 4096) : fitB o s n n = true ↔ OKr (LS s n) o := by
  rw [fitB_spec o s n hn n (Nat.le_refl _)]
  unfold OKr
  rw [LS_len]
  constructor
  · intro h i hi hm
    rw [LS_get s hi]; exact h i hi hm
  · intro h i hi hm
    rw [← LS_get s hi]; exact h i hi hm
theorem told3 (s o : List Int) (hs : Sec s) (ho : Sec o) (k : Nat) (hk : k < 80) (e : Env) {Q : Res → Prop} (e3 : getE e 3 = .ptr 0 0) (e5 : getE e 5 = .ptr 1 0) (e7 : getE e 7 = .ptr 2 0) (e8 : getE e 8 = i64 k) (e13 : getE e 13 = .bool true) (e14 : getE e 14 = i64 0)
    (hQ : ∀ e', getE e' 3 = .ptr 0 0 → getE e' 5 = .ptr 1 0 → getE e' 7 = .ptr 2 0 → getE e' 8 = i64 k → getE e' 13 = .bool (fitB o s k k) → Q (.exit 4, e', told s o (LS s k))) : WP Q (axl T [3, 5, 7, 8, 13, 14] true L4_0 3 e (told s o (LS s k))) := by
  refine WP_loop (I := fun f e h => ∃ (j : Nat) (g : Heap), f = k - j ∧ j ≤ k ∧ getE e 3 = .ptr 0 0 ∧ getE e 5 = .ptr 1 0 ∧ getE e 7 = .ptr 2 0 ∧ getE e 8 = i64 k ∧ getE e 13 = .bool (fitB o s k j) ∧ getE e 14 = i64 j ∧ h = told s o (LS s k) ++ g) ?_ k _ _ ⟨0, [], rfl, Nat.zero_le _, e3, e5, e7, e8, e13, e14, rfl⟩
  clear e3 e5 e7 e8 e13 e14 e
  rintro f e h ⟨j, g, rfl, hj, e3, e5, e7, e8, e13, e14, rfl⟩
  rw [trim_sym (m := 3) g rfl (told_wf _ _ _) (by simp [e3, e5, e7, e8, e13, e14, below, nam])]
  by_cases hjk : j = k
  · subst hjk
    have hlt' : ¬ ((j : Int) < (j : Int)) := Int.lt_irrefl _
    first | have hb := hb | have hb := trivial
    repeat' (first | (simp -implicitDefEqProofs (disch := omega) only [hb, L4_0, e3, e5, e7, e8, e13, e14, hlt', wC, initE, aop, Nat.reduceEqDiff, ↓reduceIte, Nat.reduceAdd, finish, resOf, tupOf, AM.freeze, freeze1, freezeL, closed, nam, namL, if_true, if_false, deref, boxAt, exAt, ldCells, oneL, oneCell, Nat.reduceLeDiff, evL, adopt, rigid, rigidL, trim, Int.reduceEq, Int.reduceMod, Int.reduceDiv, if_pos, if_neg, asI, forall_const, implies_true, chkD, chkO, chkW, effB, reB, vEq, beq_self_eq_true, Nat.reduceSub, Nat.reduceLT, Int.reduceSub, Int.reduceAdd, Int.reduceMul, Int.reduceLT, Int.reduceLE, Int.reduceToNat, optI, aslice, cutSl, cutMs, cutStr, cutOwn, cellsOf, one, elCells, lenOf, beqV, beqVL, strip, stripO, convS]) | ((first | rw [WP_condK] | rw [WP_opsG] | rw [WP_quiG] | rw [WP_dG]); refine And.intro (fun hb => ?_) (fun hb => ?_) <;> (first | have hd := dq1 hb | have hd := dq2 hb | have hd := dq3 hb | have hd := dq4 hb | skip)))
    exact hQ _ rfl rfl rfl rfl rfl
  · have hlt' : ((j : Int) < (k : Int)) := by omega
    have hwr : IntKind.i64.wrap ((j : Int) + 1) = ((j + 1 : Nat) : Int) := by rw [IntKind.wrap_i64]; omega
    have hra := call_rat s hs j
    have hmk := call_rmake o ho k j
    have hsm := sec_make ho (k : Int) (j : Int)
    have hkq := keq (makeS o k j) (atS s j) (by rw [hsm.len, (sec_at hs (j : Int)).len])
    have hfj : fitB o s k (j + 1) = (fitB o s k j && !(makesB k j && !decide (makeS o k j = atS s j))) := rfl
    have hdm := dg_of hsm.len
    have a1 := hdm.len
    have a2 := hdm.one
    have a5 := hdm.tk
    have a6 := hdm.sl
    have hbm := kbeq (makeS o k j)
    have hba := kbeq (atS s j)
    have hda := dg_of (sec_at hs (j : Int)).len
    have x1 := hda.len
    have hd := dg_of hs.len
    have q1 := hd.len
    have q5 := hd.tk
    have hdo := dg_of ho.len
    have o1 := hdo.len
    have o5 := hdo.tk
    have hH0 : ∀ g, (told s o (LS s k) ++ g)[0]? = some (.cells (s.map u8)) := fun g => rfl
    have hH1 : ∀ g, (told s o (LS s k) ++ g)[1]? = some (.cells (o.map u8)) := fun g => rfl
    have hH1' : (told s o (LS s k))[1]? = some (.cells (o.map u8)) := rfl
    generalize told s o (LS s k) = G at *
    cases hm : makesB k j with
    | false =>
      rw [hm, Bool.false_and, Bool.not_false, Bool.and_true] at hfj
      rw [show makeE (k : Int) (j : Int) = 1 by unfold makeE; rw [okM_nat (by omega) (by omega), hm]; rfl] at hmk
      generalize (makeS o k j).map u8 = M at *
      generalize (atS s j).map u8 = A at *
      generalize s.map u8 = D at *
      generalize o.map u8 = O at *
      first | have hb := hb | have hb := trivial
      repeat' (first | (simp -implicitDefEqProofs (disch := omega) only [hb, L4_0, e3, e5, e7, e8, e13, e14, hlt', hwr, hra, hmk, hH0, hH1, hH1', hkq, hbm, hba, a1, a2, a5, a6, x1, q1, q5, o1, o5, wC, initE, aop, Nat.reduceEqDiff, ↓reduceIte, Nat.reduceAdd, finish, resOf, tupOf, AM.freeze, freeze1, freezeL, closed, nam, namL, if_true, if_false, deref, boxAt, exAt, ldCells, oneL, oneCell, Nat.reduceLeDiff, evL, adopt, rigid, rigidL, trim, Int.reduceEq, Int.reduceMod, Int.reduceDiv, if_pos, if_neg, asI, forall_const, implies_true, chkD, chkO, chkW, effB, reB, vEq, beq_self_eq_true, Nat.reduceSub, Nat.reduceLT, Int.reduceSub, Int.reduceAdd, Int.reduceMul, Int.reduceLT, Int.reduceLE, Int.reduceToNat, optI, aslice, cutSl, cutMs, cutStr, cutOwn, cellsOf, one, elCells, lenOf, beqV, beqVL, strip, stripO, convS]) | ((first | rw [WP_condK] | rw [WP_opsG] | rw [WP_quiG] | rw [WP_dG]); refine And.intro (fun hb => ?_) (fun hb => ?_) <;> (first | have hd := dq1 hb | have hd := dq2 hb | have hd := dq3 hb | have hd := dq4 hb | skip)))
      exact ⟨k - (j + 1), by omega, j + 1, _, rfl, by omega, by rw [hfj], rfl, rfl⟩
    | true =>
      rw [hm, Bool.true_and] at hfj
      rw [show makeE (k : Int) (j : Int) = 0 by unfold makeE; rw [okM_nat (by omega) (by omega), hm]; rfl] at hmk
      by_cases hfit : makeS o k j = atS s j
      · rw [decide_eq_true hfit] at hkq hfj
        rw [Bool.not_true, Bool.not_false, Bool.and_true] at hfj
        generalize (makeS o k j).map u8 = M at *
        generalize (atS s j).map u8 = A at *
        generalize s.map u8 = D at *
        generalize o.map u8 = O at *
        first | have hb := hb | have hb := trivial
        repeat' (first | (simp -implicitDefEqProofs (disch := omega) only [hb, L4_0, e3, e5, e7, e8, e13, e14, hlt', hwr, hra, hmk, hH0, hH1, hH1', hkq, hbm, hba, a1, a2, a5, a6, x1, q1, q5, o1, o5, wC, initE, aop, Nat.reduceEqDiff, ↓reduceIte, Nat.reduceAdd, finish, resOf, tupOf, AM.freeze, freeze1, freezeL, closed, nam, namL, if_true, if_false, deref, boxAt, exAt, ldCells, oneL, oneCell, Nat.reduceLeDiff, evL, adopt, rigid, rigidL, trim, Int.reduceEq, Int.reduceMod, Int.reduceDiv, if_pos, if_neg, asI, forall_const, implies_true, chkD, chkO, chkW, effB, reB, vEq, beq_self_eq_true, Nat.reduceSub, Nat.reduceLT, Int.reduceSub, Int.reduceAdd, Int.reduceMul, Int.reduceLT, Int.reduceLE, Int.reduceToNat, optI, aslice, cutSl, cutMs, cutStr, cutOwn, cellsOf, one, elCells, lenOf, beqV, beqVL, strip, stripO, convS]) | ((first | rw [WP_condK] | rw [WP_opsG] | rw [WP_quiG] | rw [WP_dG]); refine And.intro (fun hb => ?_) (fun hb => ?_) <;> (first | have hd := dq1 hb | have hd := dq2 hb | have hd := dq3 hb | have hd := dq4 hb | skip)))
        exact ⟨k - (j + 1), by omega, j + 1, _, rfl, by omega, by rw [hfj], rfl, rfl⟩
      · rw [decide_eq_false hfit] at hkq hfj
        rw [Bool.not_false, Bool.not_true, Bool.and_false] at hfj
        generalize (makeS o k j).map u8 = M at *
        generalize (atS s j).map u8 = A at *
        generalize s.map u8 = D at *
        generalize o.map u8 = O at *
        first | have hb := hb | have hb := trivial
        repeat' (first | (simp -implicitDefEqProofs (disch := omega) only [hb, L4_0, e3, e5, e7, e8, e13, e14, hlt', hwr, hra, hmk, hH0, hH1, hH1', hkq, hbm, hba, a1, a2, a5, a6, x1, q1, q5, o1, o5, wC, initE, aop, Nat.reduceEqDiff, ↓reduceIte, Nat.reduceAdd, finish, resOf, tupOf, AM.freeze, freeze1, freezeL, closed, nam, namL, if_true, if_false, deref, boxAt, exAt, ldCells, oneL, oneCell, Nat.reduceLeDiff, evL, adopt, rigid, rigidL, trim, Int.reduceEq, Int.reduceMod, Int.reduceDiv, if_pos, if_neg, asI, forall_const, implies_true, chkD, chkO, chkW, effB, reB, vEq, beq_self_eq_true, Nat.reduceSub, Nat.reduceLT, Int.reduceSub, Int.reduceAdd, Int.reduceMul, Int.reduceLT, Int.reduceLE, Int.reduceToNat, optI, aslice, cutSl, cutMs, cutStr, cutOwn, cellsOf, one, elCells, lenOf, beqV, beqVL, strip, stripO, convS]) | ((first | rw [WP_condK] | rw [WP_opsG] | rw [WP_quiG] | rw [WP_dG]); refine And.intro (fun hb => ?_) (fun hb => ?_) <;> (first | have hd := dq1 hb | have hd := dq2 hb | have hd := dq3 hb | have hd := dq4 hb | skip)))
        exact ⟨k - (j + 1), by omega, j + 1, _, rfl, by omega, by rw [hfj], rfl, rfl⟩
theorem secretsTold_ok (s o : List Int) (hs : Sec s) (ho : Sec o) (n : Int) : prun T F4 [.agg (s.map u8), i64 n, .agg (o.map u8)] = some (.bool true) := by
  refine WP_eq (prun_wp ?_)
  have hlv := call_lives
  have hnew := new_ok [.cells (s.map u8), .cells (o.map u8)]
  have hd := dg_of hs.len
  have q1 := hd.len
  have q2 := hd.one
  have q5 := hd.tk
  have hdo := dg_of ho.len
  have o1 := hdo.len
  have o2 := hdo.one
  have o5 := hdo.tk
  obtain ⟨k, hk, hkn⟩ : ∃ k : Nat, k < 80 ∧ (n.tmod 80 = (k : Int) ∨ n.tmod 80 < 0 ∧ n.tmod 80 = -(k : Int)) := by
    refine ⟨(n.tmod 80).natAbs, ?_, ?_⟩
    · have := Int.tmod_lt_of_pos n (show (0 : Int) < 80 by decide)
      have h2 := Int.lt_tmod_of_pos n (show (0 : Int) < 80 by decide)
      omega
    · omega
  have hneg : IntKind.i64.wrap (0 - (-(k : Int))) = (k : Int) := by rw [IntKind.wrap_i64]; omega
  have haun : aun .neg (.int .i64 (-(k : Int))) = some (.int .i64 (k : Int)) := by simp only [aun]; rw [hneg]
  have m1 := fun (e : Env) (Q : Res → Prop) => told1 s o hs k hk e (Q := Q)
  have m2 := fun (e : Env) (Q : Res → Prop) => told2 s o hs k hk e (Q := Q)
  have m3 := fun (e : Env) (Q : Res → Prop) => told3 s o hs ho k hk e (Q := Q)
  have hL := LS_lst s hs k (by omega)
  have hfi := fitB_iff o s k (by omega)
  have hfinal : ∃ (h' : Heap) (x : Int), ag T 15 [.ptr 2 0, .agg (o.map u8)] (told s o (LS s k)) = some (i64 x, h') ∧ ((fitB o s k k = true ∧ x = 0) ∨ (fitB o s k k = false ∧ x = 50 ∧ ag T 19 [.ptr 2 0] h' = some (i64 k, h'))) := by
    by_cases hf : fitB o s k k = true
    · obtain ⟨h', hput, haft⟩ := s_put (h := told s o (LS s k)) (a := 2) (told_wf _ _ _) rfl hL o ho (hfi.1 hf)
      exact ⟨h', 0, hput, .inl ⟨hf, rfl⟩⟩
    · obtain ⟨h', hput, haft⟩ := s_clash (h := told s o (LS s k)) (a := 2) (told_wf _ _ _) rfl hL o ho (fun h => hf (hfi.2 h))
      refine ⟨h', 50, hput, .inr ⟨by simpa using hf, rfl, ?_⟩⟩
      have := s_len haft.wf haft.at_ hL
      rwa [LS_len] at this
  obtain ⟨h', x, hput, hx⟩ := hfinal
  have hH1 : (told s o (LS s k))[1]? = some (.cells (o.map u8)) := rfl
  generalize hT : told s o (LS s k) = G at *
  have hT0 : [AObj.cells (s.map u8), .cells (o.map u8), .cells (shL [])] = told s o [] := rfl
  have hTl : (told s o []).length = 3 := rfl
  have hTl2 : (told s o (LS s k)).length = 3 := rfl
  rw [hT] at hTl2
  generalize hT1 : told s o [] = G0 at *
  generalize s.map u8 = D at *
  generalize o.map u8 = O at *
  generalize shL [] = X0 at *
  generalize fitB o s k k = fb at *
  rcases hkn with hkn | ⟨hk0, hkn⟩
  · have h0 : ¬ ((k : Int) < 0) := by omega
    first | have hb := hb | have hb := trivial
    repeat' (first | (simp -implicitDefEqProofs (disch := omega) only [hb, F4, isNil, hlv, hnew, q1, q2, q5, o1, o2, o5, hkn, h0, hT0, hTl, wC, initE, aop, Nat.reduceEqDiff, ↓reduceIte, Nat.reduceAdd, finish, resOf, tupOf, AM.freeze, freeze1, freezeL, closed, nam, namL, if_true, if_false, deref, boxAt, exAt, ldCells, oneL, oneCell, Nat.reduceLeDiff, evL, adopt, rigid, rigidL, trim, Int.reduceEq, Int.reduceMod, Int.reduceDiv, if_pos, if_neg, asI, forall_const, implies_true, chkD, chkO, chkW, effB, reB, vEq, beq_self_eq_true, Nat.reduceSub, Nat.reduceLT, Int.reduceSub, Int.reduceAdd, Int.reduceMul, Int.reduceLT, Int.reduceLE, Int.reduceToNat, optI, aslice, cutSl, cutMs, cutStr, cutOwn, cellsOf, one, elCells, lenOf, beqV, beqVL, strip, stripO, convS]) | ((first | rw [WP_condK] | rw [WP_opsG] | rw [WP_quiG] | rw [WP_dG]); refine And.intro (fun hb => ?_) (fun hb => ?_) <;> (first | have hd := dq1 hb | have hd := dq2 hb | have hd := dq3 hb | have hd := dq4 hb | skip)))
    refine m1 _ _ rfl rfl rfl rfl rfl (fun e' e3 e5 e7 e8 => ?_)
    first | have hb := hb | have hb := trivial
    repeat' (first | (simp -implicitDefEqProofs (disch := omega) only [hb, F4, e3, e5, e7, e8, hTl2, wC, initE, aop, Nat.reduceEqDiff, ↓reduceIte, Nat.reduceAdd, finish, resOf, tupOf, AM.freeze, freeze1, freezeL, closed, nam, namL, if_true, if_false, deref, boxAt, exAt, ldCells, oneL, oneCell, Nat.reduceLeDiff, evL, adopt, rigid, rigidL, trim, Int.reduceEq, Int.reduceMod, Int.reduceDiv, if_pos, if_neg, asI, forall_const, implies_true, chkD, chkO, chkW, effB, reB, vEq, beq_self_eq_true, Nat.reduceSub, Nat.reduceLT, Int.reduceSub, Int.reduceAdd, Int.reduceMul, Int.reduceLT, Int.reduceLE, Int.reduceToNat, optI, aslice, cutSl, cutMs, cutStr, cutOwn, cellsOf, one, elCells, lenOf, beqV, beqVL, strip, stripO, convS]) | ((first | rw [WP_condK] | rw [WP_opsG] | rw [WP_quiG] | rw [WP_dG]); refine And.intro (fun hb => ?_) (fun hb => ?_) <;> (first | have hd := dq1 hb | have hd := dq2 hb | have hd := dq3 hb | have hd := dq4 hb | skip)))
    refine m2 _ _ e3 e5 e7 e8 rfl (fun e' e3 e5 e7 e8 => ?_)
    first | have hb := hb | have hb := trivial
    repeat' (first | (simp -implicitDefEqProofs (disch := omega) only [hb, F4, e3, e5, e7, e8, hTl2, wC, initE, aop, Nat.reduceEqDiff, ↓reduceIte, Nat.reduceAdd, finish, resOf, tupOf, AM.freeze, freeze1, freezeL, closed, nam, namL, if_true, if_false, deref, boxAt, exAt, ldCells, oneL, oneCell, Nat.reduceLeDiff, evL, adopt, rigid, rigidL, trim, Int.reduceEq, Int.reduceMod, Int.reduceDiv, if_pos, if_neg, asI, forall_const, implies_true, chkD, chkO, chkW, effB, reB, vEq, beq_self_eq_true, Nat.reduceSub, Nat.reduceLT, Int.reduceSub, Int.reduceAdd, Int.reduceMul, Int.reduceLT, Int.reduceLE, Int.reduceToNat, optI, aslice, cutSl, cutMs, cutStr, cutOwn, cellsOf, one, elCells, lenOf, beqV, beqVL, strip, stripO, convS]) | ((first | rw [WP_condK] | rw [WP_opsG] | rw [WP_quiG] | rw [WP_dG]); refine And.intro (fun hb => ?_) (fun hb => ?_) <;> (first | have hd := dq1 hb | have hd := dq2 hb | have hd := dq3 hb | have hd := dq4 hb | skip)))
    refine m3 _ _ e3 e5 e7 e8 rfl rfl (fun e' e3 e5 e7 e8 e13 => ?_)
    rcases hx with ⟨rfl, rfl⟩ | ⟨rfl, rfl, hlen⟩
    · first | have hb := hb | have hb := trivial
      repeat' (first | (simp -implicitDefEqProofs (disch := omega) only [hb, F4, e3, e5, e7, e8, e13, hput, hH1, o1, o2, o5, wC, initE, aop, Nat.reduceEqDiff, ↓reduceIte, Nat.reduceAdd, finish, resOf, tupOf, AM.freeze, freeze1, freezeL, closed, nam, namL, if_true, if_false, deref, boxAt, exAt, ldCells, oneL, oneCell, Nat.reduceLeDiff, evL, adopt, rigid, rigidL, trim, Int.reduceEq, Int.reduceMod, Int.reduceDiv, if_pos, if_neg, asI, forall_const, implies_true, chkD, chkO, chkW, effB, reB, vEq, beq_self_eq_true, Nat.reduceSub, Nat.reduceLT, Int.reduceSub, Int.reduceAdd, Int.reduceMul, Int.reduceLT, Int.reduceLE, Int.reduceToNat, optI, aslice, cutSl, cutMs, cutStr, cutOwn, cellsOf, one, elCells, lenOf, beqV, beqVL, strip, stripO, convS]) | ((first | rw [WP_condK] | rw [WP_opsG] | rw [WP_quiG] | rw [WP_dG]); refine And.intro (fun hb => ?_) (fun hb => ?_) <;> (first | have hd := dq1 hb | have hd := dq2 hb | have hd := dq3 hb | have hd := dq4 hb | skip)))
      all_goals done
    · first | have hb := hb | have hb := trivial
      repeat' (first | (simp -implicitDefEqProofs (disch := omega) only [hb, F4, e3, e5, e7, e8, e13, hput, hH1, hlen, o1, o2, o5, wC, initE, aop, Nat.reduceEqDiff, ↓reduceIte, Nat.reduceAdd, finish, resOf, tupOf, AM.freeze, freeze1, freezeL, closed, nam, namL, if_true, if_false, deref, boxAt, exAt, ldCells, oneL, oneCell, Nat.reduceLeDiff, evL, adopt, rigid, rigidL, trim, Int.reduceEq, Int.reduceMod, Int.reduceDiv, if_pos, if_neg, asI, forall_const, implies_true, chkD, chkO, chkW, effB, reB, vEq, beq_self_eq_true, Nat.reduceSub, Nat.reduceLT, Int.reduceSub, Int.reduceAdd, Int.reduceMul, Int.reduceLT, Int.reduceLE, Int.reduceToNat, optI, aslice, cutSl, cutMs, cutStr, cutOwn, cellsOf, one, elCells, lenOf, beqV, beqVL, strip, stripO, convS]) | ((first | rw [WP_condK] | rw [WP_opsG] | rw [WP_quiG] | rw [WP_dG]); refine And.intro (fun hb => ?_) (fun hb => ?_) <;> (first | have hd := dq1 hb | have hd := dq2 hb | have hd := dq3 hb | have hd := dq4 hb | skip)))
      all_goals done
  · have h0 : (-(k : Int) < 0) := by omega
    first | have hb := hb | have hb := trivial
    repeat' (first | (simp -implicitDefEqProofs (disch := omega) only [hb, F4, isNil, hlv, hnew, q1, q2, q5, o1, o2, o5, hkn, h0, haun, hT0, hTl, wC, initE, aop, Nat.reduceEqDiff, ↓reduceIte, Nat.reduceAdd, finish, resOf, tupOf, AM.freeze, freeze1, freezeL, closed, nam, namL, if_true, if_false, deref, boxAt, exAt, ldCells, oneL, oneCell, Nat.reduceLeDiff, evL, adopt, rigid, rigidL, trim, Int.reduceEq, Int.reduceMod, Int.reduceDiv, if_pos, if_neg, asI, forall_const, implies_true, chkD, chkO, chkW, effB, reB, vEq, beq_self_eq_true, Nat.reduceSub, Nat.reduceLT, Int.reduceSub, Int.reduceAdd, Int.reduceMul, Int.reduceLT, Int.reduceLE, Int.reduceToNat, optI, aslice, cutSl, cutMs, cutStr, cutOwn, cellsOf, one, elCells, lenOf, beqV, beqVL, strip, stripO, convS]) | ((first | rw [WP_condK] | rw [WP_opsG] | rw [WP_quiG] | rw [WP_dG]); refine And.intro (fun hb => ?_) (fun hb => ?_) <;> (first | have hd := dq1 hb | have hd := dq2 hb | have hd := dq3 hb | have hd := dq4 hb | skip)))
    refine m1 _ _ rfl rfl rfl rfl rfl (fun e' e3 e5 e7 e8 => ?_)
    first | have hb := hb | have hb := trivial
    repeat' (first | (simp -implicitDefEqProofs (disch := omega) only [hb, F4, e3, e5, e7, e8, hTl2, wC, initE, aop, Nat.reduceEqDiff, ↓reduceIte, Nat.reduceAdd, finish, resOf, tupOf, AM.freeze, freeze1, freezeL, closed, nam, namL, if_true, if_false, deref, boxAt, exAt, ldCells, oneL, oneCell, Nat.reduceLeDiff, evL, adopt, rigid, rigidL, trim, Int.reduceEq, Int.reduceMod, Int.reduceDiv, if_pos, if_neg, asI, forall_const, implies_true, chkD, chkO, chkW, effB, reB, vEq, beq_self_eq_true, Nat.reduceSub, Nat.reduceLT, Int.reduceSub, Int.reduceAdd, Int.reduceMul, Int.reduceLT, Int.reduceLE, Int.reduceToNat, optI, aslice, cutSl, cutMs, cutStr, cutOwn, cellsOf, one, elCells, lenOf, beqV, beqVL, strip, stripO, convS]) | ((first | rw [WP_condK] | rw [WP_opsG] | rw [WP_quiG] | rw [WP_dG]); refine And.intro (fun hb => ?_) (fun hb => ?_) <;> (first | have hd := dq1 hb | have hd := dq2 hb | have hd := dq3 hb | have hd := dq4 hb | skip)))
    refine m2 _ _ e3 e5 e7 e8 rfl (fun e' e3 e5 e7 e8 => ?_)
    first | have hb := hb | have hb := trivial
    repeat' (first | (simp -implicitDefEqProofs (disch := omega) only [hb, F4, e3, e5, e7, e8, hTl2, wC, initE, aop, Nat.reduceEqDiff, ↓reduceIte, Nat.reduceAdd, finish, resOf, tupOf, AM.freeze, freeze1, freezeL, closed, nam, namL, if_true, if_false, deref, boxAt, exAt, ldCells, oneL, oneCell, Nat.reduceLeDiff, evL, adopt, rigid, rigidL, trim, Int.reduceEq, Int.reduceMod, Int.reduceDiv, if_pos, if_neg, asI, forall_const, implies_true, chkD, chkO, chkW, effB, reB, vEq, beq_self_eq_true, Nat.reduceSub, Nat.reduceLT, Int.reduceSub, Int.reduceAdd, Int.reduceMul, Int.reduceLT, Int.reduceLE, Int.reduceToNat, optI, aslice, cutSl, cutMs, cutStr, cutOwn, cellsOf, one, elCells, lenOf, beqV, beqVL, strip, stripO, convS]) | ((first | rw [WP_condK] | rw [WP_opsG] | rw [WP_quiG] | rw [WP_dG]); refine And.intro (fun hb => ?_) (fun hb => ?_) <;> (first | have hd := dq1 hb | have hd := dq2 hb | have hd := dq3 hb | have hd := dq4 hb | skip)))
    refine m3 _ _ e3 e5 e7 e8 rfl rfl (fun e' e3 e5 e7 e8 e13 => ?_)
    rcases hx with ⟨rfl, rfl⟩ | ⟨rfl, rfl, hlen⟩
    · first | have hb := hb | have hb := trivial
      repeat' (first | (simp -implicitDefEqProofs (disch := omega) only [hb, F4, e3, e5, e7, e8, e13, hput, hH1, o1, o2, o5, wC, initE, aop, Nat.reduceEqDiff, ↓reduceIte, Nat.reduceAdd, finish, resOf, tupOf, AM.freeze, freeze1, freezeL, closed, nam, namL, if_true, if_false, deref, boxAt, exAt, ldCells, oneL, oneCell, Nat.reduceLeDiff, evL, adopt, rigid, rigidL, trim, Int.reduceEq, Int.reduceMod, Int.reduceDiv, if_pos, if_neg, asI, forall_const, implies_true, chkD, chkO, chkW, effB, reB, vEq, beq_self_eq_true, Nat.reduceSub, Nat.reduceLT, Int.reduceSub, Int.reduceAdd, Int.reduceMul, Int.reduceLT, Int.reduceLE, Int.reduceToNat, optI, aslice, cutSl, cutMs, cutStr, cutOwn, cellsOf, one, elCells, lenOf, beqV, beqVL, strip, stripO, convS]) | ((first | rw [WP_condK] | rw [WP_opsG] | rw [WP_quiG] | rw [WP_dG]); refine And.intro (fun hb => ?_) (fun hb => ?_) <;> (first | have hd := dq1 hb | have hd := dq2 hb | have hd := dq3 hb | have hd := dq4 hb | skip)))
      all_goals done
    · first | have hb := hb | have hb := trivial
      repeat' (first | (simp -implicitDefEqProofs (disch := omega) only [hb, F4, e3, e5, e7, e8, e13, hput, hH1, hlen, o1, o2, o5, wC, initE, aop, Nat.reduceEqDiff, ↓reduceIte, Nat.reduceAdd, finish, resOf, tupOf, AM.freeze, freeze1, freezeL, closed, nam, namL, if_true, if_false, deref, boxAt, exAt, ldCells, oneL, oneCell, Nat.reduceLeDiff, evL, adopt, rigid, rigidL, trim, Int.reduceEq, Int.reduceMod, Int.reduceDiv, if_pos, if_neg, asI, forall_const, implies_true, chkD, chkO, chkW, effB, reB, vEq, beq_self_eq_true, Nat.reduceSub, Nat.reduceLT, Int.reduceSub, Int.reduceAdd, Int.reduceMul, Int.reduceLT, Int.reduceLE, Int.reduceToNat, optI, aslice, cutSl, cutMs, cutStr, cutOwn, cellsOf, one, elCells, lenOf, beqV, beqVL, strip, stripO, convS]) | ((first | rw [WP_condK] | rw [WP_opsG] | rw [WP_quiG] | rw [WP_dG]); refine And.intro (fun hb => ?_) (fun hb => ?_) <;> (first | have hd := dq1 hb | have hd := dq2 hb | have hd := dq3 hb | have hd := dq4 hb | skip)))
      all_goals done
end Go.Proofs.YtkihcmlmcgokhaaDoor.AM

/- layer 05: SecretsShelf. -/
namespace Go.Proofs.YtkihcmlmcgokhaaDoor.AM
open Go
set_option maxRecDepth 100000
set_option maxHeartbeats 4000000
set_option linter.unusedVariables false
set_option linter.unusedSimpArgs false
/-- both shelves in a store -/
structure St2 (h : Heap) (a b : Nat) (L : List (List Int)) (v : AV) : Prop where
  wf : HW h
  ha : h[a]? = some (.cells (shL L))
  hb : h[b]? = some (.cells [v])
  isl : isL v L
  lst : Lst L
  ne : a ≠ b
theorem lt_of_get {h : Heap} {i : Nat} {o : AObj} (hi : h[i]? = some o) : i < h.length := (List.getElem?_eq_some_iff.1 hi).1
theorem St2.more {h : Heap} {a b : Nat} {L : List (List Int)} {v : AV} (s : St2 h a b L v) {g : Heap} (hg : g.all (belowO 0) = true) : St2 (h ++ g) a b L v :=
  ⟨s.wf.app hg, by rw [List.getElem?_append_left (lt_of_get s.ha)]; exact s.ha, by rw [List.getElem?_append_left (lt_of_get s.hb)]; exact s.hb, s.isl, s.lst, s.ne⟩
theorem St2.put {h : Heap} {a b : Nat} {L : List (List Int)} {v : AV} (s : St2 h a b L v) {d : List Int} (hd : Sec d) (hlt : L.length < 4000) :
    ∃ (x : Int) (h1 h2 : Heap) (L' : List (List Int)) (v' : AV), (x = 0 ∨ x = 50) ∧ ag T 15 [.ptr a 0, .agg (d.map u8)] h = some (i64 x, h1) ∧ ag T 22 [.ptr b 0, .agg (d.map u8)] h1 = some (i64 x, h2) ∧ St2 h2 a b L' v' ∧ L'.length ≤ L.length + 1 := by
  by_cases hf : OKr L d
  · obtain ⟨h1, p1, a1⟩ := s_put s.wf s.ha s.lst d hd hf
    have hb1 : h1[b]? = some (.cells [v]) := by rw [a1.fr b (lt_of_get s.hb) (fun h => s.ne h.symm)]; exact s.hb
    obtain ⟨h2, v', p2, a2, hv'⟩ := r_put a1.wf hb1 s.isl s.lst d hd hf
    refine ⟨0, h1, h2, L ++ [d], v', .inl rfl, p1, p2, ⟨a2.wf, ?_, a2.at_, hv', lst_snoc s.lst hd hf (by omega), s.ne⟩, by rw [List.length_append]; exact Nat.le_refl _⟩
    rw [a2.fr a (lt_of_get a1.at_) s.ne]
    exact a1.at_
  · obtain ⟨h1, p1, a1⟩ := s_clash s.wf s.ha s.lst d hd hf
    have hb1 : h1[b]? = some (.cells [v]) := by rw [a1.fr b (lt_of_get s.hb) (fun h => s.ne h.symm)]; exact s.hb
    obtain ⟨h2, p2, a2⟩ := r_clash a1.wf hb1 s.isl s.lst d hd hf
    refine ⟨50, h1, h2, L, v, .inr rfl, p1, p2, ⟨a2.wf, ?_, a2.at_, s.isl, s.lst, s.ne⟩, by omega⟩
    rw [a2.fr a (lt_of_get a1.at_) s.ne]
    exact a1.at_
theorem St2.looks {h : Heap} {a b : Nat} {L : List (List Int)} {v : AV} (s : St2 h a b L v) (i : Int) : ∃ h', ag T 23 [.ptr a 0, .ptr b 0, i64 i] h = some (.sc (.bool true), h') ∧ St2 h' a b L v := by
  obtain ⟨g, hg, h1⟩ := looks_ok s.wf s.ha s.hb s.isl s.lst i
  exact ⟨_, h1, s.more hg⟩
theorem St2.fork {h : Heap} {a b : Nat} {L : List (List Int)} {v : AV} (s : St2 h a b L v) {d : List Int} (hd : Sec d) :
    ∃ (h5 h6 : Heap) (y : Int), ag T 24 [.ptr a 0] h = some (.ptr h.length 0, h5) ∧ ag T 15 [.ptr a 0, .agg (d.map u8)] h5 = some (i64 y, h6) ∧ St2 h6 h.length b L v := by
  have hf := fork_ok s.ha s.lst.sec
  have hal := lt_of_get s.ha
  have hbl := lt_of_get s.hb
  have hw : HW (h ++ [.cells (shL L)]) := s.wf.app (by rw [List.all_cons, shL_below]; rfl)
  have ha : (h ++ [AObj.cells (shL L)])[a]? = some (.cells (shL L)) := by rw [List.getElem?_append_left hal]; exact s.ha
  have hb : (h ++ [AObj.cells (shL L)])[b]? = some (.cells [v]) := by rw [List.getElem?_append_left hbl]; exact s.hb
  have hn : (h ++ [AObj.cells (shL L)])[h.length]? = some (.cells (shL L)) := by rw [List.getElem?_append_right (Nat.le_refl _), Nat.sub_self]; rfl
  have done : ∀ {h6 : Heap} {X : List AV}, Aft (h ++ [.cells (shL L)]) h6 a X → St2 h6 h.length b L v := fun af =>
    ⟨af.wf, by rw [af.fr _ (lt_of_get hn) (by omega)]; exact hn, by rw [af.fr _ (lt_of_get hb) (fun e => s.ne e.symm)]; exact hb, s.isl, s.lst, by omega⟩
  by_cases hok : OKr L d
  · obtain ⟨h6, p, af⟩ := s_put hw ha s.lst d hd hok
    exact ⟨_, h6, 0, hf, p, done af⟩
  · obtain ⟨h6, p, af⟩ := s_clash hw ha s.lst d hd hok
    exact ⟨_, h6, 50, hf, p, done af⟩
/-- one byte, and no more -/
def fS (j : Int) : List Int := IntKind.u8.wrap j :: List.replicate 31 0
theorem fS_sec (j : Int) : Sec (fS j) := ⟨rfl, fun c hc => by
  rcases List.mem_cons.1 hc with rfl | hc
  · rw [IntKind.wrap_u8]; omega
  · rw [(List.mem_replicate.1 hc).2]; omega⟩
theorem fS_eq (j : Int) : AV.agg [.sc (.int .u8 (IntKind.u8.wrap j)), .int .u8 0, .int .u8 0, .int .u8 0, .int .u8 0, .int .u8 0, .int .u8 0, .int .u8 0, .int .u8 0, .int .u8 0, .int .u8 0, .int .u8 0, .int .u8 0, .int .u8 0, .int .u8 0, .int .u8 0, .int .u8 0, .int .u8 0, .int .u8 0, .int .u8 0, .int .u8 0, .int .u8 0, .int .u8 0, .int .u8 0, .int .u8 0, .int .u8 0, .int .u8 0, .int .u8 0, .int .u8 0, .int .u8 0, .int .u8 0, .int .u8 0] = AV.agg ((fS j).map u8) := rfl
theorem shelf1 (l : List (List Int)) (hl : ∀ s ∈ l, Sec s) (n : Int) (o : AOwn) (e : Env) {Q : Res → Prop} {h : Heap} {a b : Nat} {v : AV} (s : St2 h a b [] v) (m : Nat)
    (e0 : getE e 0 = .slice o (some 32) (l.map agD)) (e1 : getE e 1 = i64 n) (e5 : getE e 5 = .ptr a 0) (e6 : getE e 6 = .ptr b 0) (e7 : getE e 7 = i64 0)
    (hQ : ∀ e' h' a' L v', St2 h' a' b L v' → L.length ≤ 300 → getE e' 5 = .ptr a' 0 → getE e' 6 = .ptr b 0 → Q (.exit 0, e', h')) : WP Q (axl T [0, 1, 5, 6, 7] false L6_1 m e h) := by
  refine WP_loop (I := fun f e h => ∃ (j a : Nat) (L : List (List Int)) (v : AV), f = 300 - j ∧ j ≤ 300 ∧ j ≤ l.length ∧ L.length ≤ j ∧ getE e 0 = .slice o (some 32) (l.map agD) ∧ getE e 1 = i64 n ∧ getE e 5 = .ptr a 0 ∧ getE e 6 = .ptr b 0 ∧ getE e 7 = i64 j ∧ St2 h a b L v) ?_ 300 _ _
    ⟨0, a, [], v, rfl, by omega, Nat.zero_le _, Nat.le_refl _, e0, e1, e5, e6, e7, s⟩
  clear e0 e1 e5 e6 e7 e s
  rintro f e h ⟨j, a, L, v, rfl, hj, hjl, hLj, e0, e1, e5, e6, e7, s⟩
  rw [trim_off]
  have hml : (l.map agD).length = l.length := List.length_map ..
  by_cases hend : j = l.length
  · have hlt' : ¬ ((j : Int) < (l.length : Int)) := by omega
    unfold agD at e0
    first | have hb := hb | have hb := trivial
    repeat' (first | (simp -implicitDefEqProofs (disch := omega) only [hb, L6_1, e0, e1, e5, e6, e7, hlt', wC, initE, aop, Nat.reduceEqDiff, ↓reduceIte, Nat.reduceAdd, finish, resOf, tupOf, AM.freeze, freeze1, freezeL, closed, nam, namL, if_true, if_false, deref, boxAt, exAt, ldCells, oneL, oneCell, Nat.reduceLeDiff, evL, adopt, rigid, rigidL, trim, Int.reduceEq, Int.reduceMod, Int.reduceDiv, if_pos, if_neg, asI, forall_const, implies_true, chkD, chkO, chkW, effB, reB, vEq, beq_self_eq_true, Nat.reduceSub, Nat.reduceLT, Int.reduceSub, Int.reduceAdd, Int.reduceMul, Int.reduceLT, Int.reduceLE, Int.reduceToNat, optI, aslice, cutSl, cutMs, cutStr, cutOwn, cellsOf, one, elCells, lenOf, beqV, beqVL, strip, stripO, convS]) | ((first | rw [WP_condK] | rw [WP_opsG] | rw [WP_quiG] | rw [WP_dG]); refine And.intro (fun hb => ?_) (fun hb => ?_) <;> (first | have hd := dq1 hb | have hd := dq2 hb | have hd := dq3 hb | have hd := dq4 hb | skip)))
    exact hQ _ _ _ _ _ s (by omega) rfl rfl
  · have hlt' : ((j : Int) < (l.length : Int)) := by omega
    by_cases h300 : j = 300
    · have h3 : ¬ ((j : Int) < 300) := by omega
      unfold agD at e0
      first | have hb := hb | have hb := trivial
      repeat' (first | (simp -implicitDefEqProofs (disch := omega) only [hb, L6_1, e0, e1, e5, e6, e7, hlt', h3, wC, initE, aop, Nat.reduceEqDiff, ↓reduceIte, Nat.reduceAdd, finish, resOf, tupOf, AM.freeze, freeze1, freezeL, closed, nam, namL, if_true, if_false, deref, boxAt, exAt, ldCells, oneL, oneCell, Nat.reduceLeDiff, evL, adopt, rigid, rigidL, trim, Int.reduceEq, Int.reduceMod, Int.reduceDiv, if_pos, if_neg, asI, forall_const, implies_true, chkD, chkO, chkW, effB, reB, vEq, beq_self_eq_true, Nat.reduceSub, Nat.reduceLT, Int.reduceSub, Int.reduceAdd, Int.reduceMul, Int.reduceLT, Int.reduceLE, Int.reduceToNat, optI, aslice, cutSl, cutMs, cutStr, cutOwn, cellsOf, one, elCells, lenOf, beqV, beqVL, strip, stripO, convS]) | ((first | rw [WP_condK] | rw [WP_opsG] | rw [WP_quiG] | rw [WP_dG]); refine And.intro (fun hb => ?_) (fun hb => ?_) <;> (first | have hd := dq1 hb | have hd := dq2 hb | have hd := dq3 hb | have hd := dq4 hb | skip)))
      exact hQ _ _ _ _ _ s (by omega) rfl rfl
    · have h3 : ((j : Int) < 300) := by omega
      have hwr : IntKind.i64.wrap ((j : Int) + 1) = ((j + 1 : Nat) : Int) := by rw [IntKind.wrap_i64]; omega
      have hj0 := Int.natCast_nonneg j
      have hjt : ((j : Int)).toNat = j := Int.toNat_natCast j
      have hgj := agD_get (show j < l.length by omega)
      have hsj := sec_getD hl j
      have hd := dg_of hsj.len
      have q1 := hd.len
      have q5 := hd.tk
      have hbd := kbeq (l.getD j zS)
      obtain ⟨x, h1, h2, L', v', hx, p1, p2, s2, hLl⟩ := s.put hsj (by omega)
      obtain ⟨h3', p3, s3⟩ := s2.looks n
      obtain ⟨h4, p4, s4⟩ := s3.looks ((L'.length : Int) - 1)
      have hsub : IntKind.i64.wrap ((L'.length : Int) - 1) = (L'.length : Int) - 1 := by rw [IntKind.wrap_i64]; omega
      have hb3 := s3.hb
      have hln := isL_len s3.isl
      have hls : lenOf (.slice o (some 32) (l.map agD)) = some l.length := by simp [lenOf]
      unfold agD at hgj
      generalize l.map (fun s => AV.agg (s.map u8)) = LL at *
      have hrem : ((j : Int).tmod 7) = ((j % 7 : Nat) : Int) := by rw [Int.tmod_eq_emod_of_nonneg (by omega)]; omega
      by_cases h7 : j % 7 = 3
      · have h7' : (((j % 7 : Nat) : Int) = 3) := by omega
        obtain ⟨h5, h6, y, p5, p6, s6⟩ := s4.fork (fS_sec j)
        have hfs := fS_eq j
        have f1 : ((fS j).map u8).length = 32 := rfl
        generalize (fS j).map u8 = FF at *
        generalize (l.getD j zS).map u8 = D at *
        rcases hx with rfl | rfl
        · first | have hb := hb | have hb := trivial
          repeat' (first | (simp -implicitDefEqProofs (disch := omega) only [hb, L6_1, isNil, e0, e1, e5, e6, e7, hlt', h3, hwr, hj0, hjt, hgj, q1, q5, p1, p2, p3, p4, p5, p6, hb3, hln, hsub, hrem, h7', hfs, hml, hls, hbd, List.append_nil, wC, initE, aop, Nat.reduceEqDiff, ↓reduceIte, Nat.reduceAdd, finish, resOf, tupOf, AM.freeze, freeze1, freezeL, closed, nam, namL, if_true, if_false, deref, boxAt, exAt, ldCells, oneL, oneCell, Nat.reduceLeDiff, evL, adopt, rigid, rigidL, trim, Int.reduceEq, Int.reduceMod, Int.reduceDiv, if_pos, if_neg, asI, forall_const, implies_true, chkD, chkO, chkW, effB, reB, vEq, beq_self_eq_true, Nat.reduceSub, Nat.reduceLT, Int.reduceSub, Int.reduceAdd, Int.reduceMul, Int.reduceLT, Int.reduceLE, Int.reduceToNat, optI, aslice, cutSl, cutMs, cutStr, cutOwn, cellsOf, one, elCells, beqV, beqVL, strip, stripO, convS]) | ((first | rw [WP_condK] | rw [WP_opsG] | rw [WP_quiG] | rw [WP_dG]); refine And.intro (fun hb => ?_) (fun hb => ?_) <;> (first | have hd := dq1 hb | have hd := dq2 hb | have hd := dq3 hb | have hd := dq4 hb | skip)))
          exact ⟨300 - (j + 1), by omega, j + 1, _, _, _, rfl, by omega, by omega, by omega, rfl, rfl, s6⟩
        · first | have hb := hb | have hb := trivial
          repeat' (first | (simp -implicitDefEqProofs (disch := omega) only [hb, L6_1, isNil, e0, e1, e5, e6, e7, hlt', h3, hwr, hj0, hjt, hgj, q1, q5, p1, p2, p3, p4, p5, p6, hb3, hln, hsub, hrem, h7', hfs, hml, hls, hbd, List.append_nil, wC, initE, aop, Nat.reduceEqDiff, ↓reduceIte, Nat.reduceAdd, finish, resOf, tupOf, AM.freeze, freeze1, freezeL, closed, nam, namL, if_true, if_false, deref, boxAt, exAt, ldCells, oneL, oneCell, Nat.reduceLeDiff, evL, adopt, rigid, rigidL, trim, Int.reduceEq, Int.reduceMod, Int.reduceDiv, if_pos, if_neg, asI, forall_const, implies_true, chkD, chkO, chkW, effB, reB, vEq, beq_self_eq_true, Nat.reduceSub, Nat.reduceLT, Int.reduceSub, Int.reduceAdd, Int.reduceMul, Int.reduceLT, Int.reduceLE, Int.reduceToNat, optI, aslice, cutSl, cutMs, cutStr, cutOwn, cellsOf, one, elCells, beqV, beqVL, strip, stripO, convS]) | ((first | rw [WP_condK] | rw [WP_opsG] | rw [WP_quiG] | rw [WP_dG]); refine And.intro (fun hb => ?_) (fun hb => ?_) <;> (first | have hd := dq1 hb | have hd := dq2 hb | have hd := dq3 hb | have hd := dq4 hb | skip)))
          exact ⟨300 - (j + 1), by omega, j + 1, _, _, _, rfl, by omega, by omega, by omega, rfl, rfl, s6⟩
      · have h7' : ¬ (((j % 7 : Nat) : Int) = 3) := by omega
        generalize (l.getD j zS).map u8 = D at *
        rcases hx with rfl | rfl
        · first | have hb := hb | have hb := trivial
          repeat' (first | (simp -implicitDefEqProofs (disch := omega) only [hb, L6_1, isNil, e0, e1, e5, e6, e7, hlt', h3, hwr, hj0, hjt, hgj, q1, q5, p1, p2, p3, p4, hb3, hln, hsub, hrem, h7', hml, hls, hbd, List.append_nil, wC, initE, aop, Nat.reduceEqDiff, ↓reduceIte, Nat.reduceAdd, finish, resOf, tupOf, AM.freeze, freeze1, freezeL, closed, nam, namL, if_true, if_false, deref, boxAt, exAt, ldCells, oneL, oneCell, Nat.reduceLeDiff, evL, adopt, rigid, rigidL, trim, Int.reduceEq, Int.reduceMod, Int.reduceDiv, if_pos, if_neg, asI, forall_const, implies_true, chkD, chkO, chkW, effB, reB, vEq, beq_self_eq_true, Nat.reduceSub, Nat.reduceLT, Int.reduceSub, Int.reduceAdd, Int.reduceMul, Int.reduceLT, Int.reduceLE, Int.reduceToNat, optI, aslice, cutSl, cutMs, cutStr, cutOwn, cellsOf, one, elCells, beqV, beqVL, strip, stripO, convS]) | ((first | rw [WP_condK] | rw [WP_opsG] | rw [WP_quiG] | rw [WP_dG]); refine And.intro (fun hb => ?_) (fun hb => ?_) <;> (first | have hd := dq1 hb | have hd := dq2 hb | have hd := dq3 hb | have hd := dq4 hb | skip)))
          exact ⟨300 - (j + 1), by omega, j + 1, _, _, _, rfl, by omega, by omega, by omega, rfl, rfl, s4⟩
        · first | have hb := hb | have hb := trivial
          repeat' (first | (simp -implicitDefEqProofs (disch := omega) only [hb, L6_1, isNil, e0, e1, e5, e6, e7, hlt', h3, hwr, hj0, hjt, hgj, q1, q5, p1, p2, p3, p4, hb3, hln, hsub, hrem, h7', hml, hls, hbd, List.append_nil, wC, initE, aop, Nat.reduceEqDiff, ↓reduceIte, Nat.reduceAdd, finish, resOf, tupOf, AM.freeze, freeze1, freezeL, closed, nam, namL, if_true, if_false, deref, boxAt, exAt, ldCells, oneL, oneCell, Nat.reduceLeDiff, evL, adopt, rigid, rigidL, trim, Int.reduceEq, Int.reduceMod, Int.reduceDiv, if_pos, if_neg, asI, forall_const, implies_true, chkD, chkO, chkW, effB, reB, vEq, beq_self_eq_true, Nat.reduceSub, Nat.reduceLT, Int.reduceSub, Int.reduceAdd, Int.reduceMul, Int.reduceLT, Int.reduceLE, Int.reduceToNat, optI, aslice, cutSl, cutMs, cutStr, cutOwn, cellsOf, one, elCells, beqV, beqVL, strip, stripO, convS]) | ((first | rw [WP_condK] | rw [WP_opsG] | rw [WP_quiG] | rw [WP_dG]); refine And.intro (fun hb => ?_) (fun hb => ?_) <;> (first | have hd := dq1 hb | have hd := dq2 hb | have hd := dq3 hb | have hd := dq4 hb | skip)))
          exact ⟨300 - (j + 1), by omega, j + 1, _, _, _, rfl, by omega, by omega, by omega, rfl, rfl, s4⟩
theorem shelf2 (e : Env) {Q : Res → Prop} {h : Heap} {a b : Nat} {L : List (List Int)} {v : AV} (s : St2 h a b L v) (m : Nat) (e5 : getE e 5 = .ptr a 0) (e6 : getE e 6 = .ptr b 0) (e9 : getE e 9 = i64 0)
    (hQ : ∀ e' h', St2 h' a b L v → getE e' 5 = .ptr a 0 → getE e' 6 = .ptr b 0 → Q (.exit 2, e', h')) : WP Q (axl T [5, 6, 9] false L6_0 m e h) := by
  refine WP_loop (I := fun f e h => ∃ (j : Nat), f = L.length - j ∧ j ≤ L.length ∧ getE e 5 = .ptr a 0 ∧ getE e 6 = .ptr b 0 ∧ getE e 9 = i64 j ∧ St2 h a b L v) ?_ L.length _ _ ⟨0, rfl, Nat.zero_le _, e5, e6, e9, s⟩
  clear e5 e6 e9 e s
  rintro f e h ⟨j, rfl, hj, e5, e6, e9, s⟩
  rw [trim_off]
  have hlt := s.lst.lt
  have hln := isL_len s.isl
  have hb := s.hb
  obtain ⟨h', p, s'⟩ := s.looks j
  have hwr : IntKind.i64.wrap ((j : Int) + 1) = ((j + 1 : Nat) : Int) := by rw [IntKind.wrap_i64]; omega
  by_cases hjn : j = L.length
  · have hlt' : ¬ ((j : Int) < (L.length : Int)) := by omega
    first | have hb := hb | have hb := trivial
    repeat' (first | (simp -implicitDefEqProofs (disch := omega) only [hb, L6_0, e5, e6, e9, hlt', hb, hln, wC, initE, aop, Nat.reduceEqDiff, ↓reduceIte, Nat.reduceAdd, finish, resOf, tupOf, AM.freeze, freeze1, freezeL, closed, nam, namL, if_true, if_false, deref, boxAt, exAt, ldCells, oneL, oneCell, Nat.reduceLeDiff, evL, adopt, rigid, rigidL, trim, Int.reduceEq, Int.reduceMod, Int.reduceDiv, if_pos, if_neg, asI, forall_const, implies_true, chkD, chkO, chkW, effB, reB, vEq, beq_self_eq_true, Nat.reduceSub, Nat.reduceLT, Int.reduceSub, Int.reduceAdd, Int.reduceMul, Int.reduceLT, Int.reduceLE, Int.reduceToNat, optI, aslice, cutSl, cutMs, cutStr, cutOwn, cellsOf, one, elCells, beqV, beqVL, strip, stripO, convS]) | ((first | rw [WP_condK] | rw [WP_opsG] | rw [WP_quiG] | rw [WP_dG]); refine And.intro (fun hb => ?_) (fun hb => ?_) <;> (first | have hd := dq1 hb | have hd := dq2 hb | have hd := dq3 hb | have hd := dq4 hb | skip)))
    exact hQ _ _ s rfl rfl
  · have hlt' : ((j : Int) < (L.length : Int)) := by omega
    first | have hb := hb | have hb := trivial
    repeat' (first | (simp -implicitDefEqProofs (disch := omega) only [hb, L6_0, e5, e6, e9, hlt', hb, hln, p, hwr, wC, initE, aop, Nat.reduceEqDiff, ↓reduceIte, Nat.reduceAdd, finish, resOf, tupOf, AM.freeze, freeze1, freezeL, closed, nam, namL, if_true, if_false, deref, boxAt, exAt, ldCells, oneL, oneCell, Nat.reduceLeDiff, evL, adopt, rigid, rigidL, trim, Int.reduceEq, Int.reduceMod, Int.reduceDiv, if_pos, if_neg, asI, forall_const, implies_true, chkD, chkO, chkW, effB, reB, vEq, beq_self_eq_true, Nat.reduceSub, Nat.reduceLT, Int.reduceSub, Int.reduceAdd, Int.reduceMul, Int.reduceLT, Int.reduceLE, Int.reduceToNat, optI, aslice, cutSl, cutMs, cutStr, cutOwn, cellsOf, one, elCells, beqV, beqVL, strip, stripO, convS]) | ((first | rw [WP_condK] | rw [WP_opsG] | rw [WP_quiG] | rw [WP_dG]); refine And.intro (fun hb => ?_) (fun hb => ?_) <;> (first | have hd := dq1 hb | have hd := dq2 hb | have hd := dq3 hb | have hd := dq4 hb | skip)))
    exact ⟨L.length - (j + 1), by omega, j + 1, rfl, by omega, rfl, s'⟩
theorem secretsShelf_ok (l : List (List Int)) (hl : ∀ s ∈ l, Sec s) (n : Int) (o : AOwn) : prun T F6 [.slice o (some 32) (l.map agD), i64 n] = some (.bool true) := by
  refine WP_eq (prun_wp ?_)
  have hlv := call_lives
  have hnew := new_ok []
  have s0 : St2 [AObj.cells (shL []), .cells [.nil]] 0 1 [] .nil := ⟨by unfold HW; simp only [List.all_cons, List.all_nil, Bool.and_true, shL_below]; rfl, rfl, rfl, .inl ⟨rfl, rfl⟩, lst_nil, by decide⟩
  generalize shL [] = X0 at *
  first | have hb := hb | have hb := trivial
  repeat' (first | (simp -implicitDefEqProofs (disch := omega) only [hb, F6, isNil, hlv, hnew, wC, initE, aop, Nat.reduceEqDiff, ↓reduceIte, Nat.reduceAdd, finish, resOf, tupOf, AM.freeze, freeze1, freezeL, closed, nam, namL, if_true, if_false, deref, boxAt, exAt, ldCells, oneL, oneCell, Nat.reduceLeDiff, evL, adopt, rigid, rigidL, trim, Int.reduceEq, Int.reduceMod, Int.reduceDiv, if_pos, if_neg, asI, forall_const, implies_true, chkD, chkO, chkW, effB, reB, vEq, beq_self_eq_true, Nat.reduceSub, Nat.reduceLT, Int.reduceSub, Int.reduceAdd, Int.reduceMul, Int.reduceLT, Int.reduceLE, Int.reduceToNat, optI, aslice, cutSl, cutMs, cutStr, cutOwn, cellsOf, one, elCells, lenOf, beqV, beqVL, strip, stripO, convS]) | ((first | rw [WP_condK] | rw [WP_opsG] | rw [WP_quiG] | rw [WP_dG]); refine And.intro (fun hb => ?_) (fun hb => ?_) <;> (first | have hd := dq1 hb | have hd := dq2 hb | have hd := dq3 hb | have hd := dq4 hb | skip)))
  refine shelf1 l hl n o _ s0 _ rfl rfl rfl rfl rfl (fun e' h' a' L v' s hL e5 e6 => ?_)
  first | have hb := hb | have hb := trivial
  repeat' (first | (simp -implicitDefEqProofs (disch := omega) only [hb, F6, e5, e6, wC, initE, aop, Nat.reduceEqDiff, ↓reduceIte, Nat.reduceAdd, finish, resOf, tupOf, AM.freeze, freeze1, freezeL, closed, nam, namL, if_true, if_false, deref, boxAt, exAt, ldCells, oneL, oneCell, Nat.reduceLeDiff, evL, adopt, rigid, rigidL, trim, Int.reduceEq, Int.reduceMod, Int.reduceDiv, if_pos, if_neg, asI, forall_const, implies_true, chkD, chkO, chkW, effB, reB, vEq, beq_self_eq_true, Nat.reduceSub, Nat.reduceLT, Int.reduceSub, Int.reduceAdd, Int.reduceMul, Int.reduceLT, Int.reduceLE, Int.reduceToNat, optI, aslice, cutSl, cutMs, cutStr, cutOwn, cellsOf, one, elCells, lenOf, beqV, beqVL, strip, stripO, convS]) | ((first | rw [WP_condK] | rw [WP_opsG] | rw [WP_quiG] | rw [WP_dG]); refine And.intro (fun hb => ?_) (fun hb => ?_) <;> (first | have hd := dq1 hb | have hd := dq2 hb | have hd := dq3 hb | have hd := dq4 hb | skip)))
  refine shelf2 _ s _ e5 e6 rfl (fun e' h' s e5 e6 => ?_)
  have hk := s_kept s.wf s.ha s.lst
  have hr := r_kept s.hb s.isl s.lst.lt
  rw [kept_pop L.length hL] at hr
  first | have hb := hb | have hb := trivial
  repeat' (first | (simp -implicitDefEqProofs (disch := omega) only [hb, F6, e5, e6, hk, hr, wC, initE, aop, Nat.reduceEqDiff, ↓reduceIte, Nat.reduceAdd, finish, resOf, tupOf, AM.freeze, freeze1, freezeL, closed, nam, namL, if_true, if_false, deref, boxAt, exAt, ldCells, oneL, oneCell, Nat.reduceLeDiff, evL, adopt, rigid, rigidL, trim, Int.reduceEq, Int.reduceMod, Int.reduceDiv, if_pos, if_neg, asI, forall_const, implies_true, chkD, chkO, chkW, effB, reB, vEq, beq_self_eq_true, Nat.reduceSub, Nat.reduceLT, Int.reduceSub, Int.reduceAdd, Int.reduceMul, Int.reduceLT, Int.reduceLE, Int.reduceToNat, optI, aslice, cutSl, cutMs, cutStr, cutOwn, cellsOf, one, elCells, lenOf, beqV, beqVL, strip, stripO, convS]) | ((first | rw [WP_condK] | rw [WP_opsG] | rw [WP_quiG] | rw [WP_dG]); refine And.intro (fun hb => ?_) (fun hb => ?_) <;> (first | have hd := dq1 hb | have hd := dq2 hb | have hd := dq3 hb | have hd := dq4 hb | skip)))
  all_goals done
end Go.Proofs.YtkihcmlmcgokhaaDoor.AM

/- layer 05: the laws' calls, as the rows take them. -/
namespace Go.Proofs.YtkihcmlmcgokhaaDoor.AM
open Go
set_option linter.unusedVariables false
theorem call_told (s o : List Int) (hs : Sec s) (ho : Sec o) (n : Int) : ag T 4 [.agg (s.map u8), i64 n, .agg (o.map u8)] [] = some (.sc (.bool true), []) :=
  call_sc rfl t4 rfl rfl (by
    have h1 := (dg_of hs.len).st
    have h2 := (dg_of ho.len).st
    simp only [List.map_cons, List.map_nil, strip]) (by
    have h1 := u8_nam (fun _ => false) s
    have h2 := u8_nam (fun _ => false) o
    simp only [closedL, namL, nam, h1, h2, Bool.and_self]) (secretsTold_ok s o hs ho n)
theorem call_shelf (l : List (List Int)) (hl : ∀ s ∈ l, Sec s) (n : Int) : ag T 6 [.slice .none (some 32) (l.map fun s => .agg (s.map u8)), i64 n] [] = some (.sc (.bool true), []) :=
  call_sc rfl t6 rfl rfl rfl (by
    have h1 := agD_nam (fun _ => false) l
    simp only [closedL, namL, nam, Bool.true_and, Bool.and_true]
    exact h1) (secretsShelf_ok l hl n .none)
end Go.Proofs.YtkihcmlmcgokhaaDoor.AM
