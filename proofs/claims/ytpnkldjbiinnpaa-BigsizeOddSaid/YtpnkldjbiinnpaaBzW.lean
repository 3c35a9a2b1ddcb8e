import Derived.Test.YtpnkldjbiinnpaaBzV
import Derived.Test.YtpnkldjbiinnpaaBzQ
/- layer 01: Odd. -/
namespace Go.Proofs.Ytpnkldjbiinnpaa.AM
open Go
set_option maxRecDepth 100000
set_option maxHeartbeats 4000000
set_option linter.unusedSimpArgs false
set_option linter.unusedVariables false
theorem nat_or_one (a : Nat) : a ||| 1 = a - a % 2 + 1 := by
  have h1 : a = (a / 2) <<< 1 ||| a % 2 := by
    rw [← Nat.shiftLeft_add_eq_or_of_lt (show a % 2 < 2 ^ 1 by omega), Nat.shiftLeft_eq]; omega
  have h2 : a % 2 ||| 1 = 1 := by
    rcases Nat.mod_two_eq_zero_or_one a with h | h <;> rw [h] <;> rfl
  conv => lhs; rw [h1]
  rw [Nat.or_assoc, h2, ← Nat.shiftLeft_add_eq_or_of_lt (show 1 < 2 ^ 1 by omega), Nat.shiftLeft_eq]
  omega
theorem or_one (x : Int) (h0 : 0 ≤ x) (h1 : x ≤ 18446744073709551615) : abin .or (.int .u64 x) (.int .u64 1) = some (.int .u64 (x - x % 2 + 1)) := by
  obtain ⟨a, rfl⟩ := Int.eq_ofNat_of_zero_le h0
  simp only [abin, aint, abit, if_true, Option.map_some, Option.some.injEq, Value.int.injEq, true_and]
  have e : (BitVec.ofInt IntKind.u64.bits (a : Int) ||| BitVec.ofInt IntKind.u64.bits 1).toNat = a - a % 2 + 1 := by
    show (BitVec.ofInt 64 (a : Int) ||| BitVec.ofInt 64 1).toNat = _
    rw [BitVec.toNat_or, BitVec.toNat_ofInt, BitVec.toNat_ofInt]
    have e1 : ((a : Int) % (2 ^ 64 : Nat)).toNat = a := by omega
    rw [e1, show ((1 : Int) % (2 ^ 64 : Nat)).toNat = 1 by decide, nat_or_one]
  rw [e, IntKind.wrap_u64]
  omega
theorem call_find (l : List Rc) (t : Int) (hv : ∀ r ∈ l, r.v.length ≤ 140737488351232) (hn : l.length ≤ 140737488351232) (o : AOwn) (ho : stripO o = .none) (h : Heap) : ag T 17 [.slice o (some 2) (l.map Rc.av), u64 t] h = some (Go.Proofs.Ytpnkldjbiinnpaa.AM.adopt (findT t l) h) := by
  have h1 := rc_closed l
  exact call_pure (T := T) rfl t17 rfl rfl (by
    simp only [List.map_cons, List.map_nil, strip, ho, closedL, namL, nam, Bool.and_true, Bool.true_and] at h1 ⊢
    exact h1) (by simp only [List.map_cons, List.map_nil, strip, ho]; exact find_ok l t hv hn)
/-- a record among others -/
def Amid (t : Int) (v : List Int) (l : List Rc) (all : List Rc) (inn : Bool) : Prop :=
  ∃ A B, A ++ B = l ∧ (∀ r ∈ A, r.t < t) ∧ (∀ r ∈ B, t < r.t) ∧ ((inn = false ∧ B = [] ∧ all = A) ∨ (inn = true ∧ all = A ++ ⟨t, v⟩ :: B))
theorem asc_join {A B : List Rc} {x : Rc} (h : ascB (A ++ B) = true) (ha : ∀ r ∈ A, r.t < x.t) (hb : ∀ r ∈ B, x.t < r.t) : ascB (A ++ x :: B) = true := by
  induction A with
  | nil =>
    cases B with
    | nil => rfl
    | cons b B => simp only [List.nil_append, ascB, Bool.and_eq_true, decide_eq_true_eq] at h ⊢; exact ⟨hb b List.mem_cons_self, h⟩
  | cons a A ih =>
    have ha' : ∀ r ∈ A, r.t < x.t := fun r hr => ha r (List.mem_cons_of_mem _ hr)
    cases A with
    | nil =>
      simp only [List.nil_append, List.cons_append, ascB, Bool.and_eq_true, decide_eq_true_eq]
      refine ⟨ha a List.mem_cons_self, ?_⟩
      cases B with
      | nil => rfl
      | cons b B =>
        simp only [List.nil_append, List.cons_append, ascB, Bool.and_eq_true, decide_eq_true_eq] at h ⊢
        exact ⟨hb b List.mem_cons_self, h.2⟩
    | cons c A =>
      simp only [List.cons_append, ascB, Bool.and_eq_true, decide_eq_true_eq] at h ⊢
      exact ⟨h.1, ih h.2 ha'⟩
theorem amid_end {t : Int} {v : List Int} {l all : List Rc} {inn : Bool} (h : Amid t v l all inn) (hasc : ascB l = true) (full : List Rc) (hf : full = if inn then all else all ++ [⟨t, v⟩]) : ascB full = true ∧ findS t full = some ⟨t, v⟩ ∧ full.length = l.length + 1 ∧ ∀ r ∈ full, r ∈ l ∨ r = ⟨t, v⟩ := by
  obtain ⟨A, B, rfl, ha, hb, hc⟩ := h
  have e : full = A ++ ⟨t, v⟩ :: B := by
    rcases hc with ⟨rfl, rfl, rfl⟩ | ⟨rfl, rfl⟩
    · simp [hf]
    · simp [hf]
  subst e
  refine ⟨asc_join hasc ha hb, ?_, by simp; omega, ?_⟩
  · unfold findS
    rw [List.find?_append, List.find?_eq_none.2 (by intro r hr; have := ha r hr; simp; omega)]
    simp
  · intro r hr
    simp only [List.mem_append, List.mem_cons] at hr ⊢
    rcases hr with h | h | h
    · exact .inl (.inl h)
    · exact .inr h
    · exact .inl (.inr h)
theorem amid_put {t : Int} {v : List Int} {l all : List Rc} {r : Rc} (h : Amid t v l all false) (hr : t < r.t) : Amid t v (l ++ [r]) (all ++ [⟨t, v⟩] ++ [r]) true := by
  obtain ⟨A, B, rfl, ha, hb, hc⟩ := h
  rcases hc with ⟨_, rfl, rfl⟩ | ⟨hh, _⟩
  · exact ⟨all, [r], by simp, ha, by simpa using hr, .inr ⟨rfl, by simp⟩⟩
  · cases hh
theorem amid_low {t : Int} {v : List Int} {l all : List Rc} {r : Rc} (h : Amid t v l all false) (hr : r.t < t) : Amid t v (l ++ [r]) (all ++ [r]) false := by
  obtain ⟨A, B, rfl, ha, hb, hc⟩ := h
  rcases hc with ⟨_, rfl, rfl⟩ | ⟨hh, _⟩
  · refine ⟨all ++ [r], [], by simp, ?_, by simp, .inl ⟨rfl, rfl, rfl⟩⟩
    intro q hq
    rcases List.mem_append.1 hq with hq | hq
    · exact ha q hq
    · rw [List.mem_singleton.1 hq]; exact hr
  · cases hh
theorem amid_high {t : Int} {v : List Int} {l all : List Rc} {r : Rc} (h : Amid t v l all true) (hr : t < r.t) : Amid t v (l ++ [r]) (all ++ [r]) true := by
  obtain ⟨A, B, rfl, ha, hb, hc⟩ := h
  rcases hc with ⟨hh, _⟩ | ⟨_, rfl⟩
  · cases hh
  · refine ⟨A, B ++ [r], by simp, ha, ?_, .inr ⟨rfl, by simp⟩⟩
    intro q hq
    rcases List.mem_append.1 hq with hq | hq
    · exact hb q hq
    · rw [List.mem_singleton.1 hq]; exact hr
end Go.Proofs.Ytpnkldjbiinnpaa.AM
