import Derived.Test.YtpnkldjbiinnpaaAm14
/- A region that draws its order, whose last operation writes and waits for all others. -/
namespace Go.Proofs.Ytpnkldjbiinnpaa.AM
open Go Go.RowKit
set_option linter.unusedVariables false
section
variable {P : Program} {ops : Array Oper} {C : World → Prop} {md : Region.Mode} {m : Nat}
theorem mem_rdyB {listed : Array Bool} {i : Nat} : i ∈ rdyB md ops m listed ↔ i ∈ Region.ready md ops listed ∧ i ≠ m := by simp [rdyB]
def wpAnyB (P : Program) (md : Region.Mode) (ops : Array Oper) (m : Nat) (C : World → Prop) (Q : Act → Prop) : Nat → Array Bool → Act → Prop
  | 0, listed, a => rdyB md ops m listed = [] ∧ Q a
  | fuel + 1, listed, a =>
    (rdyB md ops m listed = [] → Q a) ∧
    ∀ i ∈ rdyB md ops m listed, qOp P ops C i (wpAnyB P md ops m C Q fuel (listed.setIfInBounds i true)) a
theorem wpAnyB_first {Q : Act → Prop} {i : Nat} {oi : Oper} {v : Value} (hi : ops[i]? = some oi) (him : i ≠ m) (hsel : ∀ (j : Nat) (o : Oper) cs b, ops[j]? = some o → o.op ≠ .select cs b) :
    ∀ (fuel : Nat) (listed : Array Bool) (a : Act),
      (∀ j oj, ops[j]? = some oj → j ≠ i → listed.getD j true = false → (∀ e ∈ oj.after, Region.binds md e = true → e.on ≠ i) → oi.apart ops oj = true) →
      i ∈ Region.ready md ops listed → YieldsIn P ops C oi v a →
      wpAnyB P md ops m C Q fuel (listed.setIfInBounds i true) (a.put oi.dst v) → wpAnyB P md ops m C Q (fuel + 1) listed a := by
  intro fuel
  induction fuel with
  | zero =>
    intro listed a _ hr hy H
    refine ⟨fun h => (by have := mem_rdyB.2 ⟨hr, him⟩; rw [h] at this; cases this), fun j hj => ?_⟩
    obtain ⟨hj, hjm⟩ := mem_rdyB.1 hj
    by_cases hji : j = i
    · subst hji; exact hy.qOp hi H
    · have := mem_rdyB.2 ⟨ready_mono hj hji, hjm⟩
      rw [H.1] at this
      cases this
  | succ fuel ih =>
    intro listed a hfree hr hy H
    refine ⟨fun h => (by have := mem_rdyB.2 ⟨hr, him⟩; rw [h] at this; cases this), fun j hj => ?_⟩
    obtain ⟨hj, hjm⟩ := mem_rdyB.1 hj
    by_cases hji : j = i
    · subst hji; exact hy.qOp hi H
    · have h1 := H.2 j (mem_rdyB.2 ⟨ready_mono hj hji, hjm⟩)
      obtain ⟨hjun, oj, hoj, hall⟩ := mem_ready.1 hj
      have hnot : ∀ e ∈ oj.after, Region.binds md e = true → e.on ≠ i := fun e he hb heq => by
        have h1 := hall e he hb
        have h0 := (mem_ready.1 hr).1
        rw [heq] at h1
        rcases Nat.lt_or_ge i listed.size with h' | h'
        · simp [h'] at h0 h1; rw [h0] at h1; cases h1
        · simp [Array.getElem?_eq_none h'] at h1
      have h2 := qOp_put hoj (hfree j oj hoj hji hjun hnot) (fun cs b => hsel i oi cs b hi) (fun cs b => hsel j oj cs b hoj) hy h1
      have hfree' : ∀ k ok, ops[k]? = some ok → k ≠ i → (listed.setIfInBounds j true).getD k true = false →
          (∀ e ∈ ok.after, Region.binds md e = true → e.on ≠ i) → oi.apart ops ok = true := fun k ok hk hki hun hno => by
        refine hfree k ok hk hki ?_ hno
        by_cases hjk : j = k
        · subst hjk; exact hjun
        · rw [getD_set_ne true hjk] at hun; exact hun
      refine qOp_mono (fun a' h3 => ih (listed.setIfInBounds j true) a' hfree' (ready_mono hr (Ne.symm hji)) h3.1 ?_) h2
      rw [Array.setIfInBounds_comm _ _ hji]
      exact h3.2
theorem wpAnyB_lex {Q : Act → Prop} (hs : Region.noSelect ops = true) : ∀ (l : List Oper) (k : Nat) (listed : Array Bool) (a : Act), (∀ j o, l[j]? = some o → ops[k + j]? = some o) →
    lexM md ops m l.length k listed = true → wpQuiet P ops C Q l a → wpAnyB P md ops m C Q l.length listed a
  | [], _, _, _, _, hB, h => ⟨by simpa [lexM] using hB, h⟩
  | o :: l, k, listed, a, hl, hB, h => by
    have h0 : ops[k]? = some o := by simpa using hl 0 o (by simp)
    simp only [List.length_cons, lexM, Bool.and_eq_true, bne_iff_ne] at hB
    obtain ⟨⟨⟨hr, hf⟩, hkm⟩, hB'⟩ := hB
    have hst : qOp P ops C k (wpQuiet P ops C Q l) a := by unfold qOp; simp only [h0]; exact h
    obtain ⟨v, hy, hK⟩ := yieldsIn_of_qOp h0 hst
    exact wpAnyB_first h0 hkm (Region.noSelect_spec hs) l.length listed a (Region.free_spec h0 hf) (by simpa using hr) hy
      (wpAnyB_lex hs l (k + 1) _ _ (fun j o' hj => by have := hl (j + 1) o' (by simpa using hj); simpa [Nat.add_assoc, Nat.add_comm 1 j] using this) hB' hK)
/-! ### from there to every order -/
/-- what is listed, all that it waits for is listed -/
def Down (md : Region.Mode) (ops : Array Oper) (listed : Array Bool) : Prop := ∀ (j : Nat) (o : Oper), ops[j]? = some o → listed.getD j false = true → ∀ e ∈ o.after, Region.binds md e = true → listed.getD e.on false = true
theorem afters_listed {listed : Array Bool} (hc : Down md ops listed) {j : Nat} (hj : listed.getD j false = true) : ∀ i ∈ afters md ops j, listed.getD i false = true := by
  intro i hi
  unfold afters at hi
  split at hi
  · rename_i o ho
    simp only [List.mem_map, List.mem_filter, Array.mem_toList_iff] at hi
    obtain ⟨e, ⟨he, hb⟩, rfl⟩ := hi
    exact hc j o ho hj e he hb
  · cases hi
theorem reach_listed {listed : Array Bool} (hc : Down md ops listed) : ∀ (n : Nat) (l : List Nat), (∀ i ∈ l, listed.getD i false = true) → ∀ i ∈ reach md ops n l, listed.getD i false = true
  | 0, l, h => h
  | n + 1, l, h => by
    refine reach_listed hc n _ fun i hi => ?_
    rw [List.mem_eraseDups, List.mem_append, List.mem_flatMap] at hi
    rcases hi with hi | ⟨j, hj, hi⟩
    · exact h i hi
    · exact afters_listed hc (h j hj) i hi
theorem ready_afters {listed : Array Bool} {j : Nat} (hr : j ∈ Region.ready md ops listed) : listed.getD j true = false ∧ ∀ i ∈ afters md ops j, listed.getD i false = true := by
  obtain ⟨h1, o, h2, h3⟩ := mem_ready.1 hr
  refine ⟨h1, fun i hi => ?_⟩
  unfold afters at hi
  rw [h2] at hi
  simp only [List.mem_map, List.mem_filter, Array.mem_toList_iff] at hi
  obtain ⟨e, ⟨he, hb⟩, rfl⟩ := hi
  exact h3 e he hb
theorem depB_spec (hd : depB md ops m = true) : ops.size = m + 1 ∧ (∀ j, j ≤ m → ∀ i ∈ afters md ops j, i < j) ∧ ∀ i, i < m → i ∈ reach md ops m (afters md ops m) := by
  simp only [depB, Bool.and_eq_true, beq_iff_eq, List.all_eq_true, List.mem_range, decide_eq_true_eq, List.contains_iff_mem] at hd
  exact ⟨hd.1.1, fun j hj i hi => hd.1.2 j (by omega) i hi, hd.2⟩
theorem getD_tf {listed : Array Bool} {i : Nat} (hi : i < listed.size) (x y : Bool) : listed.getD i x = listed.getD i y := by simp [hi]
theorem ready_of {listed : Array Bool} {j : Nat} (hj : j < ops.size) (h0 : listed.getD j true = false) (h : ∀ i ∈ afters md ops j, listed.getD i false = true) : j ∈ Region.ready md ops listed := by
  refine mem_ready.2 ⟨h0, ops[j], Array.getElem?_eq_getElem hj, fun e he hb => h e.on ?_⟩
  unfold afters
  rw [Array.getElem?_eq_getElem hj]
  exact List.mem_map.2 ⟨e, List.mem_filter.2 ⟨Array.mem_toList_iff.2 he, hb⟩, rfl⟩
theorem all_listed (hd : depB md ops m = true) {listed : Array Bool} (hs : listed.size = m + 1) (hr : rdyB md ops m listed = []) : ∀ (n i : Nat), i < n → i < m → listed.getD i false = true
  | 0, i, h, _ => by omega
  | n + 1, i, hin, him => by
    obtain ⟨d1, d2, d3⟩ := depB_spec hd
    cases hq : listed.getD i false with
    | true => rfl
    | false =>
      exfalso
      have h0 : listed.getD i true = false := by rw [getD_tf (by omega) true false]; exact hq
      have : i ∈ rdyB md ops m listed := mem_rdyB.2 ⟨ready_of (by omega) h0 fun k hk => all_listed hd hs hr n k (by have := d2 i (by omega) k hk; omega) (by have := d2 i (by omega) k hk; omega), by omega⟩
      rw [hr] at this
      cases this
theorem m_ready (hd : depB md ops m = true) {listed : Array Bool} (hc : Down md ops listed) (hr : m ∈ Region.ready md ops listed) : ∀ i, i < m → listed.getD i false = true := fun i hi =>
  reach_listed hc m _ (ready_afters hr).2 i ((depB_spec hd).2.2 i hi)
theorem Down.set {listed : Array Bool} (hc : Down md ops listed) {j : Nat} (hr : j ∈ Region.ready md ops listed) : Down md ops (listed.setIfInBounds j true) := by
  have mono : ∀ k, listed.getD k false = true → (listed.setIfInBounds j true).getD k false = true := by
    intro k hk
    rw [Array.getD_eq_getD_getElem?] at *
    rw [Array.getElem?_setIfInBounds]
    split
    · split
      · rfl
      · rename_i h1 h2; subst h1; simp [Array.getElem?_eq_none (Nat.le_of_not_lt h2)] at hk
    · exact hk
  intro k o ho hk e he hb
  by_cases hkj : j = k
  · subst hkj
    refine mono _ ?_
    obtain ⟨_, o', ho', hall⟩ := mem_ready.1 hr
    rw [ho] at ho'
    cases ho'
    exact hall e he hb
  · refine mono _ (hc k o ho ?_ e he hb)
    rw [Array.getD_eq_getD_getElem?] at hk ⊢
    rw [Array.getElem?_setIfInBounds, if_neg hkj] at hk
    exact hk
theorem wpAny_of_B {Q : Act → Prop} {Q' : Exit → Act → World → Prop} (hd : depB md ops m = true) (hQ : ∀ a w, C w → Q a → wpOp P ops Q' m (fun a' w' => Q' .normal a' w') a w) : ∀ (fuel : Nat) (listed : Array Bool) (a : Act) (w : World), C w → listed.size = m + 1 → Down md ops listed → listed.getD m true = false →
    wpAnyB P md ops m C Q fuel listed a → wpAny P md ops Q' (fuel + 1) listed a w := by
  obtain ⟨d1, d2, d3⟩ := depB_spec hd
  have last : ∀ (fuel : Nat) (listed : Array Bool) (a : Act) (w : World), C w → listed.size = m + 1 → Down md ops listed → listed.getD m true = false → rdyB md ops m listed = [] → Q a → wpAny P md ops Q' (fuel + 1) listed a w := by
    intro fuel listed a w hw hs hc hm hr hq
    have hall : ∀ i, i < m → listed.getD i false = true := fun i hi => all_listed hd hs hr (i + 1) i (by omega) hi
    have hmr : m ∈ Region.ready md ops listed := ready_of (by omega) hm fun i hi => hall i (d2 m (Nat.le_refl _) i hi)
    refine ⟨fun h => (by rw [h] at hmr; cases hmr), fun i hi => ?_⟩
    have him : i = m := by
      cases Nat.decEq i m with
      | isTrue h => exact h
      | isFalse h => have := mem_rdyB.2 ⟨hi, h⟩; rw [hr] at this; cases this
    subst him
    refine wpOp_mono (fun a' w' hn => ?_) (hQ a w hw hq)
    have hnone : Region.ready md ops (listed.setIfInBounds i true) = [] := by
      apply List.eq_nil_iff_forall_not_mem.2
      intro k hk
      obtain ⟨h1, o, h2, _⟩ := mem_ready.1 hk
      have hk : k < ops.size := (Array.getElem?_eq_some_iff.1 h2).1
      rw [Array.getD_eq_getD_getElem?, Array.getElem?_setIfInBounds] at h1
      split at h1
      · rw [if_pos (by omega)] at h1; cases h1
      · rename_i hne
        have := hall k (by omega)
        rw [Array.getD_eq_getD_getElem?] at this
        cases hq : listed[k]? with
        | none => rw [hq] at this; cases this
        | some b => rw [hq] at this h1; simp at this h1; rw [this] at h1; cases h1
    cases fuel with
    | zero => exact ⟨hnone, hn⟩
    | succ fuel => exact ⟨fun _ => hn, by rw [hnone]; simp⟩
  intro fuel
  induction fuel with
  | zero => intro listed a w hw hs hc hm h; exact last 0 listed a w hw hs hc hm h.1 h.2
  | succ fuel ih =>
    intro listed a w hw hs hc hm h
    by_cases hr : rdyB md ops m listed = []
    · exact last (fuel + 1) listed a w hw hs hc hm hr (h.1 hr)
    · obtain ⟨i0, hi0⟩ := List.exists_mem_of_ne_nil _ hr
      obtain ⟨h0, h0m⟩ := mem_rdyB.1 hi0
      refine ⟨fun hh => (by rw [hh] at h0; cases h0), fun i hi => ?_⟩
      have him : i ≠ m := by
        rintro rfl
        have hu := (ready_afters h0).1
        have hlt : i0 < ops.size := by
          obtain ⟨_, o, h2, _⟩ := mem_ready.1 h0
          exact (Array.getElem?_eq_some_iff.1 h2).1
        have := m_ready hd hc hi i0 (by omega)
        rw [getD_tf (by omega) false true, hu] at this
        cases this
      refine wpOp_of_qOp hw (fun a' w' hw' hk => ih _ a' w' hw' (by simpa using hs) (hc.set hi) ?_ hk) (h.2 i (mem_rdyB.2 ⟨hi, him⟩))
      rw [Array.getD_eq_getD_getElem?, Array.getElem?_setIfInBounds, if_neg him, ← Array.getD_eq_getD_getElem?]
      exact hm
theorem wp_region_last {id : Nat} {Q : Exit → Act → World → Prop} {a : Act} {w : World} (hm : P.follows .mixedOrders = true) (hB : lastB ops = true) (hC : C { w with drawn := w.drawn + 1 })
    (h : wpQuiet P ops C (fun a' => ∀ w', C w' → wpOp P ops Q (ops.size - 1) (fun a'' w'' => Q .normal a'' w'') a' w') (ops.toList.take (ops.size - 1)) a) : (Code.region id ops true).wp P Q a w := by
  simp only [lastB, Bool.and_eq_true] at hB
  obtain ⟨h1, h2, h3⟩ := hB
  obtain ⟨d1, _, _⟩ := depB_spec h2
  refine wp_region_any hm ?_
  have hl : (ops.toList.take (ops.size - 1)).length = ops.size - 1 := by simp
  have hb := wpAnyB_lex (C := C) (md := .any) (m := ops.size - 1) h1 (ops.toList.take (ops.size - 1)) 0 (Array.replicate ops.size false) a (fun j o hj => by
    rw [List.getElem?_take] at hj
    split at hj
    · simpa using hj
    · cases hj) (by rw [hl]; exact h3) h
  rw [hl] at hb
  have := wpAny_of_B (Q' := Q) h2 (fun a w hw hq => hq w hw) (ops.size - 1) (Array.replicate ops.size false) a { w with drawn := w.drawn + 1 } hC (by simp; omega) (fun j o ho hj => by
    rw [Array.getD_eq_getD_getElem?, Array.getElem?_replicate] at hj
    split at hj <;> cases hj) (by
    rw [Array.getD_eq_getD_getElem?, Array.getElem?_replicate, if_pos (by omega)]
    rfl) hb
  rwa [show ops.size - 1 + 1 = ops.size by omega] at this
end
end Go.Proofs.Ytpnkldjbiinnpaa.AM
