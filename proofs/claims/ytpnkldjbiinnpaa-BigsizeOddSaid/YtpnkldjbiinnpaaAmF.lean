import Derived.Test.YtpnkldjbiinnpaaAmE
/- A region that draws its order, of operations that change what is held too: the model's runs of it. -/
namespace Go.Proofs.Ytpnkldjbiinnpaa.AM
open Go Go.RowKit
set_option linter.unusedVariables false
set_option linter.unusedSimpArgs false
theorem countP_split {p q : Nat → Bool} {i n : Nat} (hi : i ≤ n) (h1 : ∀ j, j < i → p j = q j) (h2 : ∀ j, i ≤ j → j < n → p j = false) : (List.range n).countP p = (List.range i).countP q := by
  induction n with
  | zero => simp at hi; subst hi; rfl
  | succ n ih =>
    by_cases hin : i = n + 1
    · subst hin
      exact List.countP_congr fun j hj => by rw [h1 j (by simpa using hj)]
    · rw [List.range_succ, List.countP_append, ih (by omega) (fun j h h' => h2 j h (by omega))]
      simp [h2 n (by omega) (by omega)]
theorem countP_le {p q : Nat → Bool} {n : Nat} (h : ∀ j, j < n → p j = true → q j = true) : (List.range n).countP p ≤ (List.range n).countP q :=
  List.countP_mono_left fun j hj hp => h j (by simpa using hj) hp
def lst (listed : Array Bool) (i : Nat) : Bool := listed.getD i false
theorem lst_set {listed : Array Bool} {i j : Nat} (hi : i < listed.size) : lst (listed.setIfInBounds i true) j = (lst listed j || i == j) := by
  unfold lst
  rw [Array.getD_eq_getD_getElem?, Array.getD_eq_getD_getElem?, Array.getElem?_setIfInBounds]
  by_cases h : i = j
  · subst h; simp [hi]
  · simp [h]
section
variable {P : Program} {E : Env0} {C : Cl} {B : Nat} {ops : Array Oper} {os : List AOper} {st : List (Nat × Nat)} {e e' : Env} {h h' : Heap} {hs : List Heap}
structure OkU (ops : Array Oper) (os : List AOper) (ups : List (List Nat)) (st : List (Nat × Nat)) : Prop where
  upsE : ups = (List.range ops.size).map (upB ops)
  st : st = (List.range ops.size).map (stOf ups os ops.size)
  len : os.length = ops.size
  aft : ∀ j, j < ops.size → ∀ i ∈ afters .any ops j, i < j
  up : ∀ j, j < ops.size → ∀ i ∈ upB ops j, i < j
  tmp : ∀ j, j < ops.size → ∀ t ∈ erTAt os j, ∀ i, i < ops.size → dstAt os i = some t → i ∈ upB ops j ∨ j ∈ upB ops i ∨ i = j
  eff : ∀ j, j < ops.size → effAt os j = true → ∀ i, i < j → effAt os i = true → i ∈ upB ops j
  dst : ∀ j, j < ops.size → ∀ i, i < j → ∀ t, dstAt os j = some t → dstAt os i ≠ some t
theorem okU_spec {ups : List (List Nat)} (hk : okU ops os ups st = true) : OkU ops os ups st := by
  simp only [okU, Bool.and_eq_true, beq_iff_eq, List.all_eq_true, List.mem_range, decide_eq_true_eq, Bool.or_eq_true, bne_iff_ne, List.contains_iff_mem, Bool.not_eq_true'] at hk
  obtain ⟨⟨⟨⟨⟨⟨⟨h1, h2⟩, h3⟩, h4⟩, h5⟩, h6⟩, h7⟩, h8⟩ := hk
  have hu : ∀ j, j < ops.size → ups.getD j [] = upB ops j := fun j hj => by
    rw [h1, List.getD_eq_getElem?_getD, List.getElem?_map, List.getElem?_range hj]; rfl
  refine ⟨h1, h2, h3, h4, fun j hj i hi => h5 j hj i (by rw [hu j hj]; exact hi), fun j hj t ht i hi hd => ?_, fun j hj he i hij hei => ?_, fun j hj i hij t hd => ?_⟩
  · rcases h6 j hj t ht i hi with ((h | h) | h) | h
    · exact absurd hd h
    · exact .inl (by rwa [hu j hj] at h)
    · exact .inr (.inl (by rwa [hu i hi] at h))
    · exact .inr (.inr h)
  · rcases h7 j hj with h | h
    · rw [he] at h; cases h
    · rcases h i hij with h | h
      · rw [hei] at h; cases h
      · rwa [hu j hj] at h
  · rcases h8 j hj i hij with h | h
    · rw [hd] at h; cases h
    · rw [hd] at h; exact h
theorem mem_dstsOf {os : List AOper} {t : Nat} {n : Nat} : t ∈ dstsOf (os.drop n) → ∃ i, n ≤ i ∧ i < os.length ∧ dstAt os i = some t := by
  intro ht
  simp only [dstsOf, List.mem_filterMap] at ht
  obtain ⟨o, ho, hd⟩ := ht
  obtain ⟨i, hi⟩ := List.mem_iff_getElem?.1 ho
  rw [List.getElem?_drop] at hi
  exact ⟨n + i, by omega, (List.getElem?_eq_some_iff.1 hi).1, by simp [dstAt, hi, hd]⟩
theorem mem_dstsOf_take {os : List AOper} {t : Nat} {n : Nat} : t ∈ dstsOf (os.take n) ↔ ∃ i, i < n ∧ i < os.length ∧ dstAt os i = some t := by
  constructor
  · intro ht
    simp only [dstsOf, List.mem_filterMap] at ht
    obtain ⟨o, ho, hd⟩ := ht
    obtain ⟨i, hi⟩ := List.mem_iff_getElem?.1 ho
    rw [List.getElem?_take] at hi
    split at hi
    · rename_i hin; exact ⟨i, hin, (List.getElem?_eq_some_iff.1 hi).1, by simp [dstAt, hi, hd]⟩
    · cases hi
  · rintro ⟨i, hin, hil, hd⟩
    simp only [dstsOf, List.mem_filterMap]
    refine ⟨os[i], List.mem_of_getElem? (i := i) (by rw [List.getElem?_take, if_pos hin, List.getElem?_eq_getElem hil]), ?_⟩
    simpa [dstAt, List.getElem?_eq_getElem hil] using hd
/-- slots in the middle of the run in the order of the text -/
structure Mid (os : List AOper) (e e' : Env) (i : Nat) (ei : Env) : Prop where
  done : ∀ t, t ∈ dstsOf (os.take i) → getE ei t = getE e' t
  not : ∀ t, t ∉ dstsOf (os.take i) → getE ei t = getE e t
theorem Mid.same {e e' ei fi : Env} {i : Nat} (h : Mid os e e' i ei) (k : Mid os e e' i fi) (t : Nat) : getE ei t = getE fi t := by
  by_cases ht : t ∈ dstsOf (os.take i)
  · rw [h.done t ht, k.done t ht]
  · rw [h.not t ht, k.not t ht]
/-- what an operation comes to, in the slots of its place in the text -/
structure Cert (C : Cl) (e e' : Env) (hs : List Heap) (os : List AOper) (i : Nat) (o : AOper) (ei : Env) (w : Bool) (v : AV) : Prop where
  mid : Mid os e e' i ei
  want : wantE o.guard ei = some w
  dst : ∀ d, o.dst = some d → getE e' d = v
  off : w = false → v = .undef ∧ (effB o.op = true → hs[cnt os (i + 1)]? = hs[cnt os i]?)
  eff : w = true → effB o.op = true → ∃ hb ha, hs[cnt os i]? = some hb ∧ hs[cnt os (i + 1)]? = some ha ∧ aop C o.op ei hb = some (v, ha)
  qui : w = true → effB o.op = false → ∃ hb, hs[cnt os i]? = some hb ∧ aop C o.op ei hb = some (v, hb)
theorem cert_of {ups : List (List Nat)} (ku : OkU ops os ups st) (hr : RunC C os e e' h h' hs 0) {i : Nat} {o : AOper} (ho : os[i]? = some o) : ∃ ei w v, Cert C e e' hs os i o ei w v := by
  have hi : i < ops.size := by rw [← ku.len]; exact (List.getElem?_eq_some_iff.1 ho).1
  obtain ⟨ei, ⟨g1, g1'⟩, w, v, hb, ha, g2, g3, g4, g5, g6, g7⟩ := hr.at_ i o ho
  rw [Nat.zero_add] at g3 g4
  have mid : Mid os e e' i ei := ⟨fun t ht => (g1 t fun hh => by
    obtain ⟨j, hj1, hj2, hj3⟩ := mem_dstsOf hh
    obtain ⟨k, hk1, hk2, hk3⟩ := mem_dstsOf_take.1 ht
    exact ku.dst j (by rw [← ku.len]; exact hj2) k (by omega) t hj3 hk3).symm, g1'⟩
  refine ⟨ei, w, v, mid, g2, fun d hd => g7 d hd fun hh => ?_, fun hwf => ⟨(g6 hwf).1, fun _ => by rw [g3, g4, (g6 hwf).2]⟩, fun hwt _ => ⟨hb, ha, g3, g4, g5 hwt⟩, fun hwt hq => ⟨hb, g3, ?_⟩⟩
  · obtain ⟨j, hj1, hj2, hj3⟩ := mem_dstsOf hh
    exact ku.dst j (by rw [← ku.len]; exact hj2) i (by omega) d hj3 (by simp [dstAt, ho, hd])
  · have h1 := g5 hwt
    have h2 := quiet_same hq h1
    rw [h2] at h1
    exact h1
theorem chkO_spec {o : AOper} {e e' : Env} : ∀ {l : List Heap}, chkO C e e' o l = true → ∀ x ∈ l, ∃ v h1, aop C o.op e x = some (v, h1) ∧ ∀ d, o.dst = some d → v = getE e' d
  | [], _, x, hx => by cases hx
  | y :: l, hc, x, hx => by
    simp only [chkO, Bool.and_eq_true] at hc
    rcases List.mem_cons.1 hx with rfl | hx
    · obtain ⟨hc, _⟩ := hc
      cases hq : aop C o.op e x with
      | none => rw [hq] at hc; simp [chkV] at hc
      | some p =>
        obtain ⟨v, h1⟩ := p
        refine ⟨v, h1, rfl, fun d hd => ?_⟩
        rw [hq, hd] at hc
        exact beqV_eq _ _ hc
    · exact chkO_spec hc.2 x hx
theorem chkD_spec {e' : Env} {hs : List Heap} : ∀ {os : List AOper} {st : List (Nat × Nat)} {f : Env}, chkD C e' hs f os st = true → ∀ (i : Nat) (o : AOper) (lo hi : Nat), os[i]? = some o → st[i]? = some (lo, hi) → ∃ fi, Mid os f e' i fi ∧ (reB o.op = true → lo < hi → wantE o.guard fi = some true → ∀ k x, lo ≤ k → k ≤ hi → hs[k]? = some x → ∃ v h1, aop C o.op fi x = some (v, h1) ∧ ∀ d, o.dst = some d → v = getE e' d)
  | [], _, _, _, i, o, lo, hi, ho, _ => by simp at ho
  | _ :: _, [], _, _, i, o, lo, hi, _, hst => by simp at hst
  | p :: os, (l0, h0) :: st, f, hc, i, o, lo, hi, ho, hst => by
    simp only [chkD, Bool.and_eq_true] at hc
    cases i with
    | zero =>
      simp only [List.getElem?_cons_zero, Option.some.injEq, Prod.mk.injEq] at ho hst
      obtain ⟨rfl, rfl⟩ := hst
      subst ho
      refine ⟨f, ⟨fun t ht => by simp [dstsOf] at ht, fun _ _ => rfl⟩, fun hre hlt hw k x k1 k2 hx => ?_⟩
      have hc1 := hc.1
      rw [if_pos ⟨hre, hlt⟩, hw] at hc1
      refine chkO_spec hc1 x ?_
      refine List.mem_of_getElem? (i := k - l0) ?_
      rw [List.getElem?_take, if_pos (by omega), List.getElem?_drop, show l0 + (k - l0) = k by omega]
      exact hx
    | succ i =>
      obtain ⟨fi, hm, hrest⟩ := chkD_spec hc.2 i o lo hi (by simpa using ho) (by simpa using hst)
      refine ⟨fi, ⟨fun t ht => ?_, fun t ht => ?_⟩, hrest⟩
      · by_cases h1 : t ∈ dstsOf (os.take i)
        · exact hm.done t h1
        · rw [hm.not t h1]
          simp only [List.take_succ_cons, dstsOf, List.filterMap_cons] at ht
          cases hd : p.dst with
          | none => simp only [hd] at ht; exact absurd ht h1
          | some d =>
            simp only [hd, List.mem_cons] at ht
            rcases ht with rfl | ht
            · simp [nxE, getE]
            · exact absurd ht h1
      · simp only [List.take_succ_cons, dstsOf, List.filterMap_cons] at ht
        cases hd : p.dst with
        | none =>
          simp only [hd] at ht
          rw [hm.not t ht, hd]
          rfl
        | some d =>
          simp only [hd, List.mem_cons, not_or] at ht
          rw [hm.not t ht.2, hd]
          simp only [nxE, getE]
          rw [if_neg (fun hh => ht.1 hh.symm)]
/-- how many changes are done -/
def effN (os : List AOper) (n : Nat) (listed : Array Bool) : Nat := (List.range n).countP fun j => effAt os j && lst listed j
def todo (n : Nat) (listed : Array Bool) : Nat := (List.range n).countP fun j => !lst listed j
theorem upB_listed {listed : Array Bool} (hc : Down .any ops listed) {j : Nat} (ha : ∀ i ∈ afters .any ops j, listed.getD i false = true) : ∀ i ∈ upB ops j, lst listed i = true :=
  reach_listed hc ops.size _ ha
theorem all_done {listed : Array Bool} {ups : List (List Nat)} (ku : OkU ops os ups st) (hsz : listed.size = ops.size) (hr : Region.ready .any ops listed = []) : ∀ (n i : Nat), i < n → i < ops.size → lst listed i = true
  | 0, i, h, _ => by omega
  | n + 1, i, hin, him => by
    cases hq : listed.getD i false with
    | true => exact hq
    | false =>
      exfalso
      have h0 : listed.getD i true = false := by rw [getD_tf (by omega) true false]; exact hq
      have : i ∈ Region.ready .any ops listed := ready_of (by omega) h0 fun k hk => all_done ku hsz hr n k (by have := ku.aft i him k hk; omega) (by have := ku.aft i him k hk; omega)
      rw [hr] at this
      cases this
theorem todo_set {listed : Array Bool} {n i : Nat} (hi : i < n) (hsz : listed.size = n) (hu : lst listed i = false) : todo n (listed.setIfInBounds i true) + 1 = todo n listed := by
  have key : ∀ m, m ≤ n → (List.range m).countP (fun j => !lst (listed.setIfInBounds i true) j) + (if i < m then 1 else 0) = (List.range m).countP fun j => !lst listed j := by
    intro m
    induction m with
    | zero => intro _; rfl
    | succ m ih =>
      intro hm
      have := ih (by omega)
      rw [List.range_succ, List.countP_append, List.countP_append]
      simp only [List.countP_cons, List.countP_nil, Nat.zero_add, lst_set (show i < listed.size by omega)] at this ⊢
      by_cases him : i = m
      · subst him
        simp only [hu, beq_self_eq_true, Bool.or_true, Bool.not_true, Bool.not_false, if_true, Bool.false_eq_true, if_false, Nat.lt_irrefl, Nat.lt_succ_self] at this ⊢
        omega
      · have hb : (i == m) = false := by simpa using him
        simp only [hb, Bool.or_false] at this ⊢
        by_cases him2 : i < m
        · rw [if_pos him2] at this; rw [if_pos (show i < m + 1 by omega)]; omega
        · rw [if_neg him2] at this; rw [if_neg (show ¬ i < m + 1 by omega)]; omega
  have := key n (Nat.le_refl n)
  rw [if_pos hi] at this
  exact this
theorem effN_set {listed : Array Bool} {n i : Nat} (hi : i < n) (hsz : listed.size = n) (hu : lst listed i = false) : effN os n (listed.setIfInBounds i true) = effN os n listed + if effAt os i then 1 else 0 := by
  have key : ∀ m, m ≤ n → (List.range m).countP (fun j => effAt os j && lst (listed.setIfInBounds i true) j) = (List.range m).countP (fun j => effAt os j && lst listed j) + (if i < m ∧ effAt os i = true then 1 else 0) := by
    intro m
    induction m with
    | zero => intro _; simp
    | succ m ih =>
      intro hm
      have := ih (by omega)
      rw [List.range_succ, List.countP_append, List.countP_append]
      simp only [List.countP_cons, List.countP_nil, Nat.zero_add, lst_set (show i < listed.size by omega)] at this ⊢
      by_cases him : i = m
      · subst him
        rw [if_neg (fun hh => Nat.lt_irrefl _ hh.1)] at this
        simp only [hu, beq_self_eq_true, Bool.or_true, Bool.and_true, Bool.and_false, Bool.false_eq_true, if_false]
        cases effAt os i <;> simp_all
      · have hb : (i == m) = false := by simpa using him
        simp only [hb, Bool.or_false] at this ⊢
        by_cases him2 : i < m
        · have h1 : (i < m + 1) = True := eq_true (by omega)
          simp only [him2, h1, true_and] at this ⊢
          omega
        · have h1 : ¬ i < m + 1 := by omega
          simp only [him2, h1, false_and, if_false] at this ⊢
          omega
  have := key n (Nat.le_refl n)
  simp only [hi, true_and] at this
  exact this
end
end Go.Proofs.Ytpnkldjbiinnpaa.AM
