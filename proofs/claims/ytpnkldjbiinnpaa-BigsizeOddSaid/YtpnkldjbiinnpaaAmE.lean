import Derived.Test.YtpnkldjbiinnpaaAmR
import Derived.WideShapes
/- A region that draws its order, of operations that change what is held too: in whatever order, all comes to the same. -/
namespace Go.Proofs.Ytpnkldjbiinnpaa.AM
open Go Go.RowKit
set_option linter.unusedVariables false
set_option linter.unusedSimpArgs false
/-! ### equal values -/
theorem vEq_eq {a b : Value} (h : vEq a b = true) : a = b := by
  unfold vEq at h
  split at h <;> simp_all
  exact Go.WideShapes.bytes_inj (by rw [h])
mutual
theorem beqV_eq : ∀ (x y : AV), beqV x y = true → x = y
  | .sc a, y, h => by
    cases y <;> simp only [beqV] at h <;> first | (rw [vEq_eq h]) | cases h
  | .unk, y, h => by cases y <;> simp [beqV] at h
  | .ptr i o, y, h => by cases y <;> simp [beqV] at h; simp [h]
  | .ref a, y, h => by
    cases y <;> simp only [beqV] at h <;> first | (rw [beqVL_eq _ _ h]) | cases h
  | .slice o k a, y, h => by
    cases y <;> simp only [beqV, Bool.and_eq_true, beq_iff_eq] at h <;> first | (rw [h.1.1, h.1.2, beqVL_eq _ _ h.2]) | cases h
  | .ms i o k n, y, h => by cases y <;> simp [beqV] at h; simp [h]
  | .func f a b, y, h => by
    cases y with
    | func g c d =>
      cases f <;> cases g <;> simp only [beqV, Bool.and_eq_true, beq_iff_eq] at h <;> first | (rw [h.1.1, beqVL_eq _ _ h.1.2, beqVL_eq _ _ h.2]) | cases h
    | _ => cases f <;> simp [beqV] at h
  | .agg a, y, h => by
    cases y <;> simp only [beqV] at h <;> first | (rw [beqVL_eq _ _ h]) | cases h
  | .tup a, y, h => by
    cases y <;> simp only [beqV] at h <;> first | (rw [beqVL_eq _ _ h]) | cases h
  | .map i, y, h => by cases y <;> simp [beqV] at h; simp [h]
theorem beqVL_eq : ∀ (x y : List AV), beqVL x y = true → x = y
  | [], y, h => by cases y <;> simp [beqVL] at h; rfl
  | x :: xs, y, h => by
    cases y with
    | nil => simp [beqVL] at h
    | cons z zs =>
      simp only [beqVL, Bool.and_eq_true] at h
      rw [beqV_eq x z h.1, beqVL_eq xs zs h.2]
end
/-! ### what an operation looks at -/
theorem evO_congr {e e' : Env} {x : Opd} (h : ∀ t ∈ oT x, getE e t = getE e' t) : evO e x = evO e' x := by
  cases x with
  | tmp t => exact h t (by simp [oT])
  | cst v => rfl
theorem evL_congr {e e' : Env} : ∀ {l : List Opd}, (∀ t ∈ oTL l, getE e t = getE e' t) → evL e l = evL e' l
  | [], _ => rfl
  | x :: r, h => by
    simp only [oTL, List.mem_append] at h
    simp only [evL, List.map_cons]
    rw [evO_congr fun t ht => h t (.inl ht)]
    congr 1
    exact evL_congr fun t ht => h t (.inr ht)
theorem optI_congr {e e' : Env} {x : Option Opd} (h : ∀ t ∈ oTM x, getE e t = getE e' t) : optI e x = optI e' x := by
  cases x with
  | none => rfl
  | some x => simp only [optI, evO_congr h]
theorem setParts_congr {e e' : Env} : ∀ {p : List (Nat × Nat × Opd)} {cs : List AV}, (∀ t ∈ oTP p, getE e t = getE e' t) → setParts e cs p = setParts e' cs p
  | [], _, _ => rfl
  | (o, n, x) :: r, cs, h => by
    simp only [oTP, List.mem_append] at h
    simp only [setParts, evO_congr fun t ht => h t (.inl ht)]
    congr 1
    funext xs
    split
    · exact setParts_congr fun t ht => h t (.inr ht)
    · rfl
theorem setEls_congr {e e' : Env} {k : Option Nat} : ∀ {p : List (Nat × Opd)} {cs : List AV}, (∀ t ∈ oTE p, getE e t = getE e' t) → setEls e k cs p = setEls e' k cs p
  | [], _, _ => rfl
  | (i, x) :: r, cs, h => by
    simp only [oTE, List.mem_append] at h
    simp only [setEls, evO_congr fun t ht => h t (.inl ht)]
    split
    · exact setEls_congr fun t ht => h t (.inr ht)
    · rfl
theorem aop_congr {C : Cl} {o : AOp} {e e' : Env} {h : Heap} (ht : ∀ t ∈ opT o, getE e t = getE e' t) : aop C o e h = aop C o e' h := by
  cases o <;> simp only [opT, List.mem_append] at ht <;> simp only [aop]
  case move => rw [evO_congr ht]
  case acc => rw [evO_congr ht]
  case pick c a b => rw [evO_congr fun t h => ht t (.inl h), evO_congr (x := a) fun t h => ht t (.inr (.inl h)), evO_congr (x := b) fun t h => ht t (.inr (.inr h))]
  case box => rw [evO_congr ht]
  case build => rw [setParts_congr ht]
  case buildSlice => rw [setEls_congr ht]
  case load => rw [evO_congr ht]
  case nilCheck => rw [evO_congr ht]
  case un => rw [evO_congr ht]
  case eqNil => rw [evO_congr ht]
  case convInt => rw [evO_congr ht]
  case convBytes => rw [evO_congr ht]
  case convStr => rw [evO_congr ht]
  case convSS => rw [evO_congr ht]
  case toArr => rw [evO_congr ht]
  case fieldAddr => rw [evO_congr ht]
  case field => rw [evO_congr ht]
  case extract => rw [evO_congr ht]
  case len => rw [evO_congr ht]
  case lenT => rw [evO_congr ht]
  case makeFunc a b => rw [evL_congr fun t h => ht t (.inl h), evL_congr (l := b) fun t h => ht t (.inr h)]
  case slice s k x l u m => rw [evO_congr fun t h => ht t (.inl h), optI_congr (x := l) fun t h => ht t (.inr (.inl h)), optI_congr (x := u) fun t h => ht t (.inr (.inr (.inl h))), optI_congr (x := m) fun t h => ht t (.inr (.inr (.inr h)))]
  case call f l => rw [evO_congr fun t h => ht t (.inl h), evL_congr (l := l) fun t h => ht t (.inr h)]
  case store n x y => rw [evO_congr fun t h => ht t (.inl h), evO_congr (x := y) fun t h => ht t (.inr h)]
  case bin op x y => rw [evO_congr fun t h => ht t (.inl h), evO_congr (x := y) fun t h => ht t (.inr h)]
  case eqBool n x y => rw [evO_congr fun t h => ht t (.inl h), evO_congr (x := y) fun t h => ht t (.inr h)]
  case eqArr n m x y => rw [evO_congr fun t h => ht t (.inl h), evO_congr (x := y) fun t h => ht t (.inr h)]
  case minmax n x y => rw [evO_congr fun t h => ht t (.inl h), evO_congr (x := y) fun t h => ht t (.inr h)]
  case index n m x y => rw [evO_congr fun t h => ht t (.inl h), evO_congr (x := y) fun t h => ht t (.inr h)]
  case indexAddr n m x y => rw [evO_congr fun t h => ht t (.inl h), evO_congr (x := y) fun t h => ht t (.inr h)]
  case indexStr x y => rw [evO_congr fun t h => ht t (.inl h), evO_congr (x := y) fun t h => ht t (.inr h)]
  case append n m x y => rw [evO_congr fun t h => ht t (.inl h), evO_congr (x := y) fun t h => ht t (.inr h)]
  case copy n x y => rw [evO_congr fun t h => ht t (.inl h), evO_congr (x := y) fun t h => ht t (.inr h)]
  case makeSlice a b c x y => rw [evO_congr fun t h => ht t (.inl h), evO_congr (x := y) fun t h => ht t (.inr h)]
theorem wantE_congr {g : Option (Nat × Bool)} {e e' : Env} (h : ∀ t w, g = some (t, w) → getE e t = getE e' t) : wantE g e = wantE g e' := by
  cases g with
  | none => rfl
  | some p =>
    obtain ⟨t, w⟩ := p
    simp only [wantE, h t w rfl]
/-- what looks at nothing that is held -/
theorem pure_any {C : Cl} {o : AOp} {e : Env} (hq : effB o = false) (hr : reB o = false) (h : Heap) : aop C o e h = ((aop C o e []).map (·.1)).map fun v => (v, h) := by
  cases o <;> first | (cases hq; done) | (cases hr; done) | skip
  case index k n x i =>
    simp only [aop]
    cases asI (evO e i) with
    | none => rfl
    | some j =>
      simp only [Option.bind_some]
      repeat' split
      all_goals first | rfl | (cases ldCells k _ <;> rfl) | simp [Option.map_map, Function.comp_def]
  case indexAddr s k x i =>
    simp only [aop]
    cases asI (evO e i) with
    | none => rfl
    | some j =>
      simp only [Option.bind_some]
      repeat' split
      all_goals first | rfl | simp [Option.map_map, Function.comp_def]
  case indexStr x i =>
    simp only [aop]
    cases asI (evO e i) with
    | none => rfl
    | some j =>
      simp only [Option.bind_some]
      repeat' split
      all_goals first | rfl | simp [Option.map_map, Function.comp_def]
  all_goals simp only [aop]
  all_goals (repeat' split)
  all_goals first | rfl | simp [Option.map_map, Function.comp_def]
/-- what changes nothing -/
theorem quiet_same {C : Cl} {o : AOp} {e : Env} {h h' : Heap} {v : AV} (hq : effB o = false) (hx : aop C o e h = some (v, h')) : h' = h := by
  by_cases hr : reB o = false
  · rw [pure_any hq hr] at hx
    simp only [Option.map_eq_some_iff, Prod.mk.injEq] at hx
    obtain ⟨_, _, _, rfl⟩ := hx
    rfl
  · cases o <;> first | (exact absurd rfl hr) | skip
    case load k x =>
      simp only [aop, Option.bind_eq_some_iff, Option.map_eq_some_iff, Prod.mk.injEq] at hx
      obtain ⟨_, _, _, _, _, rfl⟩ := hx
      rfl
    case convStr x =>
      simp only [aop] at hx
      split at hx
      · cases hx
      · simp only [Option.bind_eq_some_iff, Option.map_eq_some_iff, Prod.mk.injEq] at hx
        obtain ⟨_, _, _, _, _, rfl⟩ := hx
        rfl
    case slice s k x l u m =>
      simp only [aop, Option.bind_eq_some_iff, Option.map_eq_some_iff, Prod.mk.injEq] at hx
      obtain ⟨_, _, _, _, _, _, _, _, _, rfl⟩ := hx
      rfl
/-! ### counting -/
def cnt (os : List AOper) (i : Nat) : Nat := (List.range i).countP (effAt os)
theorem cnt_succ (os : List AOper) (i : Nat) : cnt os (i + 1) = cnt os i + if effAt os i then 1 else 0 := by
  unfold cnt
  rw [List.range_succ, List.countP_append]
  simp only [List.countP_cons, List.countP_nil, Nat.zero_add]
theorem effAt_cons (o : AOper) (os : List AOper) (i : Nat) : effAt (o :: os) (i + 1) = effAt os i := by simp [effAt]
theorem effAt_zero (o : AOper) (os : List AOper) : effAt (o :: os) 0 = effB o.op := by simp [effAt]
theorem cnt_cons (o : AOper) (os : List AOper) : ∀ i, cnt (o :: os) (i + 1) = (if effB o.op then 1 else 0) + cnt os i
  | 0 => by simp [cnt, effAt_zero]
  | i + 1 => by
    rw [cnt_succ, cnt_cons o os i, cnt_succ, effAt_cons]
    omega
/-! ### the run in the order of the text -/
def dstsOf (os : List AOper) : List Nat := os.filterMap (·.dst)
theorem getE_setE_ne {e : Env} {d : Option Nat} {v : AV} {t : Nat} (h : ∀ x, d = some x → x ≠ t) : getE (setE e d v) t = getE e t := by
  cases d with
  | none => rfl
  | some x => simp only [setE, getE, if_neg (h x rfl)]
structure RunC (C : Cl) (os : List AOper) (e e' : Env) (h h' : Heap) (hs : List Heap) (c : Nat) : Prop where
  first : hs[c]? = some h
  last : hs[c + cnt os os.length]? = some h'
  frame : ∀ t, t ∉ dstsOf os → getE e' t = getE e t
  at_ : ∀ i o, os[i]? = some o → ∃ ei, ((∀ t, t ∉ dstsOf (os.drop i) → getE e' t = getE ei t) ∧ ∀ t, t ∉ dstsOf (os.take i) → getE ei t = getE e t) ∧ ∃ w v hb ha, wantE o.guard ei = some w ∧ hs[c + cnt os i]? = some hb ∧ hs[c + cnt os (i + 1)]? = some ha ∧ (w = true → aop C o.op ei hb = some (v, ha)) ∧ (w = false → v = .undef ∧ ha = hb) ∧ ∀ d, o.dst = some d → d ∉ dstsOf (os.drop (i + 1)) → getE e' d = v
theorem runD_ext {C : Cl} : ∀ {os : List AOper} {e e' : Env} {h h' : Heap} {hs hs' : List Heap}, runD C os e h hs = some (e', h', hs') → ∃ t, hs' = hs ++ t
  | [], e, e', h, h', hs, hs', hx => by simp only [runD] at hx; cases hx; exact ⟨[h], rfl⟩
  | o :: r, e, e', h, h', hs, hs', hx => by
    simp only [runD, Option.bind_eq_some_iff] at hx
    obtain ⟨w, hw, hx⟩ := hx
    have g : ∀ h, ∃ t, grow o.op h hs = hs ++ t := fun h => by
      unfold grow
      split
      · exact ⟨[h], rfl⟩
      · exact ⟨[], by simp⟩
    cases w with
    | true =>
      simp only [if_true, Option.bind_eq_some_iff, Prod.exists] at hx
      obtain ⟨v, h1, _, hx⟩ := hx
      obtain ⟨t, ht⟩ := runD_ext hx
      obtain ⟨t2, ht2⟩ := g h
      exact ⟨t2 ++ t, by rw [ht, ht2, List.append_assoc]⟩
    | false =>
      simp only [Bool.false_eq_true, if_false] at hx
      obtain ⟨t, ht⟩ := runD_ext hx
      obtain ⟨t2, ht2⟩ := g h
      exact ⟨t2 ++ t, by rw [ht, ht2, List.append_assoc]⟩
theorem runD_cert {C : Cl} : ∀ {os : List AOper} {e e' : Env} {h h' : Heap} {hs hs' : List Heap}, runD C os e h hs = some (e', h', hs') → RunC C os e e' h h' hs' hs.length
  | [], e, e', h, h', hs, hs', hx => by
    simp only [runD] at hx
    cases hx
    exact ⟨by simp, by simp [cnt], fun _ _ => rfl, fun i o ho => by simp at ho⟩
  | o :: r, e, e', h, h', hs, hs', hx => by
    simp only [runD, Option.bind_eq_some_iff] at hx
    obtain ⟨w, hw, hx⟩ := hx
    -- one step
    have step : ∀ (v : AV) (h1 : Heap), runD C r (setE e o.dst v) h1 (grow o.op h hs) = some (e', h', hs') → (w = true → aop C o.op e h = some (v, h1)) → (w = false → v = .undef ∧ h1 = h) → RunC C (o :: r) e e' h h' hs' hs.length := by
      intro v h1 hx hv1 hv2
      have ih := runD_cert hx
      obtain ⟨t, ht⟩ := runD_ext hx
      have heff : effB o.op = false → h1 = h := fun hq => by
        cases w with
        | true => exact quiet_same hq (hv1 rfl)
        | false => exact (hv2 rfl).2
      have hlen : (grow o.op h hs).length = hs.length + if effB o.op then 1 else 0 := by unfold grow; split <;> simp
      have hfirst : hs'[hs.length]? = some h := by
        rw [ht]
        unfold grow
        split
        · simp
        · rename_i hq
          have hq' : effB o.op = false := by simpa using hq
          have := ih.first
          rw [ht, hlen, hq'] at this
          simp only [grow, hq', Bool.false_eq_true, if_false, Nat.add_zero] at this
          rw [this, heff hq']
      refine ⟨hfirst, ?_, fun t ht => ?_, fun i o' ho => ?_⟩
      · have := ih.last
        rw [hlen] at this
        rw [List.length_cons, cnt_cons, ← Nat.add_assoc]
        exact this
      · simp only [dstsOf, List.filterMap_cons] at ht
        have h1 : t ∉ dstsOf r := by
          cases hd : o.dst with
          | none => simp only [hd] at ht; exact ht
          | some d => simp only [hd, List.mem_cons, not_or] at ht; exact ht.2
        rw [ih.frame t h1]
        refine getE_setE_ne fun x hx => ?_
        rw [hx] at ht
        simp only [List.mem_cons, not_or] at ht
        exact fun hh => ht.1 hh.symm
      · cases i with
        | zero =>
          simp only [List.getElem?_cons_zero, Option.some.injEq] at ho
          subst ho
          refine ⟨e, ⟨fun t ht => ?_, fun _ _ => rfl⟩, w, v, h, h1, hw, by simpa [cnt] using hfirst, ?_, hv1, hv2, fun d hd hn => ?_⟩
          · simp only [List.drop_zero, dstsOf, List.filterMap_cons] at ht
            have h1 : t ∉ dstsOf r := by
              cases hd : o.dst with
              | none => simp only [hd] at ht; exact ht
              | some d => simp only [hd, List.mem_cons, not_or] at ht; exact ht.2
            rw [ih.frame t h1]
            refine getE_setE_ne fun x hx => ?_
            rw [hx] at ht
            simp only [List.mem_cons, not_or] at ht
            exact fun hh => ht.1 hh.symm
          · have := ih.first
            rw [hlen] at this
            rw [show (0 + 1) = 1 from rfl, cnt_cons o r 0]
            simpa [cnt, Nat.add_assoc] using this
          · simp only [List.drop_succ_cons, List.drop_zero] at hn
            rw [ih.frame d hn, hd]
            simp [setE, getE]
        | succ i =>
          rw [List.getElem?_cons_succ] at ho
          obtain ⟨ei, ⟨g1, g1'⟩, w', v', hb, ha, g2, g3, g4, g5, g6, g7⟩ := ih.at_ i o' ho
          refine ⟨ei, ⟨by simpa using g1, fun t ht => ?_⟩, w', v', hb, ha, g2, ?_, ?_, g5, g6, by simpa using g7⟩
          · simp only [List.take_succ_cons, dstsOf, List.filterMap_cons] at ht
            have h1 : t ∉ dstsOf (r.take i) := by
              cases hd : o.dst with
              | none => simp only [hd] at ht; exact ht
              | some d => simp only [hd, List.mem_cons, not_or] at ht; exact ht.2
            rw [g1' t h1]
            refine getE_setE_ne fun x hx => ?_
            rw [hx] at ht
            simp only [List.mem_cons, not_or] at ht
            exact fun hh => ht.1 hh.symm
          · rw [cnt_cons, ← Nat.add_assoc, ← hlen]; exact g3
          · rw [cnt_cons, ← Nat.add_assoc, ← hlen]; exact g4
    cases w with
    | true =>
      simp only [if_true, Option.bind_eq_some_iff, Prod.exists] at hx
      obtain ⟨v, h1, hv, hx⟩ := hx
      exact step v h1 hx (fun _ => hv) (fun hh => by cases hh)
    | false =>
      simp only [Bool.false_eq_true, if_false] at hx
      exact step .undef h hx (fun hh => by cases hh) (fun _ => ⟨rfl, rfl⟩)
end Go.Proofs.Ytpnkldjbiinnpaa.AM
