import Derived.Test.YtpnkldjbiinnpaaBzG
/- bigsize's streams: plain laws. -/
namespace Go.Proofs.Ytpnkldjbiinnpaa.AM
open Go
set_option linter.unusedSimpArgs false
set_option linter.unusedVariables false
theorem be_cons (c : Int) (l : List Int) : be (c :: l) = c * 256 ^ l.length + be l := by
  have key : ∀ (l : List Int) (x : Int), l.foldl (fun x c => x * 256 + c) x = x * 256 ^ l.length + l.foldl (fun x c => x * 256 + c) 0 := by
    intro l
    induction l with
    | nil => intro x; simp
    | cons d l ih =>
      intro x
      rw [List.foldl_cons, List.foldl_cons, ih, ih (0 * 256 + d), List.length_cons, Int.pow_succ, Int.add_mul, Int.zero_mul, Int.zero_add, Int.mul_assoc, Int.mul_comm 256]
      omega
  unfold be
  rw [List.foldl_cons, key, Int.zero_mul, Int.zero_add]
theorem tailS_add (n : Nat) : ∀ (c y : Int), tailS n (c * 256 ^ n + y) = tailS n y ∧ ∀ m, n ≤ m → tailS n (c * 256 ^ m + y) = tailS n y := by
  induction n with
  | zero => intro c y; exact ⟨rfl, fun m _ => rfl⟩
  | succ n ih =>
    intro c y
    have h : ∀ m, n + 1 ≤ m → tailS (n + 1) (c * 256 ^ m + y) = tailS (n + 1) y := by
      intro m hm
      obtain ⟨d, rfl⟩ : ∃ d, m = d + (n + 1) := ⟨m - (n + 1), by omega⟩
      have e : c * 256 ^ (d + (n + 1)) = (c * 256 ^ d * 256) * 256 ^ n := by
        rw [Int.pow_add, Int.pow_succ, Int.mul_comm (256 ^ n) 256, ← Int.mul_assoc, ← Int.mul_assoc]
      have hpos : (256 : Int) ^ n ≠ 0 := Int.ne_of_gt (Int.pow_pos (by omega))
      rw [tail_snoc, tail_snoc, e, Int.add_comm, Int.add_mul_ediv_right _ _ hpos, Int.add_mul_emod_self_right]
      congr 1
      rw [Int.add_comm]
      exact (ih (c * 256 ^ d * 256) y).1
    exact ⟨h _ (Nat.le_refl _), h⟩
theorem tailS_be : ∀ (l : List Int), Bytes l → tailS l.length (be l) = l
  | [], _ => rfl
  | c :: l, h => by
    have hc := h c List.mem_cons_self
    have hl : Bytes l := fun x hx => h x (List.mem_cons_of_mem _ hx)
    have hb := be_bound l hl
    have hpos : (256 : Int) ^ l.length ≠ 0 := Int.ne_of_gt (Int.pow_pos (by omega))
    rw [be_cons, List.length_cons, tail_snoc, (tailS_add l.length c (be l)).1, tailS_be l hl, Int.add_comm, Int.add_mul_ediv_right _ _ hpos, Int.ediv_eq_zero_of_lt hb.1 hb.2, Int.zero_add, Int.emod_eq_of_lt hc.1 (by omega)]
/-- what is read is the number's one form -/
theorem num_readS {l : List Int} (h : Bytes l) {x n : Int} (hr : readS l = (x, n, 0)) : l = numS x ++ l.drop n.toNat ∧ n.toNat = (numS x).length := by
  cases l with
  | nil => simp [readS] at hr
  | cons b r =>
    have hbb := h b List.mem_cons_self
    have hrr : Bytes r := fun y hy => h y (List.mem_cons_of_mem _ hy)
    rw [readS_cons] at hr
    split at hr
    · rename_i hlt
      simp only [Prod.mk.injEq] at hr
      obtain ⟨rfl, rfl, _⟩ := hr
      have : numS b = [b] := by unfold numS; rw [if_pos hlt]
      rw [this]; exact ⟨rfl, rfl⟩
    · rename_i hge
      split at hr
      · cases hr
      · rename_i hlen
        split at hr
        · rename_i hsz
          cases hr
          have htl : (r.take (wideS b)).length = wideS b := by rw [List.length_take]; omega
          have hte := tailS_be (r.take (wideS b)) (take_bytes hrr _)
          rw [htl] at hte
          have hn : numS (be (r.take (wideS b))) = b :: r.take (wideS b) := by
            generalize hx : be (r.take (wideS b)) = x at *
            have hw : b = 253 ∧ wideS b = 2 ∨ b = 254 ∧ wideS b = 4 ∨ b = 255 ∧ wideS b = 8 := by
              unfold wideS
              split
              · exact .inl ⟨by assumption, rfl⟩
              · split
                · exact .inr (.inl ⟨by assumption, rfl⟩)
                · exact .inr (.inr ⟨by omega, rfl⟩)
            unfold sizeS at hsz
            unfold numS
            rcases hw with ⟨hb1, hw⟩ | ⟨hb1, hw⟩ | ⟨hb1, hw⟩ <;> rw [hw] at hsz hte <;> subst hb1
            · split at hsz
              · omega
              · split at hsz
                · rw [if_neg (by assumption), if_pos (by assumption), hte, hw]
                · split at hsz <;> omega
            · split at hsz
              · omega
              · split at hsz
                · omega
                · split at hsz
                  · rw [if_neg (by assumption), if_neg (by assumption), if_pos (by assumption), hte, hw]
                  · omega
            · split at hsz
              · omega
              · split at hsz
                · omega
                · split at hsz
                  · omega
                  · rw [if_neg (by assumption), if_neg (by assumption), if_neg (by assumption), hte, hw]
          rw [hn]
          have e : ((wideS b : Int) + 1).toNat = wideS b + 1 := by omega
          rw [e]
          exact ⟨by simp, by rw [List.length_cons, htl]⟩
        · cases hr
theorem flatS_snoc (l : List Rc) (r : Rc) : flatS (l ++ [r]) = flatS l ++ recS r := by
  unfold flatS; rw [List.flatMap_append, List.flatMap_singleton]
theorem asc_snoc {acc : List Rc} {r : Rc} (ha : ascB acc = true) (ht : topB acc r.t = true) : ascB (acc ++ [r]) = true := by
  refine ascB_of fun i hi => ?_
  rw [List.length_append, List.length_singleton] at hi
  by_cases h : i + 1 < acc.length
  · rw [List.getElem_append_left (by omega), List.getElem_append_left h]
    exact ascB_at h ha
  · have e : i + 1 = acc.length := by omega
    have ht' := top_at (acc := acc) (x := r.t) (by omega)
    rw [ht] at ht'
    have := of_decide_eq_true ht'.symm
    rw [List.getElem_append_left (by omega), List.getElem_append_right (by omega)]
    simp only [e, Nat.sub_self, List.getElem_singleton]
    have e2 : acc.length - 1 = i := by omega
    simp only [e2] at this
    exact this
theorem dec_back (ks : List Int) : ∀ (f : Nat) (acc : List Rc) (s : List Int) (l : List Rc), Bytes s → decL ks f acc s = (l, 0) → ascB acc = true → acc.length + f ≤ 64 → (∀ r ∈ acc, Rc.ok r) → ascB l = true ∧ l.length ≤ 64 ∧ flatS l = flatS acc ++ s ∧ ∀ r ∈ l, Rc.ok r
  | f, acc, [], l, hs, hd, ha, hf, hok => by
    rw [decL_nil] at hd
    cases hd
    exact ⟨ha, by omega, by rw [List.append_nil], hok⟩
  | 0, acc, c :: s, l, hs, hd, ha, hf, hok => by
    rw [decL_full _ _ _ (by simp)] at hd
    cases hd
  | f + 1, acc, c :: s', l, hs, hd, ha, hf, hok => by
    generalize hsd : c :: s' = s at *
    have hne : s ≠ [] := by rw [← hsd]; simp
    obtain ⟨x, n, e1, hr1⟩ : ∃ x n e1, readS s = (x, n, e1) := ⟨_, _, _, rfl⟩
    obtain ⟨s1, hs1⟩ : ∃ s1, s.drop n.toNat = s1 := ⟨_, rfl⟩
    obtain ⟨y, m, e2, hr2⟩ : ∃ x n e1, readS s1 = (x, n, e1) := ⟨_, _, _, rfl⟩
    obtain ⟨s2, hs2⟩ : ∃ s2, s1.drop m.toNat = s2 := ⟨_, rfl⟩
    have hb1 : Bytes s1 := hs1 ▸ drop_bytes hs _
    have hb2 : Bytes s2 := hs2 ▸ drop_bytes hb1 _
    have hf1 := readS_fine s hs
    have hf2 := readS_fine s1 hb1
    rw [hr1] at hf1
    rw [hr2] at hf2
    simp only at hf1 hf2
    rw [decL_step ks f acc s hne x n e1 y m e2 s1 s2 hr1 hs1 hr2 hs2] at hd
    split at hd
    · rename_i h; cases hd; exact absurd rfl h
    · rename_i he1
      split at hd
      · cases hd
      · rename_i htop
        split at hd
        · rename_i h; cases hd; exact absurd rfl h
        · rename_i he2
          split at hd
          · cases hd
          · rename_i hlen
            split at hd
            · cases hd
            · have he1 : e1 = 0 := by omega
              have he2 : e2 = 0 := by omega
              subst he1
              subst he2
              have ht : topB acc x = true := by simpa using htop
              have hvl : ((s2.take y.toNat).length : Int) = y := by rw [List.length_take]; omega
              have hrec := dec_back ks f (acc ++ [⟨x, s2.take y.toNat⟩]) (s2.drop y.toNat) l (drop_bytes hb2 _) hd (asc_snoc ha ht) (by rw [List.length_append, List.length_singleton]; omega) (by
                intro r hr
                rcases List.mem_append.1 hr with h | h
                · exact hok r h
                · rw [List.mem_singleton] at h
                  subst h
                  exact ⟨hf1.1, take_bytes hb2 _⟩)
              refine ⟨hrec.1, hrec.2.1, ?_, hrec.2.2.2⟩
              rw [hrec.2.2.1, flatS_snoc]
              have q1 := (num_readS hs hr1).1
              have q2 := (num_readS hb1 hr2).1
              rw [hs1] at q1
              rw [hs2] at q2
              unfold recS
              simp only [hvl]
              rw [List.append_assoc, List.append_assoc, List.append_assoc, List.take_append_drop, ← q2, ← q1]
theorem decodes_law (ks b : List Int) (hb : Bytes b) (h : (decS ks b).2 = 0) : encS (decS ks b).1 = (b, 0) ∧ (flatS (decS ks b).1).length ≤ 65536 ∧ (decS ks b).1.length ≤ 64 ∧ ∀ r ∈ (decS ks b).1, Rc.ok r := by
  unfold decS at h ⊢
  split at h
  · cases h
  · rename_i hl
    rw [if_neg hl]
    have := dec_back ks 64 [] b (decL ks 64 [] b).1 hb (by rw [← h]) rfl (by simp) (by simp)
    obtain ⟨q1, q2, q3, q4⟩ := this
    have q3 : flatS (decL ks 64 [] b).1 = b := q3
    refine ⟨?_, by rw [q3]; omega, q2, q4⟩
    rw [encS_ok q1 ⟨q2, by rw [q3]; omega⟩, q3]
end Go.Proofs.Ytpnkldjbiinnpaa.AM
