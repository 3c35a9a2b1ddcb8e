import Derived.Test.YtpnkldjbiinnpaaBzM
/- layer 01: what is encoded is decoded again. -/
namespace Go.Proofs.Ytpnkldjbiinnpaa.AM
open Go
set_option maxRecDepth 100000
set_option maxHeartbeats 4000000
set_option linter.unusedSimpArgs false
set_option linter.unusedVariables false
theorem flatS_cons (r : Rc) (l : List Rc) : flatS (r :: l) = recS r ++ flatS l := by unfold flatS; rw [List.flatMap_cons]
theorem numS_pos (x : Int) : 0 < (numS x).length := by
  have := numS_len x
  have := sizeS_pos x
  omega
theorem dec_fwd (ks : List Int) : ∀ (l acc : List Rc) (f : Nat), l.length ≤ f → ascB (acc ++ l) = true → (∀ r ∈ l, Rc.ok r) → (∀ r ∈ l, r.t % 2 = 0 → r.t ∈ ks) → (flatS l).length ≤ 65536 → decL ks f acc (flatS l) = (acc ++ l, 0)
  | [], acc, f, _, _, _, _, _ => by rw [show flatS [] = [] from rfl, decL_nil, List.append_nil]
  | r :: l, acc, f, hf, ha, hok, hev, hB => by
    obtain ⟨f, rfl⟩ : ∃ g, f = g + 1 := ⟨f - 1, by rw [List.length_cons] at hf; omega⟩
    have hr := hok r List.mem_cons_self
    obtain ⟨⟨t0, t1⟩, hv⟩ := hr
    have hfl := flatS_cons r l
    have hlen : (flatS (r :: l)).length = (numS r.t).length + (numS r.v.length).length + r.v.length + (flatS l).length := by
      rw [hfl]; unfold recS; simp only [List.length_append]
    have hp := numS_pos r.t
    have e0 : flatS (r :: l) = numS r.t ++ (numS r.v.length ++ (r.v ++ flatS l)) := by rw [hfl]; unfold recS; simp only [List.append_assoc]
    have hr1 := readS_num r.t t0 t1 (numS r.v.length ++ (r.v ++ flatS l))
    have hr2 := readS_num r.v.length (by omega) (by omega) (r.v ++ flatS l)
    rw [e0, decL_step ks f acc _ (by intro h; have := congrArg List.length h; simp only [List.length_append, List.length_nil] at this; omega) _ _ _ _ _ _ _ (r.v ++ flatS l) hr1 (by rw [Int.toNat_natCast, List.drop_left]) hr2 (by rw [Int.toNat_natCast, List.drop_left])]
    have ht : topB acc r.t = true := by
      unfold topB
      cases hg : acc.getLast? with
      | none => rfl
      | some q =>
        have hne : acc ≠ [] := by intro h; rw [h] at hg; cases hg
        have hpos : 0 < acc.length := List.length_pos_iff.2 hne
        have := ascB_at (l := acc ++ r :: l) (i := acc.length - 1) (by rw [List.length_append, List.length_cons]; omega) ha
        rw [List.getElem_append_left (by omega), List.getElem_append_right (by omega)] at this
        rw [List.getLast?_eq_getElem?, List.getElem?_eq_getElem (by omega)] at hg
        cases hg
        have e2 : acc.length - 1 + 1 - acc.length = 0 := by omega
        simp only [e2, List.getElem_cons_zero] at this
        exact decide_eq_true this
    rw [if_neg (by simp), if_neg (by rw [ht]; decide), if_neg (by simp), if_neg (by rw [List.length_append]; omega), if_neg (fun hh => hh.2 (hev r List.mem_cons_self hh.1)), Int.toNat_natCast, List.take_left, List.drop_left, dec_fwd ks l (acc ++ [r]) f (by rw [List.length_cons] at hf; omega) (by rw [List.append_assoc]; exact ha) (fun q hq => hok q (List.mem_cons_of_mem _ hq)) (fun q hq => hev q (List.mem_cons_of_mem _ hq)) (by omega)]
    rw [List.append_assoc]; rfl
theorem dec_enc (ks : List Int) (l : List Rc) (hok : ∀ r ∈ l, Rc.ok r) (hev : ∀ r ∈ l, r.t % 2 = 0 → r.t ∈ ks) (s : List Int) (h : encS l = (s, 0)) : decS ks s = (l, 0) := by
  unfold encS at h
  split at h
  · rename_i ha
    split at h
    · rename_i hl
      cases h
      unfold decS
      rw [if_neg (by omega)]
      have := dec_fwd ks l [] 64 hl.1 ha hok hev hl.2
      rw [List.nil_append] at this
      exact this
    · cases h
  · cases h
end Go.Proofs.Ytpnkldjbiinnpaa.AM
