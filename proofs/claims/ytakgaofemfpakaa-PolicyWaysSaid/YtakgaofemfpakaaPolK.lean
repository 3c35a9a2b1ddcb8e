import Derived.Test.YtakgaofemfpakaaPolJ
set_option maxRecDepth 100000
set_option linter.unusedSimpArgs false
set_option linter.unusedVariables false
namespace Go.Proofs.Ytakgaofemfpakaa.AM
open Go
theorem expF_len {last : Int} (h0 : 0 ≤ last) (h1 : last ≤ 2147483647) {s : List R5} {r : List Int} (hm : ∀ x ∈ s, R5.may x = true) (h : expF s last = some r) : r.length = s.length + 1 := by
  obtain ⟨o, os, rfl, _, _, hl⟩ := expF_props h0 h1 hm h
  simp [hl]
theorem flat_one (n : Nat) (z : AV) : (List.replicate n [z]).flatten = List.replicate n z := by
  induction n with
  | zero => rfl
  | succ n ih => simp [List.replicate_succ, ih]
theorem frz_ms {cs : List AV} (hc : closedL cs = true) : freeze1 true [.cells cs] (.ms 0 0 none cs.length) = some (.slice .full none cs) := by
  simp only [freeze1, msEls, boxAt, List.getElem?_cons_zero, Option.bind_some, kz_none, Nat.mul_one, Nat.zero_add, Nat.le_refl, if_true, chunks, List.drop_zero, List.take_length, if_pos hc, msOwn]
  simp
theorem pexp_ok (l : List R5) (hok : ∀ x ∈ l, R5.ok x) (hn : l.length ≤ 8796093022208) (last : Int) : ∃ v, prun T F19 [.slice .none (some 5) (l.map R5.av), i64 last] = some v ∧ IsExp v (expS l last) := by
  unfold expS
  by_cases hb : last < 0 ∨ last > 2147483647
  · rw [if_pos hb]
    refine ⟨_, ?_, .inl ⟨rfl, rfl⟩⟩
    have c1 : witS last 0 2147483647 = false := by simp [witS]; omega
    simp -implicitDefEqProofs only [F19, call24, c1, un_not, Bool.not_false, Bool.not_true, prun_eq, initE, ax_seq, ax_skip, ax_ret, ax_exit, ax_scope, ax_regK, ax_regQK, ax_condK, ax_blockK, condK_t, condK_f, blkR_normal, blkR_ret, blkR_hit, blkR_miss, norR_eq, norQ_eq, nextR_normal, nextR_ret, nextR_exit, aops_nil, aops_none, aops_some, opsK_some, opsG_tt, opsG_ft, opsG_tf, opsG_ff, aopsQ_nil, aopsQ_none, aopsQ_some, quiK_some, quiG_tt, quiG_ft, quiG_tf, quiG_ff, aop, evO_tmp, evO_cst, getE_hit, getE_miss, setE_some, setE_none, bin_leq, bin_geq, bin_lss, bin_gtr, bin_eql, bin_neq, bin_add, bin_sub, bin_mul, Option.bind_some, Option.map_some, Option.bind_none, Option.map_none, Nat.reduceBEq, Nat.reduceAdd, finish, resOf, tupOf, frz_eq, AM.freeze, freeze1, freezeL, closed, nam, namL, if_true, if_false, Bool.false_eq_true, Bool.true_and, Bool.false_and, Bool.and_true, Bool.and_false, cellsOf, deref, boxAt, ldCells, oneL, oneCell, one, List.length_cons, List.length_nil, List.nil_append, List.cons_append, List.getElem?_cons_zero, List.getElem?_cons_succ, List.drop_zero, List.drop_succ_cons, List.take_succ_cons, List.take_zero, Nat.reduceLeDiff, Nat.le_refl, evL, List.map_cons, List.map_nil, List.append_nil, adopt, bin_quo, bin_rem, rigK_sc, rigK_agg, rigK_tup, fstV_eq, quiet_load, quiet_convStr, quiet_call, rigid, rigidL, trim, List.length_nil, Nat.lt_irrefl, and_false, false_and, Int.reduceEq, decide_true, decide_false, Int.reduceMod, Int.reduceDiv, Int.mul_zero, Int.add_zero, ax_loop, quiet_move, quiet_pick, quiet_build, quiet_nilCheck, quiet_bin, quiet_eqBool, quiet_eqArr, quiet_eqNil, quiet_un, quiet_convInt, quiet_makeFunc, quiet_slice, quiet_toArr, quiet_fieldAddr, quiet_field, quiet_indexAddr, quiet_index, quiet_indexStr, quiet_extract, quiet_len, quiet_lenT, quiet_convSS, quiet_minmax, opsG_undef, quiG_undef]
  · rw [if_neg hb]
    have c1 : witS last 0 2147483647 = true := by simp [witS]; omega
    have k := pscan l hok (by omega) last l 0 [(15, i64 0), (14, i64 l.length), (13, .slice .none (some 5) (l.map R5.av)), (12, .bool false), (11, .bool true), (10, i64 last), (5, i64 0), (4, .nil), (0, .slice .none (some 5) (l.map R5.av)), (1, i64 last)] [] rfl (by simp only [getE_hit, getE_miss, Nat.reduceBEq]) (by simp only [getE_hit, getE_miss, Nat.reduceBEq]) (by simp only [getE_hit, getE_miss, Nat.reduceBEq]) (by simp only [getE_hit, getE_miss, Nat.reduceBEq]) (by simp only [getE_hit, getE_miss, Nat.reduceBEq]; rfl)
    obtain ⟨k1, k6⟩ := k
    rw [Option.map_eq_some_iff] at k1
    obtain ⟨y, k1, k2⟩ := k1
    rw [Option.map_eq_some_iff] at k1
    obtain ⟨⟨x, e', h'⟩, k1, rfl⟩ := k1
    cases ha : l.all R5.may
    · rw [ha] at k2
      simp only [Bool.false_eq_true, if_false, selT, Prod.mk.injEq] at k2
      obtain ⟨rfl, k3⟩ := k2
      simp only [Prod.mk.injEq] at k3
      obtain ⟨k3, k4⟩ := k3
      refine ⟨_, ?_, .inl ⟨rfl, rfl⟩⟩
      simp -implicitDefEqProofs only [F19, call24, c1, k1, k3, k4, un_not, Bool.not_false, Bool.not_true, lenOf, List.length_map, prun_eq, initE, ax_seq, ax_skip, ax_ret, ax_exit, ax_scope, ax_regK, ax_regQK, ax_condK, ax_blockK, condK_t, condK_f, blkR_normal, blkR_ret, blkR_hit, blkR_miss, norR_eq, norQ_eq, nextR_normal, nextR_ret, nextR_exit, aops_nil, aops_none, aops_some, opsK_some, opsG_tt, opsG_ft, opsG_tf, opsG_ff, aopsQ_nil, aopsQ_none, aopsQ_some, quiK_some, quiG_tt, quiG_ft, quiG_tf, quiG_ff, aop, evO_tmp, evO_cst, getE_hit, getE_miss, setE_some, setE_none, bin_leq, bin_geq, bin_lss, bin_gtr, bin_eql, bin_neq, bin_add, bin_sub, bin_mul, Option.bind_some, Option.map_some, Option.bind_none, Option.map_none, Nat.reduceBEq, Nat.reduceAdd, finish, resOf, tupOf, frz_eq, AM.freeze, freeze1, freezeL, closed, nam, namL, if_true, if_false, Bool.false_eq_true, Bool.true_and, Bool.false_and, Bool.and_true, Bool.and_false, cellsOf, deref, boxAt, ldCells, oneL, oneCell, one, List.length_cons, List.length_nil, List.nil_append, List.cons_append, List.getElem?_cons_zero, List.getElem?_cons_succ, List.drop_zero, List.drop_succ_cons, List.take_succ_cons, List.take_zero, Nat.reduceLeDiff, Nat.le_refl, evL, List.map_cons, List.map_nil, List.append_nil, adopt, bin_quo, bin_rem, rigK_sc, rigK_agg, rigK_tup, fstV_eq, quiet_load, quiet_convStr, quiet_call, rigid, rigidL, trim, List.length_nil, Nat.lt_irrefl, and_false, false_and, Int.reduceEq, decide_true, decide_false, Int.reduceMod, Int.reduceDiv, Int.mul_zero, Int.add_zero, ax_loop, quiet_move, quiet_pick, quiet_build, quiet_nilCheck, quiet_bin, quiet_eqBool, quiet_eqArr, quiet_eqNil, quiet_un, quiet_convInt, quiet_makeFunc, quiet_slice, quiet_toArr, quiet_fieldAddr, quiet_field, quiet_indexAddr, quiet_index, quiet_indexStr, quiet_extract, quiet_len, quiet_lenT, quiet_convSS, quiet_minmax, opsG_undef, quiG_undef]
    · have k7 := k6 ha
      rw [ha] at k2
      rw [k1] at k7
      simp only [if_true, selT, Prod.mk.injEq, Option.map_some, Option.some.injEq] at k2 k7
      obtain ⟨rfl, k3⟩ := k2
      simp only [Prod.mk.injEq] at k3
      obtain ⟨k3, k4⟩ := k3
      subst k7
      have w2 : IntKind.i64.wrap ((l.length : Int) - 1) = (l.length : Int) - 1 := IntWalk.i64_in _ ⟨by omega, by omega⟩
      have w3 : IntKind.i64.wrap ((l.length : Int) + 1) = ((l.length + 1 : Nat) : Int) := by rw [IntWalk.i64_in _ ⟨by omega, by omega⟩]; rfl
      have hmay : ∀ x ∈ l, R5.may x = true := by simpa using ha
      have b1 : ((l.length + 1 : Nat) : Int) * ((8 : Nat) : Int) ≤ 281474976710656 := by omega
      have b2 : ((l.length + 1 : Nat) : Int) ≤ 9223372036854775807 := by omega
      have b3 : ¬ ((l.length + 1 : Nat) : Int) = 0 := by omega
      have b4 : (l.length : Int) < ((l.length + 1 : Nat) : Int) := by omega
      have b5 : l.length + 1 ≤ l.length + 1 := Nat.le_refl _
      have hset : (List.replicate (l.length + 1) (i64 0)).set l.length (i64 last) = List.replicate l.length (i64 0) ++ [last].map i64 := by
        rw [List.replicate_succ', List.set_append_right _ _ (by simp)]
        simp
      have q2 := pexp l hmay hn (last := last) (by omega) (by omega) l.length [last] ((9, i64 ((l.length : Int) - 1)) :: (34, i64 ((l.length : Int) - 1)) :: (33, i64 l.length) :: (32, .slice .none (some 5) (l.map R5.av)) :: (31, .ptr 0 l.length) :: (30, i64 last) :: (29, i64 l.length) :: (28, .slice .none (some 5) (l.map R5.av)) :: (27, .ms 0 0 none (l.length + 1)) :: (8, .ms 0 0 none (l.length + 1)) :: (26, .ms 0 0 none (l.length + 1)) :: (25, i64 ((l.length + 1 : Nat) : Int)) :: (24, i64 l.length) :: (23, .slice .none (some 5) (l.map R5.av)) :: e') _ (Nat.le_refl _) (by simp [expF]) rfl (by simp only [getE_hit, getE_miss, Nat.reduceBEq, k3]) (by simp only [getE_hit, getE_miss, Nat.reduceBEq]) (by simp only [getE_hit, getE_miss, Nat.reduceBEq])
      rw [Option.map_eq_some_iff] at q2
      obtain ⟨⟨x2, e2, h2⟩, q2, q3⟩ := q2
      simp only [List.map_cons, List.map_nil] at q2 hset
      simp -implicitDefEqProofs only [F19, call24, c1, k1, k3, k4, un_not, Bool.not_false, Bool.not_true, lenOf, List.length_map, w2, w3, b1, b2, b3, b4, b5, flat_one, Int.le_refl, Int.natCast_nonneg, Int.toNat_natCast, and_self, true_and, kz_none, Nat.mul_one, Nat.zero_add, asI, storeB, setAt, List.length_replicate, hset, List.set_cons_zero, q2, prun_eq, initE, ax_seq, ax_skip, ax_ret, ax_exit, ax_scope, ax_regK, ax_regQK, ax_condK, ax_blockK, condK_t, condK_f, blkR_normal, blkR_ret, blkR_hit, blkR_miss, norR_eq, norQ_eq, nextR_normal, nextR_ret, nextR_exit, aops_nil, aops_none, aops_some, opsK_some, opsG_tt, opsG_ft, opsG_tf, opsG_ff, aopsQ_nil, aopsQ_none, aopsQ_some, quiK_some, quiG_tt, quiG_ft, quiG_tf, quiG_ff, aop, evO_tmp, evO_cst, getE_hit, getE_miss, setE_some, setE_none, bin_leq, bin_geq, bin_lss, bin_gtr, bin_eql, bin_neq, bin_add, bin_sub, bin_mul, Option.bind_some, Option.map_some, Option.bind_none, Option.map_none, Nat.reduceBEq, Nat.reduceAdd, finish, resOf, tupOf, frz_eq, AM.freeze, freeze1, freezeL, closed, nam, namL, if_true, if_false, Bool.false_eq_true, Bool.true_and, Bool.false_and, Bool.and_true, Bool.and_false, cellsOf, deref, boxAt, ldCells, oneL, oneCell, one, List.length_cons, List.length_nil, List.nil_append, List.cons_append, List.getElem?_cons_zero, List.getElem?_cons_succ, List.drop_zero, List.drop_succ_cons, List.take_succ_cons, List.take_zero, Nat.reduceLeDiff, Nat.le_refl, evL, List.map_cons, List.map_nil, List.append_nil, adopt, bin_quo, bin_rem, rigK_sc, rigK_agg, rigK_tup, fstV_eq, quiet_load, quiet_convStr, quiet_call, rigid, rigidL, trim, List.length_nil, Nat.lt_irrefl, and_false, false_and, Int.reduceEq, decide_true, decide_false, Int.reduceMod, Int.reduceDiv, Int.mul_zero, Int.add_zero, ax_loop, quiet_move, quiet_pick, quiet_build, quiet_nilCheck, quiet_bin, quiet_eqBool, quiet_eqArr, quiet_eqNil, quiet_un, quiet_convInt, quiet_makeFunc, quiet_slice, quiet_toArr, quiet_fieldAddr, quiet_field, quiet_indexAddr, quiet_index, quiet_indexStr, quiet_extract, quiet_len, quiet_lenT, quiet_convSS, quiet_minmax, opsG_undef, quiG_undef]
      cases hx : expF l last with
      | none =>
        rw [hx] at q3
        simp only [selV, Prod.mk.injEq] at q3
        obtain ⟨rfl, q3⟩ := q3
        simp only [Prod.mk.injEq] at q3
        refine ⟨_, ?_, .inl ⟨rfl, rfl⟩⟩
        simp -implicitDefEqProofs only [q3.1.1, q3.1.2, prun_eq, initE, ax_seq, ax_skip, ax_ret, ax_exit, ax_scope, ax_regK, ax_regQK, ax_condK, ax_blockK, condK_t, condK_f, blkR_normal, blkR_ret, blkR_hit, blkR_miss, norR_eq, norQ_eq, nextR_normal, nextR_ret, nextR_exit, aops_nil, aops_none, aops_some, opsK_some, opsG_tt, opsG_ft, opsG_tf, opsG_ff, aopsQ_nil, aopsQ_none, aopsQ_some, quiK_some, quiG_tt, quiG_ft, quiG_tf, quiG_ff, aop, evO_tmp, evO_cst, getE_hit, getE_miss, setE_some, setE_none, bin_leq, bin_geq, bin_lss, bin_gtr, bin_eql, bin_neq, bin_add, bin_sub, bin_mul, Option.bind_some, Option.map_some, Option.bind_none, Option.map_none, Nat.reduceBEq, Nat.reduceAdd, finish, resOf, tupOf, frz_eq, AM.freeze, freeze1, freezeL, closed, nam, namL, if_true, if_false, Bool.false_eq_true, Bool.true_and, Bool.false_and, Bool.and_true, Bool.and_false, cellsOf, deref, boxAt, ldCells, oneL, oneCell, one, List.length_cons, List.length_nil, List.nil_append, List.cons_append, List.getElem?_cons_zero, List.getElem?_cons_succ, List.drop_zero, List.drop_succ_cons, List.take_succ_cons, List.take_zero, Nat.reduceLeDiff, Nat.le_refl, evL, List.map_cons, List.map_nil, List.append_nil, adopt, bin_quo, bin_rem, rigK_sc, rigK_agg, rigK_tup, fstV_eq, quiet_load, quiet_convStr, quiet_call, rigid, rigidL, trim, List.length_nil, Nat.lt_irrefl, and_false, false_and, Int.reduceEq, decide_true, decide_false, Int.reduceMod, Int.reduceDiv, Int.mul_zero, Int.add_zero, ax_loop, quiet_move, quiet_pick, quiet_build, quiet_nilCheck, quiet_bin, quiet_eqBool, quiet_eqArr, quiet_eqNil, quiet_un, quiet_convInt, quiet_makeFunc, quiet_slice, quiet_toArr, quiet_fieldAddr, quiet_field, quiet_indexAddr, quiet_index, quiet_indexStr, quiet_extract, quiet_len, quiet_lenT, quiet_convSS, quiet_minmax, opsG_undef, quiG_undef]
      | some r =>
        rw [hx] at q3
        simp only [selV, Prod.mk.injEq] at q3
        obtain ⟨rfl, q3⟩ := q3
        simp only [Prod.mk.injEq] at q3
        obtain ⟨⟨q4, _⟩, q5⟩ := q3
        subst q5
        have hr : l.length + 1 = (r.map i64).length := by rw [List.length_map, expF_len (by omega) (by omega) hmay hx]
        rw [hr] at q4
        refine ⟨_, ?_, .inr ⟨r, .full, rfl, .inl rfl, rfl⟩⟩
        simp -implicitDefEqProofs only [q4, frz_ms (i64_closed r), frz_int, prun_eq, initE, ax_seq, ax_skip, ax_ret, ax_exit, ax_scope, ax_regK, ax_regQK, ax_condK, ax_blockK, condK_t, condK_f, blkR_normal, blkR_ret, blkR_hit, blkR_miss, norR_eq, norQ_eq, nextR_normal, nextR_ret, nextR_exit, aops_nil, aops_none, aops_some, opsK_some, opsG_tt, opsG_ft, opsG_tf, opsG_ff, aopsQ_nil, aopsQ_none, aopsQ_some, quiK_some, quiG_tt, quiG_ft, quiG_tf, quiG_ff, aop, evO_tmp, evO_cst, getE_hit, getE_miss, setE_some, setE_none, bin_leq, bin_geq, bin_lss, bin_gtr, bin_eql, bin_neq, bin_add, bin_sub, bin_mul, Option.bind_some, Option.map_some, Option.bind_none, Option.map_none, Nat.reduceBEq, Nat.reduceAdd, finish, resOf, tupOf, frz_eq, AM.freeze, freezeL, closed, nam, namL, if_true, if_false, Bool.false_eq_true, Bool.true_and, Bool.false_and, Bool.and_true, Bool.and_false, cellsOf, deref, boxAt, ldCells, oneL, oneCell, one, List.length_cons, List.length_nil, List.nil_append, List.cons_append, List.getElem?_cons_zero, List.getElem?_cons_succ, List.drop_zero, List.drop_succ_cons, List.take_succ_cons, List.take_zero, Nat.reduceLeDiff, Nat.le_refl, evL, List.map_cons, List.map_nil, List.append_nil, adopt, bin_quo, bin_rem, rigK_sc, rigK_agg, rigK_tup, fstV_eq, quiet_load, quiet_convStr, quiet_call, rigid, rigidL, trim, List.length_nil, Nat.lt_irrefl, and_false, false_and, Int.reduceEq, decide_true, decide_false, Int.reduceMod, Int.reduceDiv, Int.mul_zero, Int.add_zero, ax_loop, quiet_move, quiet_pick, quiet_build, quiet_nilCheck, quiet_bin, quiet_eqBool, quiet_eqArr, quiet_eqNil, quiet_un, quiet_convInt, quiet_makeFunc, quiet_slice, quiet_toArr, quiet_fieldAddr, quiet_field, quiet_indexAddr, quiet_index, quiet_indexStr, quiet_extract, quiet_len, quiet_lenT, quiet_convSS, quiet_minmax, opsG_undef, quiG_undef]
end Go.Proofs.Ytakgaofemfpakaa.AM
