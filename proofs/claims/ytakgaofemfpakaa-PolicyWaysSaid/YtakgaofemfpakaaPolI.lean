import Derived.Test.YtakgaofemfpakaaPolH
set_option maxRecDepth 100000
set_option linter.unusedSimpArgs false
set_option linter.unusedVariables false
namespace Go.Proofs.Ytakgaofemfpakaa.AM
open Go
theorem expF_props {last : Int} (h0 : 0 ≤ last) (h1 : last ≤ 2147483647) : ∀ {s : List R5} {outs : List Int}, (∀ x ∈ s, R5.may x = true) → expF s last = some outs → ∃ o os, outs = o :: os ∧ 0 ≤ o ∧ o ≤ 2147483647 ∧ os.length = s.length
  | [], outs, _, h => by simp only [expF] at h; cases h; exact ⟨last, [], rfl, h0, h1, rfl⟩
  | x :: s, outs, hm, h => by
    simp only [expF] at h
    split at h
    · rename_i o os hq
      obtain ⟨o', os', he, g0, g1, gl⟩ := expF_props h0 h1 (fun y hy => hm y (List.mem_cons_of_mem _ hy)) hq
      cases he
      split at h
      · cases h
      · cases h
        have := (mayR_iff _ _ _ _ _).1 (hm x List.mem_cons_self)
        exact ⟨_, _, rfl, by omega, by omega, by simp [gl]⟩
    · cases h
theorem expF_none {last : Int} : ∀ (l : List R5) (j : Nat), expF (l.drop j) last = none → expF l last = none
  | l, 0, h => by simpa using h
  | [], j + 1, h => by simpa using h
  | x :: l, j + 1, h => by
    have := expF_none l j (by simpa using h)
    simp only [expF, this]
def noOwn : AV → AV | .slice _ k els => .slice .none k els | x => x
def selU (r : Res) : AX × AV × AV := (r.1, match r.1 with | .ret => (getE r.2.1 4, getE r.2.1 5) | _ => (noOwn (getE r.2.1 7), .unk))
theorem selU_ret (e : Env) (h : Heap) : selU (.ret, e, h) = (.ret, getE e 4, getE e 5) := rfl
theorem selU_exit (i : Nat) (e : Env) (h : Heap) : selU (.exit i, e, h) = (.exit i, noOwn (getE e 7), .unk) := rfl
theorem rexp (l : List R5) (hmay : ∀ x ∈ l, R5.may x = true) (hn : l.length ≤ 8796093022208) {last : Int} (l0 : 0 ≤ last) (l1 : last ≤ 2147483647) (m : Nat) : ∀ (j : Nat) (outs : List Int) (own : AOwn) (e : Env) (h : Heap), j ≤ l.length → expF (l.drop j) last = some outs → getE e 0 = .slice .none (some 5) (l.map R5.av) → getE e 7 = .slice own none (outs.map i64) → getE e 8 = i64 ((j : Int) - 1) →
    (axl T [0, 7, 8] false L20_0 m e h).map selU = some (match expF l last with | some r => (.exit 2, .slice .none none (r.map i64), .unk) | none => (.ret, .nil, i64 20))
  | 0, outs, own, e, h, hj, hx, h0, h7, h8 => by
    rw [List.drop_zero] at hx
    have c1 : decide ((0 : Int) ≤ ((0 : Nat) : Int) - 1) = false := by decide
    rw [axl_eq, trim_keep, hx]
    simp -implicitDefEqProofs only [L20_0, h0, h7, h8, c1, selU_exit, noOwn, prun_eq, initE, ax_seq, ax_skip, ax_ret, ax_exit, ax_scope, ax_regK, ax_regQK, ax_condK, ax_blockK, condK_t, condK_f, blkR_normal, blkR_ret, blkR_hit, blkR_miss, norR_eq, norQ_eq, nextR_normal, nextR_ret, nextR_exit, aops_nil, aops_none, aops_some, opsK_some, opsG_tt, opsG_ft, opsG_tf, opsG_ff, aopsQ_nil, aopsQ_none, aopsQ_some, quiK_some, quiG_tt, quiG_ft, quiG_tf, quiG_ff, aop, evO_tmp, evO_cst, getE_hit, getE_miss, setE_some, setE_none, bin_leq, bin_geq, bin_lss, bin_gtr, bin_eql, bin_neq, bin_add, bin_sub, bin_mul, Option.bind_some, Option.map_some, Option.bind_none, Option.map_none, Nat.reduceBEq, Nat.reduceAdd, finish, resOf, tupOf, frz_eq, AM.freeze, freeze1, freezeL, closed, nam, namL, if_true, if_false, Bool.false_eq_true, Bool.true_and, Bool.false_and, Bool.and_true, Bool.and_false, cellsOf, deref, boxAt, ldCells, oneL, oneCell, one, List.length_cons, List.length_nil, List.nil_append, List.cons_append, List.getElem?_cons_zero, List.getElem?_cons_succ, List.drop_zero, List.drop_succ_cons, List.take_succ_cons, List.take_zero, Nat.reduceLeDiff, Nat.le_refl, evL, List.map_cons, List.map_nil, List.append_nil, adopt, bin_quo, bin_rem, rigK_sc, rigK_agg, rigK_tup, fstV_eq, quiet_load, quiet_convStr, quiet_call, rigid, rigidL, trim, List.length_nil, Nat.lt_irrefl, and_false, false_and, Int.reduceEq, decide_true, decide_false, Int.reduceMod, Int.reduceDiv, Int.mul_zero, Int.add_zero, ax_loop, quiet_move, quiet_pick, quiet_build, quiet_nilCheck, quiet_bin, quiet_eqBool, quiet_eqArr, quiet_eqNil, quiet_un, quiet_convInt, quiet_makeFunc, quiet_slice, quiet_toArr, quiet_fieldAddr, quiet_field, quiet_indexAddr, quiet_index, quiet_indexStr, quiet_extract, quiet_len, quiet_lenT, quiet_convSS, quiet_minmax, opsG_undef, quiG_undef]
  | j + 1, outs, own, e, h, hj, hx, h0, h7, h8 => by
    have hlt : j < l.length := by omega
    have hg : l[j]? = some l[j] := List.getElem?_eq_getElem hlt
    have hmj := hmay l[j] (List.mem_of_getElem? hg)
    have hd := (mayR_iff _ _ _ _ _).1 hmj
    have hav : (l.map R5.av)[j]? = some (rulesA l[j].b l[j].r l[j].d l[j].g l[j].f) := by rw [List.getElem?_map, hg]; rfl
    obtain ⟨o, os, rfl, o0, o1, ol⟩ := expF_props l0 l1 (fun x hx => hmay x (List.mem_of_mem_drop hx)) hx
    have hstep : expF (l.drop j) last = if o + l[j].d > 2147483647 then none else some ((o + l[j].d) :: o :: os) := by
      rw [List.drop_eq_getElem_cons hlt, expF, hx]
    have e1 : (((j + 1 : Nat) : Int) - 1) = (j : Int) := by omega
    rw [e1] at h8
    have c1 : decide ((0 : Int) ≤ (j : Int)) = true := decide_eq_true (by omega)
    have w1 : IntKind.i64.wrap (o + l[j].d) = o + l[j].d := IntWalk.i64_in _ ⟨by omega, by omega⟩
    have w2 : IntKind.i64.wrap ((j : Int) - 1) = (j : Int) - 1 := IntWalk.i64_in _ ⟨by omega, by omega⟩
    rw [axl_eq, trim_keep]
    by_cases hbig : o + l[j].d > 2147483647
    · have c2 : decide (2147483647 < o + l[j].d) = true := decide_eq_true hbig
      rw [if_pos hbig] at hstep
      rw [expF_none l j hstep]
      simp -implicitDefEqProofs only [L20_0, h0, h7, h8, c1, c2, w1, w2, hav, asI, elCells, List.map_cons, Int.natCast_nonneg, Int.toNat_natCast, and_self, true_and, List.getElem?_drop, selU_ret, Int.reduceToNat, Nat.le_refl, Int.reduceLE, prun_eq, initE, ax_seq, ax_skip, ax_ret, ax_exit, ax_scope, ax_regK, ax_regQK, ax_condK, ax_blockK, condK_t, condK_f, blkR_normal, blkR_ret, blkR_hit, blkR_miss, norR_eq, norQ_eq, nextR_normal, nextR_ret, nextR_exit, aops_nil, aops_none, aops_some, opsK_some, opsG_tt, opsG_ft, opsG_tf, opsG_ff, aopsQ_nil, aopsQ_none, aopsQ_some, quiK_some, quiG_tt, quiG_ft, quiG_tf, quiG_ff, aop, evO_tmp, evO_cst, getE_hit, getE_miss, setE_some, setE_none, bin_leq, bin_geq, bin_lss, bin_gtr, bin_eql, bin_neq, bin_add, bin_sub, bin_mul, Option.bind_some, Option.map_some, Option.bind_none, Option.map_none, Nat.reduceBEq, Nat.reduceAdd, finish, resOf, tupOf, frz_eq, AM.freeze, freeze1, freezeL, closed, nam, namL, if_true, if_false, Bool.false_eq_true, Bool.true_and, Bool.false_and, Bool.and_true, Bool.and_false, cellsOf, deref, boxAt, ldCells, oneL, oneCell, one, List.length_cons, List.length_nil, List.nil_append, List.cons_append, List.getElem?_cons_zero, List.getElem?_cons_succ, List.drop_zero, List.drop_succ_cons, List.take_succ_cons, List.take_zero, Nat.reduceLeDiff, Nat.le_refl, evL, List.map_cons, List.map_nil, List.append_nil, adopt, bin_quo, bin_rem, rigK_sc, rigK_agg, rigK_tup, fstV_eq, quiet_load, quiet_convStr, quiet_call, rigid, rigidL, trim, List.length_nil, Nat.lt_irrefl, and_false, false_and, Int.reduceEq, decide_true, decide_false, Int.reduceMod, Int.reduceDiv, Int.mul_zero, Int.add_zero, ax_loop, quiet_move, quiet_pick, quiet_build, quiet_nilCheck, quiet_bin, quiet_eqBool, quiet_eqArr, quiet_eqNil, quiet_un, quiet_convInt, quiet_makeFunc, quiet_slice, quiet_toArr, quiet_fieldAddr, quiet_field, quiet_indexAddr, quiet_index, quiet_indexStr, quiet_extract, quiet_len, quiet_lenT, quiet_convSS, quiet_minmax, opsG_undef, quiG_undef]
    · have c2 : decide (2147483647 < o + l[j].d) = false := decide_eq_false hbig
      rw [if_neg hbig] at hstep
      have hfit : fitsB (1 + (os.length + 1)) 8 = true := by
        simp only [fitsB, decide_eq_true_eq]
        rw [ol, List.length_drop]
        omega
      have ih := rexp l hmay hn l0 l1 m j ((o + l[j].d) :: o :: os)
      generalize hK : axl T [0, 7, 8] false L20_0 m = K at *
      simp -implicitDefEqProofs only [L20_0, h0, h7, h8, c1, c2, w1, w2, hav, asI, elCells, List.map_cons, Int.natCast_nonneg, Int.toNat_natCast, and_self, true_and, List.getElem?_drop, Int.reduceToNat, Nat.le_refl, map_bind, setEls, elFits, stripEl, strip, List.replicate_succ, List.replicate_zero, List.set_cons_zero, elemsOf, aappend, hfit, beq_self_eq_true, Nat.zero_lt_succ, List.length_map, Int.reduceLE, prun_eq, initE, ax_seq, ax_skip, ax_ret, ax_exit, ax_scope, ax_regK, ax_regQK, ax_condK, ax_blockK, condK_t, condK_f, blkR_normal, blkR_ret, blkR_hit, blkR_miss, norR_eq, norQ_eq, nextR_normal, nextR_ret, nextR_exit, aops_nil, aops_none, aops_some, opsK_some, opsG_tt, opsG_ft, opsG_tf, opsG_ff, aopsQ_nil, aopsQ_none, aopsQ_some, quiK_some, quiG_tt, quiG_ft, quiG_tf, quiG_ff, aop, evO_tmp, evO_cst, getE_hit, getE_miss, setE_some, setE_none, bin_leq, bin_geq, bin_lss, bin_gtr, bin_eql, bin_neq, bin_add, bin_sub, bin_mul, Option.bind_some, Option.map_some, Option.bind_none, Option.map_none, Nat.reduceBEq, Nat.reduceAdd, finish, resOf, tupOf, frz_eq, AM.freeze, freeze1, freezeL, closed, nam, namL, if_true, if_false, Bool.false_eq_true, Bool.true_and, Bool.false_and, Bool.and_true, Bool.and_false, cellsOf, deref, boxAt, ldCells, oneL, oneCell, one, List.length_cons, List.length_nil, List.nil_append, List.cons_append, List.getElem?_cons_zero, List.getElem?_cons_succ, List.drop_zero, List.drop_succ_cons, List.take_succ_cons, List.take_zero, Nat.reduceLeDiff, Nat.le_refl, evL, List.map_cons, List.map_nil, List.append_nil, adopt, bin_quo, bin_rem, rigK_sc, rigK_agg, rigK_tup, fstV_eq, quiet_load, quiet_convStr, quiet_call, rigid, rigidL, trim, List.length_nil, Nat.lt_irrefl, and_false, false_and, Int.reduceEq, decide_true, decide_false, Int.reduceMod, Int.reduceDiv, Int.mul_zero, Int.add_zero, ax_loop, quiet_move, quiet_pick, quiet_build, quiet_nilCheck, quiet_bin, quiet_eqBool, quiet_eqArr, quiet_eqNil, quiet_un, quiet_convInt, quiet_makeFunc, quiet_slice, quiet_toArr, quiet_fieldAddr, quiet_field, quiet_indexAddr, quiet_index, quiet_indexStr, quiet_extract, quiet_len, quiet_lenT, quiet_convSS, quiet_minmax, opsG_undef, quiG_undef]
      exact ih (.tok h.length) _ _ (by omega) hstep (by simp only [getE_hit, getE_miss, Nat.reduceBEq]) (by simp only [getE_hit, getE_miss, Nat.reduceBEq, List.map_cons]) (by simp only [getE_hit, getE_miss, Nat.reduceBEq])
theorem i64_closed : ∀ (l : List Int), closedL (l.map i64) = true
  | [] => rfl
  | x :: l => by
    have := i64_closed l
    simp only [closedL, List.map_cons, namL, nam, Bool.true_and] at this ⊢
    exact this
/-- what is handed back of a slice -/
theorem frz_slice {k : Option Nat} {els : List AV} (hc : closedL els = true) (h : Heap) (o : AOwn) : ∃ o', freeze1 true h (.slice o k els) = some (.slice o' k els) ∧ (o' = .full ∨ o' = .fresh ∨ o' = .none) := by
  cases o with
  | none => exact ⟨.none, by simp [freeze1, closed, nam]; exact hc, .inr (.inr rfl)⟩
  | full => exact ⟨.full, by simp [freeze1, closed, nam]; exact hc, .inl rfl⟩
  | fresh => exact ⟨.none, by simp only [freeze1, if_pos hc], .inr (.inr rfl)⟩
  | tok i =>
    simp only [freeze1, if_pos hc, if_true]
    split
    · split
      · split
        · exact ⟨.fresh, rfl, .inr (.inl rfl)⟩
        · exact ⟨.none, rfl, .inr (.inr rfl)⟩
      · exact ⟨.none, rfl, .inr (.inr rfl)⟩
    · exact ⟨.none, rfl, .inr (.inr rfl)⟩
theorem frz_int (b : Bool) (h : Heap) (k : IntKind) (x : Int) : freeze1 b h (.int k x) = some (.int k x) := by simp [freeze1, closed, nam]
/-- the answer of Expiries -/
def expS (l : List R5) (last : Int) : Option (List Int) × Int := if last < 0 ∨ last > 2147483647 then (none, 1) else if l.all R5.may then (match expF l last with | some r => (some r, 0) | none => (none, 20)) else (none, 1)
def IsExp (v : AV) (p : Option (List Int) × Int) : Prop := (p.1 = none ∧ v = .tup [.nil, i64 p.2]) ∨ ∃ r o, p.1 = some r ∧ (o = .full ∨ o = .fresh ∨ o = .none) ∧ v = .tup [.slice o none (r.map i64), i64 p.2]
theorem noOwn_inv {v : AV} {k : Option Nat} {els : List AV} (h : noOwn v = .slice .none k els) : ∃ o, v = .slice o k els := by
  unfold noOwn at h
  split at h
  · cases h; exact ⟨_, rfl⟩
  · subst h; exact ⟨.none, rfl⟩
theorem rexp_ok (l : List R5) (hn : l.length ≤ 8796093022208) (last : Int) : ∃ v, prun T F20 [.slice .none (some 5) (l.map R5.av), i64 last] = some v ∧ IsExp v (expS l last) := by
  unfold expS
  by_cases hb : last < 0 ∨ last > 2147483647
  · rw [if_pos hb]
    refine ⟨_, ?_, .inl ⟨rfl, rfl⟩⟩
    cases c1 : decide (last < 0)
    · have c2 : decide (2147483647 < last) = true := decide_eq_true (by have := of_decide_eq_false c1; omega)
      simp -implicitDefEqProofs only [F20, c1, c2, prun_eq, initE, ax_seq, ax_skip, ax_ret, ax_exit, ax_scope, ax_regK, ax_regQK, ax_condK, ax_blockK, condK_t, condK_f, blkR_normal, blkR_ret, blkR_hit, blkR_miss, norR_eq, norQ_eq, nextR_normal, nextR_ret, nextR_exit, aops_nil, aops_none, aops_some, opsK_some, opsG_tt, opsG_ft, opsG_tf, opsG_ff, aopsQ_nil, aopsQ_none, aopsQ_some, quiK_some, quiG_tt, quiG_ft, quiG_tf, quiG_ff, aop, evO_tmp, evO_cst, getE_hit, getE_miss, setE_some, setE_none, bin_leq, bin_geq, bin_lss, bin_gtr, bin_eql, bin_neq, bin_add, bin_sub, bin_mul, Option.bind_some, Option.map_some, Option.bind_none, Option.map_none, Nat.reduceBEq, Nat.reduceAdd, finish, resOf, tupOf, frz_eq, AM.freeze, freeze1, freezeL, closed, nam, namL, if_true, if_false, Bool.false_eq_true, Bool.true_and, Bool.false_and, Bool.and_true, Bool.and_false, cellsOf, deref, boxAt, ldCells, oneL, oneCell, one, List.length_cons, List.length_nil, List.nil_append, List.cons_append, List.getElem?_cons_zero, List.getElem?_cons_succ, List.drop_zero, List.drop_succ_cons, List.take_succ_cons, List.take_zero, Nat.reduceLeDiff, Nat.le_refl, evL, List.map_cons, List.map_nil, List.append_nil, adopt, bin_quo, bin_rem, rigK_sc, rigK_agg, rigK_tup, fstV_eq, quiet_load, quiet_convStr, quiet_call, rigid, rigidL, trim, List.length_nil, Nat.lt_irrefl, and_false, false_and, Int.reduceEq, decide_true, decide_false, Int.reduceMod, Int.reduceDiv, Int.mul_zero, Int.add_zero, ax_loop, quiet_move, quiet_pick, quiet_build, quiet_nilCheck, quiet_bin, quiet_eqBool, quiet_eqArr, quiet_eqNil, quiet_un, quiet_convInt, quiet_makeFunc, quiet_slice, quiet_toArr, quiet_fieldAddr, quiet_field, quiet_indexAddr, quiet_index, quiet_indexStr, quiet_extract, quiet_len, quiet_lenT, quiet_convSS, quiet_minmax, opsG_undef, quiG_undef]
    · simp -implicitDefEqProofs only [F20, c1, prun_eq, initE, ax_seq, ax_skip, ax_ret, ax_exit, ax_scope, ax_regK, ax_regQK, ax_condK, ax_blockK, condK_t, condK_f, blkR_normal, blkR_ret, blkR_hit, blkR_miss, norR_eq, norQ_eq, nextR_normal, nextR_ret, nextR_exit, aops_nil, aops_none, aops_some, opsK_some, opsG_tt, opsG_ft, opsG_tf, opsG_ff, aopsQ_nil, aopsQ_none, aopsQ_some, quiK_some, quiG_tt, quiG_ft, quiG_tf, quiG_ff, aop, evO_tmp, evO_cst, getE_hit, getE_miss, setE_some, setE_none, bin_leq, bin_geq, bin_lss, bin_gtr, bin_eql, bin_neq, bin_add, bin_sub, bin_mul, Option.bind_some, Option.map_some, Option.bind_none, Option.map_none, Nat.reduceBEq, Nat.reduceAdd, finish, resOf, tupOf, frz_eq, AM.freeze, freeze1, freezeL, closed, nam, namL, if_true, if_false, Bool.false_eq_true, Bool.true_and, Bool.false_and, Bool.and_true, Bool.and_false, cellsOf, deref, boxAt, ldCells, oneL, oneCell, one, List.length_cons, List.length_nil, List.nil_append, List.cons_append, List.getElem?_cons_zero, List.getElem?_cons_succ, List.drop_zero, List.drop_succ_cons, List.take_succ_cons, List.take_zero, Nat.reduceLeDiff, Nat.le_refl, evL, List.map_cons, List.map_nil, List.append_nil, adopt, bin_quo, bin_rem, rigK_sc, rigK_agg, rigK_tup, fstV_eq, quiet_load, quiet_convStr, quiet_call, rigid, rigidL, trim, List.length_nil, Nat.lt_irrefl, and_false, false_and, Int.reduceEq, decide_true, decide_false, Int.reduceMod, Int.reduceDiv, Int.mul_zero, Int.add_zero, ax_loop, quiet_move, quiet_pick, quiet_build, quiet_nilCheck, quiet_bin, quiet_eqBool, quiet_eqArr, quiet_eqNil, quiet_un, quiet_convInt, quiet_makeFunc, quiet_slice, quiet_toArr, quiet_fieldAddr, quiet_field, quiet_indexAddr, quiet_index, quiet_indexStr, quiet_extract, quiet_len, quiet_lenT, quiet_convSS, quiet_minmax, opsG_undef, quiG_undef]
  · rw [if_neg hb]
    have c1 : decide (last < 0) = false := decide_eq_false (by omega)
    have c2 : decide (2147483647 < last) = false := decide_eq_false (by omega)
    have k1 := rscan l (by omega) last l 0 [(6, i64 0), (15, .bool false), (14, .bool false), (13, i64 last), (12, .bool false), (11, .bool false), (10, i64 last), (5, i64 0), (4, .nil), (0, .slice .none (some 5) (l.map R5.av)), (1, i64 last)] [] rfl (by simp only [getE_hit, getE_miss, Nat.reduceBEq]) (by simp only [getE_hit, getE_miss, Nat.reduceBEq]) (by simp only [getE_hit, getE_miss, Nat.reduceBEq]; rfl)
    rw [Option.map_eq_some_iff] at k1
    obtain ⟨⟨x, e', h'⟩, k1, k2⟩ := k1
    cases ha : l.all R5.may
    · rw [ha] at k2
      simp only [Bool.false_eq_true, if_false, selT, Prod.mk.injEq] at k2
      obtain ⟨rfl, k3, k5⟩ := k2
      simp only [Prod.mk.injEq] at k3
      obtain ⟨k3, k4⟩ := k3
      refine ⟨_, ?_, .inl ⟨rfl, rfl⟩⟩
      simp -implicitDefEqProofs only [F20, c1, c2, k1, k3, k4, prun_eq, initE, ax_seq, ax_skip, ax_ret, ax_exit, ax_scope, ax_regK, ax_regQK, ax_condK, ax_blockK, condK_t, condK_f, blkR_normal, blkR_ret, blkR_hit, blkR_miss, norR_eq, norQ_eq, nextR_normal, nextR_ret, nextR_exit, aops_nil, aops_none, aops_some, opsK_some, opsG_tt, opsG_ft, opsG_tf, opsG_ff, aopsQ_nil, aopsQ_none, aopsQ_some, quiK_some, quiG_tt, quiG_ft, quiG_tf, quiG_ff, aop, evO_tmp, evO_cst, getE_hit, getE_miss, setE_some, setE_none, bin_leq, bin_geq, bin_lss, bin_gtr, bin_eql, bin_neq, bin_add, bin_sub, bin_mul, Option.bind_some, Option.map_some, Option.bind_none, Option.map_none, Nat.reduceBEq, Nat.reduceAdd, finish, resOf, tupOf, frz_eq, AM.freeze, freeze1, freezeL, closed, nam, namL, if_true, if_false, Bool.false_eq_true, Bool.true_and, Bool.false_and, Bool.and_true, Bool.and_false, cellsOf, deref, boxAt, ldCells, oneL, oneCell, one, List.length_cons, List.length_nil, List.nil_append, List.cons_append, List.getElem?_cons_zero, List.getElem?_cons_succ, List.drop_zero, List.drop_succ_cons, List.take_succ_cons, List.take_zero, Nat.reduceLeDiff, Nat.le_refl, evL, List.map_cons, List.map_nil, List.append_nil, adopt, bin_quo, bin_rem, rigK_sc, rigK_agg, rigK_tup, fstV_eq, quiet_load, quiet_convStr, quiet_call, rigid, rigidL, trim, List.length_nil, Nat.lt_irrefl, and_false, false_and, Int.reduceEq, decide_true, decide_false, Int.reduceMod, Int.reduceDiv, Int.mul_zero, Int.add_zero, ax_loop, quiet_move, quiet_pick, quiet_build, quiet_nilCheck, quiet_bin, quiet_eqBool, quiet_eqArr, quiet_eqNil, quiet_un, quiet_convInt, quiet_makeFunc, quiet_slice, quiet_toArr, quiet_fieldAddr, quiet_field, quiet_indexAddr, quiet_index, quiet_indexStr, quiet_extract, quiet_len, quiet_lenT, quiet_convSS, quiet_minmax, opsG_undef, quiG_undef]
    · rw [ha] at k2
      simp only [if_true, selT, Prod.mk.injEq] at k2
      obtain ⟨rfl, k3, k5⟩ := k2
      simp only [Prod.mk.injEq] at k3 k5
      obtain ⟨k3, k4⟩ := k3
      subst k5
      have w2 : IntKind.i64.wrap ((l.length : Int) - 1) = (l.length : Int) - 1 := IntWalk.i64_in _ ⟨by omega, by omega⟩
      have hmay : ∀ x ∈ l, R5.may x = true := by simpa using ha
      have q1 := fun e h h0 h7 h8 => rexp l hmay hn (last := last) (by omega) (by omega) 0 l.length [last] .full e h (Nat.le_refl _) (by simp [expF]) h0 h7 h8
      have q2 := q1 ((8, i64 ((l.length : Int) - 1)) :: (32, i64 ((l.length : Int) - 1)) :: (31, i64 l.length) :: (30, .slice .none (some 5) (l.map R5.av)) :: (7, .slice .full none [i64 last]) :: (29, .slice .full none [i64 last]) :: (28, i64 last) :: e') [] (by simp only [getE_hit, getE_miss, Nat.reduceBEq, k3]) (by simp only [getE_hit, getE_miss, Nat.reduceBEq]; rfl) (by simp only [getE_hit, getE_miss, Nat.reduceBEq])
      rw [Option.map_eq_some_iff] at q2
      obtain ⟨⟨x2, e2, h2⟩, q2, q3⟩ := q2
      simp -implicitDefEqProofs only [F20, c1, c2, k1, k3, k4, lenOf, List.length_map, w2, setEls, elFits, stripEl, strip, List.replicate_succ, List.replicate_zero, List.set_cons_zero, beq_self_eq_true, Nat.zero_lt_succ, and_self, q2, prun_eq, initE, ax_seq, ax_skip, ax_ret, ax_exit, ax_scope, ax_regK, ax_regQK, ax_condK, ax_blockK, condK_t, condK_f, blkR_normal, blkR_ret, blkR_hit, blkR_miss, norR_eq, norQ_eq, nextR_normal, nextR_ret, nextR_exit, aops_nil, aops_none, aops_some, opsK_some, opsG_tt, opsG_ft, opsG_tf, opsG_ff, aopsQ_nil, aopsQ_none, aopsQ_some, quiK_some, quiG_tt, quiG_ft, quiG_tf, quiG_ff, aop, evO_tmp, evO_cst, getE_hit, getE_miss, setE_some, setE_none, bin_leq, bin_geq, bin_lss, bin_gtr, bin_eql, bin_neq, bin_add, bin_sub, bin_mul, Option.bind_some, Option.map_some, Option.bind_none, Option.map_none, Nat.reduceBEq, Nat.reduceAdd, finish, resOf, tupOf, frz_eq, AM.freeze, freeze1, freezeL, closed, nam, namL, if_true, if_false, Bool.false_eq_true, Bool.true_and, Bool.false_and, Bool.and_true, Bool.and_false, cellsOf, deref, boxAt, ldCells, oneL, oneCell, one, List.length_cons, List.length_nil, List.nil_append, List.cons_append, List.getElem?_cons_zero, List.getElem?_cons_succ, List.drop_zero, List.drop_succ_cons, List.take_succ_cons, List.take_zero, Nat.reduceLeDiff, Nat.le_refl, evL, List.map_cons, List.map_nil, List.append_nil, adopt, bin_quo, bin_rem, rigK_sc, rigK_agg, rigK_tup, fstV_eq, quiet_load, quiet_convStr, quiet_call, rigid, rigidL, trim, List.length_nil, Nat.lt_irrefl, and_false, false_and, Int.reduceEq, decide_true, decide_false, Int.reduceMod, Int.reduceDiv, Int.mul_zero, Int.add_zero, ax_loop, quiet_move, quiet_pick, quiet_build, quiet_nilCheck, quiet_bin, quiet_eqBool, quiet_eqArr, quiet_eqNil, quiet_un, quiet_convInt, quiet_makeFunc, quiet_slice, quiet_toArr, quiet_fieldAddr, quiet_field, quiet_indexAddr, quiet_index, quiet_indexStr, quiet_extract, quiet_len, quiet_lenT, quiet_convSS, quiet_minmax, opsG_undef, quiG_undef]
      cases hx : expF l last with
      | none =>
        rw [hx] at q3
        simp only [selU, Prod.mk.injEq] at q3
        obtain ⟨rfl, q3⟩ := q3
        simp only [Prod.mk.injEq] at q3
        refine ⟨_, ?_, .inl ⟨rfl, rfl⟩⟩
        simp -implicitDefEqProofs only [q3.1, q3.2, prun_eq, initE, ax_seq, ax_skip, ax_ret, ax_exit, ax_scope, ax_regK, ax_regQK, ax_condK, ax_blockK, condK_t, condK_f, blkR_normal, blkR_ret, blkR_hit, blkR_miss, norR_eq, norQ_eq, nextR_normal, nextR_ret, nextR_exit, aops_nil, aops_none, aops_some, opsK_some, opsG_tt, opsG_ft, opsG_tf, opsG_ff, aopsQ_nil, aopsQ_none, aopsQ_some, quiK_some, quiG_tt, quiG_ft, quiG_tf, quiG_ff, aop, evO_tmp, evO_cst, getE_hit, getE_miss, setE_some, setE_none, bin_leq, bin_geq, bin_lss, bin_gtr, bin_eql, bin_neq, bin_add, bin_sub, bin_mul, Option.bind_some, Option.map_some, Option.bind_none, Option.map_none, Nat.reduceBEq, Nat.reduceAdd, finish, resOf, tupOf, frz_eq, AM.freeze, freeze1, freezeL, closed, nam, namL, if_true, if_false, Bool.false_eq_true, Bool.true_and, Bool.false_and, Bool.and_true, Bool.and_false, cellsOf, deref, boxAt, ldCells, oneL, oneCell, one, List.length_cons, List.length_nil, List.nil_append, List.cons_append, List.getElem?_cons_zero, List.getElem?_cons_succ, List.drop_zero, List.drop_succ_cons, List.take_succ_cons, List.take_zero, Nat.reduceLeDiff, Nat.le_refl, evL, List.map_cons, List.map_nil, List.append_nil, adopt, bin_quo, bin_rem, rigK_sc, rigK_agg, rigK_tup, fstV_eq, quiet_load, quiet_convStr, quiet_call, rigid, rigidL, trim, List.length_nil, Nat.lt_irrefl, and_false, false_and, Int.reduceEq, decide_true, decide_false, Int.reduceMod, Int.reduceDiv, Int.mul_zero, Int.add_zero, ax_loop, quiet_move, quiet_pick, quiet_build, quiet_nilCheck, quiet_bin, quiet_eqBool, quiet_eqArr, quiet_eqNil, quiet_un, quiet_convInt, quiet_makeFunc, quiet_slice, quiet_toArr, quiet_fieldAddr, quiet_field, quiet_indexAddr, quiet_index, quiet_indexStr, quiet_extract, quiet_len, quiet_lenT, quiet_convSS, quiet_minmax, opsG_undef, quiG_undef]
      | some r =>
        rw [hx] at q3
        simp only [selU, Prod.mk.injEq] at q3
        obtain ⟨rfl, q3⟩ := q3
        simp only [Prod.mk.injEq] at q3
        obtain ⟨o, q4⟩ := noOwn_inv q3.1
        obtain ⟨o', q5, q6⟩ := frz_slice (k := none) (i64_closed r) h2 o
        refine ⟨_, ?_, .inr ⟨r, o', rfl, q6, rfl⟩⟩
        simp -implicitDefEqProofs only [q4, q5, frz_int, prun_eq, initE, ax_seq, ax_skip, ax_ret, ax_exit, ax_scope, ax_regK, ax_regQK, ax_condK, ax_blockK, condK_t, condK_f, blkR_normal, blkR_ret, blkR_hit, blkR_miss, norR_eq, norQ_eq, nextR_normal, nextR_ret, nextR_exit, aops_nil, aops_none, aops_some, opsK_some, opsG_tt, opsG_ft, opsG_tf, opsG_ff, aopsQ_nil, aopsQ_none, aopsQ_some, quiK_some, quiG_tt, quiG_ft, quiG_tf, quiG_ff, aop, evO_tmp, evO_cst, getE_hit, getE_miss, setE_some, setE_none, bin_leq, bin_geq, bin_lss, bin_gtr, bin_eql, bin_neq, bin_add, bin_sub, bin_mul, Option.bind_some, Option.map_some, Option.bind_none, Option.map_none, Nat.reduceBEq, Nat.reduceAdd, finish, resOf, tupOf, frz_eq, AM.freeze, freezeL, closed, nam, namL, if_true, if_false, Bool.false_eq_true, Bool.true_and, Bool.false_and, Bool.and_true, Bool.and_false, cellsOf, deref, boxAt, ldCells, oneL, oneCell, one, List.length_cons, List.length_nil, List.nil_append, List.cons_append, List.getElem?_cons_zero, List.getElem?_cons_succ, List.drop_zero, List.drop_succ_cons, List.take_succ_cons, List.take_zero, Nat.reduceLeDiff, Nat.le_refl, evL, List.map_cons, List.map_nil, List.append_nil, adopt, bin_quo, bin_rem, rigK_sc, rigK_agg, rigK_tup, fstV_eq, quiet_load, quiet_convStr, quiet_call, rigid, rigidL, trim, List.length_nil, Nat.lt_irrefl, and_false, false_and, Int.reduceEq, decide_true, decide_false, Int.reduceMod, Int.reduceDiv, Int.mul_zero, Int.add_zero, ax_loop, quiet_move, quiet_pick, quiet_build, quiet_nilCheck, quiet_bin, quiet_eqBool, quiet_eqArr, quiet_eqNil, quiet_un, quiet_convInt, quiet_makeFunc, quiet_slice, quiet_toArr, quiet_fieldAddr, quiet_field, quiet_indexAddr, quiet_index, quiet_indexStr, quiet_extract, quiet_len, quiet_lenT, quiet_convSS, quiet_minmax, opsG_undef, quiG_undef]
end Go.Proofs.Ytakgaofemfpakaa.AM
