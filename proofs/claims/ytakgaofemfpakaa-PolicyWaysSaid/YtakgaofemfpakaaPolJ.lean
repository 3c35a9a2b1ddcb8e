import Derived.Test.YtakgaofemfpakaaPolI
set_option maxRecDepth 100000
set_option linter.unusedSimpArgs false
set_option linter.unusedVariables false
namespace Go.Proofs.Ytakgaofemfpakaa.AM
open Go
theorem trim_one (keep : List Nat) (gc : Bool) (e : Env) (x : AObj) : trim keep gc 1 e [x] = some (keep.map fun t => (t, getE e t), [x]) := by simp [trim]
def selV (r : Res) : AX × (AV × AV) × Heap := (r.1, match r.1 with | .ret => ((getE r.2.1 4, getE r.2.1 5), []) | _ => ((getE r.2.1 8, .unk), r.2.2))
theorem selV_ret (e : Env) (h : Heap) : selV (.ret, e, h) = (.ret, (getE e 4, getE e 5), []) := rfl
theorem selV_exit (i : Nat) (e : Env) (h : Heap) : selV (.exit i, e, h) = (.exit i, (getE e 8, .unk), h) := rfl
theorem kz_none : kz none = 1 := rfl
theorem pexp (l : List R5) (hmay : ∀ x ∈ l, R5.may x = true) (hn : l.length ≤ 8796093022208) {last : Int} (l0 : 0 ≤ last) (l1 : last ≤ 2147483647) : ∀ (j : Nat) (outs : List Int) (e : Env) (cells : List AV), j ≤ l.length → expF (l.drop j) last = some outs → cells = List.replicate j (i64 0) ++ outs.map i64 → getE e 0 = .slice .none (some 5) (l.map R5.av) → getE e 8 = .ms 0 0 none (l.length + 1) → getE e 9 = i64 ((j : Int) - 1) →
    (axl T [0, 8, 9] true L19_0 1 e [.cells cells]).map selV = some (match expF l last with | some r => (.exit 2, (.ms 0 0 none (l.length + 1), .unk), [.cells (r.map i64)]) | none => (.ret, (.nil, i64 20), []))
  | 0, outs, e, cells, hj, hx, hc, h0, h8, h9 => by
    rw [List.drop_zero] at hx
    have c1 : decide ((0 : Int) ≤ ((0 : Nat) : Int) - 1) = false := by decide
    subst hc
    rw [axl_eq, trim_one, hx]
    simp -implicitDefEqProofs only [L19_0, h0, h8, h9, c1, selV_exit, List.replicate_zero, prun_eq, initE, ax_seq, ax_skip, ax_ret, ax_exit, ax_scope, ax_regK, ax_regQK, ax_condK, ax_blockK, condK_t, condK_f, blkR_normal, blkR_ret, blkR_hit, blkR_miss, norR_eq, norQ_eq, nextR_normal, nextR_ret, nextR_exit, aops_nil, aops_none, aops_some, opsK_some, opsG_tt, opsG_ft, opsG_tf, opsG_ff, aopsQ_nil, aopsQ_none, aopsQ_some, quiK_some, quiG_tt, quiG_ft, quiG_tf, quiG_ff, aop, evO_tmp, evO_cst, getE_hit, getE_miss, setE_some, setE_none, bin_leq, bin_geq, bin_lss, bin_gtr, bin_eql, bin_neq, bin_add, bin_sub, bin_mul, Option.bind_some, Option.map_some, Option.bind_none, Option.map_none, Nat.reduceBEq, Nat.reduceAdd, finish, resOf, tupOf, frz_eq, AM.freeze, freeze1, freezeL, closed, nam, namL, if_true, if_false, Bool.false_eq_true, Bool.true_and, Bool.false_and, Bool.and_true, Bool.and_false, cellsOf, deref, boxAt, ldCells, oneL, oneCell, one, List.length_cons, List.length_nil, List.nil_append, List.cons_append, List.getElem?_cons_zero, List.getElem?_cons_succ, List.drop_zero, List.drop_succ_cons, List.take_succ_cons, List.take_zero, Nat.reduceLeDiff, Nat.le_refl, evL, List.map_cons, List.map_nil, List.append_nil, adopt, bin_quo, bin_rem, rigK_sc, rigK_agg, rigK_tup, fstV_eq, quiet_load, quiet_convStr, quiet_call, rigid, rigidL, trim, List.length_nil, Nat.lt_irrefl, and_false, false_and, Int.reduceEq, decide_true, decide_false, Int.reduceMod, Int.reduceDiv, Int.mul_zero, Int.add_zero, ax_loop, quiet_move, quiet_pick, quiet_build, quiet_nilCheck, quiet_bin, quiet_eqBool, quiet_eqArr, quiet_eqNil, quiet_un, quiet_convInt, quiet_makeFunc, quiet_slice, quiet_toArr, quiet_fieldAddr, quiet_field, quiet_indexAddr, quiet_index, quiet_indexStr, quiet_extract, quiet_len, quiet_lenT, quiet_convSS, quiet_minmax, opsG_undef, quiG_undef]
  | j + 1, outs, e, cells, hj, hx, hc, h0, h8, h9 => by
    have hlt : j < l.length := by omega
    have hg : l[j]? = some l[j] := List.getElem?_eq_getElem hlt
    have hmj := hmay l[j] (List.mem_of_getElem? hg)
    have hd := (mayR_iff _ _ _ _ _).1 hmj
    have hav : (l.map R5.av)[j]? = some (rulesA l[j].b l[j].r l[j].d l[j].g l[j].f) := by rw [List.getElem?_map, hg]; rfl
    obtain ⟨o, os, rfl, o0, o1, ol⟩ := expF_props l0 l1 (fun x hx => hmay x (List.mem_of_mem_drop hx)) hx
    have hstep : expF (l.drop j) last = if o + l[j].d > 2147483647 then none else some ((o + l[j].d) :: o :: os) := by
      rw [List.drop_eq_getElem_cons hlt, expF, hx]
    have e1 : (((j + 1 : Nat) : Int) - 1) = (j : Int) := by omega
    rw [e1] at h9
    have c1 : decide ((0 : Int) ≤ (j : Int)) = true := decide_eq_true (by omega)
    have w1 : IntKind.i64.wrap (o + l[j].d) = o + l[j].d := IntWalk.i64_in _ ⟨by omega, by omega⟩
    have w2 : IntKind.i64.wrap ((j : Int) - 1) = (j : Int) - 1 := IntWalk.i64_in _ ⟨by omega, by omega⟩
    have w3 : IntKind.i64.wrap ((j : Int) + 1) = ((j + 1 : Nat) : Int) := by rw [IntWalk.i64_in _ ⟨by omega, by omega⟩]; rfl
    have hlen : cells.length = l.length + 1 := by rw [hc]; simp [ol]; omega
    have g1 : cells[j + 1]? = some (i64 o) := by rw [hc, List.getElem?_append_right (by simp)]; simp
    have hset : cells.set j (i64 (o + l[j].d)) = List.replicate j (i64 0) ++ ((o + l[j].d) :: o :: os).map i64 := by
      rw [hc, List.replicate_succ', List.append_assoc, List.set_append_right _ _ (by simp)]
      simp
    have g2 : (cells.set j (i64 (o + l[j].d)))[j]? = some (i64 (o + l[j].d)) := by rw [List.getElem?_set_self (by omega)]
    have b1 : ((j + 1 : Nat) : Int) < ((l.length + 1 : Nat) : Int) := by omega
    have b2 : (j : Int) < ((l.length + 1 : Nat) : Int) := by omega
    have b3 : j + 1 ≤ l.length + 1 := by omega
    rw [axl_eq, trim_one]
    by_cases hbig : o + l[j].d > 2147483647
    · have c2 : decide (2147483647 < o + l[j].d) = true := decide_eq_true hbig
      rw [if_pos hbig] at hstep
      rw [expF_none l j hstep]
      simp -implicitDefEqProofs only [L19_0, h0, h8, h9, c1, c2, w1, w2, w3, hav, asI, elCells, g1, g2, hlen, b1, b2, b3, kz_none, Nat.mul_one, Nat.zero_add, storeB, setAt, List.set_cons_zero, Int.natCast_nonneg, Int.toNat_natCast, and_self, true_and, List.getElem?_drop, selV_ret, Nat.add_zero, prun_eq, initE, ax_seq, ax_skip, ax_ret, ax_exit, ax_scope, ax_regK, ax_regQK, ax_condK, ax_blockK, condK_t, condK_f, blkR_normal, blkR_ret, blkR_hit, blkR_miss, norR_eq, norQ_eq, nextR_normal, nextR_ret, nextR_exit, aops_nil, aops_none, aops_some, opsK_some, opsG_tt, opsG_ft, opsG_tf, opsG_ff, aopsQ_nil, aopsQ_none, aopsQ_some, quiK_some, quiG_tt, quiG_ft, quiG_tf, quiG_ff, aop, evO_tmp, evO_cst, getE_hit, getE_miss, setE_some, setE_none, bin_leq, bin_geq, bin_lss, bin_gtr, bin_eql, bin_neq, bin_add, bin_sub, bin_mul, Option.bind_some, Option.map_some, Option.bind_none, Option.map_none, Nat.reduceBEq, Nat.reduceAdd, finish, resOf, tupOf, frz_eq, AM.freeze, freeze1, freezeL, closed, nam, namL, if_true, if_false, Bool.false_eq_true, Bool.true_and, Bool.false_and, Bool.and_true, Bool.and_false, cellsOf, deref, boxAt, ldCells, oneL, oneCell, one, List.length_cons, List.length_nil, List.nil_append, List.cons_append, List.getElem?_cons_zero, List.getElem?_cons_succ, List.drop_zero, List.drop_succ_cons, List.take_succ_cons, List.take_zero, Nat.reduceLeDiff, Nat.le_refl, evL, List.map_cons, List.map_nil, List.append_nil, adopt, bin_quo, bin_rem, rigK_sc, rigK_agg, rigK_tup, fstV_eq, quiet_load, quiet_convStr, quiet_call, rigid, rigidL, trim, List.length_nil, Nat.lt_irrefl, and_false, false_and, Int.reduceEq, decide_true, decide_false, Int.reduceMod, Int.reduceDiv, Int.mul_zero, Int.add_zero, ax_loop, quiet_move, quiet_pick, quiet_build, quiet_nilCheck, quiet_bin, quiet_eqBool, quiet_eqArr, quiet_eqNil, quiet_un, quiet_convInt, quiet_makeFunc, quiet_slice, quiet_toArr, quiet_fieldAddr, quiet_field, quiet_indexAddr, quiet_index, quiet_indexStr, quiet_extract, quiet_len, quiet_lenT, quiet_convSS, quiet_minmax, opsG_undef, quiG_undef]
    · have c2 : decide (2147483647 < o + l[j].d) = false := decide_eq_false hbig
      rw [if_neg hbig] at hstep
      have ih := pexp l hmay hn l0 l1 j ((o + l[j].d) :: o :: os)
      generalize hK : axl T [0, 8, 9] true L19_0 1 = K at *
      simp -implicitDefEqProofs only [L19_0, h0, h8, h9, c1, c2, w1, w2, w3, hav, asI, elCells, g1, g2, hlen, b1, b2, b3, kz_none, Nat.mul_one, Nat.zero_add, storeB, setAt, List.set_cons_zero, Int.natCast_nonneg, Int.toNat_natCast, and_self, true_and, List.getElem?_drop, map_bind, Nat.add_zero, prun_eq, initE, ax_seq, ax_skip, ax_ret, ax_exit, ax_scope, ax_regK, ax_regQK, ax_condK, ax_blockK, condK_t, condK_f, blkR_normal, blkR_ret, blkR_hit, blkR_miss, norR_eq, norQ_eq, nextR_normal, nextR_ret, nextR_exit, aops_nil, aops_none, aops_some, opsK_some, opsG_tt, opsG_ft, opsG_tf, opsG_ff, aopsQ_nil, aopsQ_none, aopsQ_some, quiK_some, quiG_tt, quiG_ft, quiG_tf, quiG_ff, aop, evO_tmp, evO_cst, getE_hit, getE_miss, setE_some, setE_none, bin_leq, bin_geq, bin_lss, bin_gtr, bin_eql, bin_neq, bin_add, bin_sub, bin_mul, Option.bind_some, Option.map_some, Option.bind_none, Option.map_none, Nat.reduceBEq, Nat.reduceAdd, finish, resOf, tupOf, frz_eq, AM.freeze, freeze1, freezeL, closed, nam, namL, if_true, if_false, Bool.false_eq_true, Bool.true_and, Bool.false_and, Bool.and_true, Bool.and_false, cellsOf, deref, boxAt, ldCells, oneL, oneCell, one, List.length_cons, List.length_nil, List.nil_append, List.cons_append, List.getElem?_cons_zero, List.getElem?_cons_succ, List.drop_zero, List.drop_succ_cons, List.take_succ_cons, List.take_zero, Nat.reduceLeDiff, Nat.le_refl, evL, List.map_cons, List.map_nil, List.append_nil, adopt, bin_quo, bin_rem, rigK_sc, rigK_agg, rigK_tup, fstV_eq, quiet_load, quiet_convStr, quiet_call, rigid, rigidL, trim, List.length_nil, Nat.lt_irrefl, and_false, false_and, Int.reduceEq, decide_true, decide_false, Int.reduceMod, Int.reduceDiv, Int.mul_zero, Int.add_zero, ax_loop, quiet_move, quiet_pick, quiet_build, quiet_nilCheck, quiet_bin, quiet_eqBool, quiet_eqArr, quiet_eqNil, quiet_un, quiet_convInt, quiet_makeFunc, quiet_slice, quiet_toArr, quiet_fieldAddr, quiet_field, quiet_indexAddr, quiet_index, quiet_indexStr, quiet_extract, quiet_len, quiet_lenT, quiet_convSS, quiet_minmax, opsG_undef, quiG_undef]
      exact ih _ _ (by omega) hstep hset (by simp only [getE_hit, getE_miss, Nat.reduceBEq]) (by simp only [getE_hit, getE_miss, Nat.reduceBEq]) (by simp only [getE_hit, getE_miss, Nat.reduceBEq])
end Go.Proofs.Ytakgaofemfpakaa.AM
