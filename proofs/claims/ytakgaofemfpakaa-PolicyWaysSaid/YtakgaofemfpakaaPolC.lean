import Derived.Test.YtakgaofemfpakaaPolB
set_option maxRecDepth 100000
set_option linter.unusedSimpArgs false
set_option linter.unusedVariables false
namespace Go.Proofs.Ytakgaofemfpakaa.AM
open Go
/-- the first question that applies -/
def firstS : List (Int × Bool) → Int
  | [] => 0
  | (r, b) :: l => if b = true then r else firstS l
def Qu (el : AV) (p : Int × Bool) : Prop := ∃ f caps, el = .agg [i64 p.1, .func (.func f) [] caps] ∧ ∀ h, ag T f caps h = some (.bool p.2, h)
def All2 : List AV → List (Int × Bool) → Prop
  | [], [] => True
  | x :: xs, p :: ps => Qu x p ∧ All2 xs ps
  | _, _ => False
theorem All2.length : ∀ {xs : List AV} {ps : List (Int × Bool)}, All2 xs ps → xs.length = ps.length
  | [], [], _ => rfl
  | x :: xs, p :: ps, h => by simp only [All2] at h; simp [All2.length h.2]
  | [], _ :: _, h => by simp [All2] at h
  | _ :: _, [], h => by simp [All2] at h
theorem closed_below : ∀ (x : AV), closed x = true → below 0 x = true := by
  intro x hx
  have : (fun i : Nat => decide (i < 0)) = fun _ => false := by funext i; simp
  unfold below
  rw [this]
  exact hx
theorem trim_zero (keep : List Nat) (e : Env) (h : Heap) (hb : ∀ t ∈ keep, closed (getE e t) = true) : trim keep true 0 e h = some (keep.map fun t => (t, getE e t), []) := by
  unfold trim
  split
  · rw [if_pos]
    · simp
    · simp only [List.take_zero, List.all_nil, Bool.and_true]
      exact List.all_eq_true.2 fun t ht => closed_below _ (hb t ht)
  · rename_i hh
    have : h = [] := by
      cases h with
      | nil => rfl
      | cons a l => exact absurd ⟨rfl, by simp⟩ hh
    rw [this]
def selR (r : Res) : AX × AV := (r.1, match r.1 with | .ret => getE r.2.1 2 | _ => .unk)
theorem selR_ret (e : Env) (h : Heap) : selR (.ret, e, h) = (.ret, getE e 2) := rfl
theorem selR_exit (i : Nat) (e : Env) (h : Heap) : selR (.exit i, e, h) = (.exit i, .unk) := rfl
theorem map_bind {α β γ : Type} (o : Option α) (f : α → Option β) (g : β → γ) : (o.bind f).map g = o.bind fun x => (f x).map g := by cases o <;> rfl
theorem first_loop (els : List AV) (hcl : closedL els = true) (hn : els.length ≤ 1000) : ∀ (l : List (Int × Bool)) (i : Nat) (e : Env) (h : Heap), All2 (els.drop i) l → getE e 5 = .slice .none (some 2) els → getE e 6 = i64 els.length → getE e 7 = i64 i →
    (axl T [5, 6, 7] true L27_0 0 e h).map selR = some (if l.any Prod.snd then (.ret, i64 (firstS l)) else (.exit 0, .unk))
  | [], i, e, h, hq, h5, h6, h7 => by
    have hi : els.length ≤ i := by
      have := hq.length
      simp at this
      omega
    have c1 : decide ((i : Int) < (els.length : Int)) = false := decide_eq_false (by omega)
    rw [axl_eq, trim_zero _ _ _ (by simp [h5, h6, h7, closed, nam]; exact hcl)]
    simp -implicitDefEqProofs only [L27_0, h5, h6, h7, c1, selR_exit, List.any_nil, prun_eq, initE, ax_seq, ax_skip, ax_ret, ax_exit, ax_scope, ax_regK, ax_regQK, ax_condK, ax_blockK, condK_t, condK_f, blkR_normal, blkR_ret, blkR_hit, blkR_miss, norR_eq, norQ_eq, nextR_normal, nextR_ret, nextR_exit, aops_nil, aops_none, aops_some, opsK_some, opsG_tt, opsG_ft, opsG_tf, opsG_ff, aopsQ_nil, aopsQ_none, aopsQ_some, quiK_some, quiG_tt, quiG_ft, quiG_tf, quiG_ff, aop, evO_tmp, evO_cst, getE_hit, getE_miss, setE_some, setE_none, bin_leq, bin_geq, bin_lss, bin_gtr, bin_eql, bin_neq, bin_add, bin_sub, bin_mul, Option.bind_some, Option.map_some, Option.bind_none, Option.map_none, Nat.reduceBEq, Nat.reduceAdd, finish, resOf, tupOf, frz_eq, AM.freeze, freeze1, freezeL, closed, nam, namL, if_true, if_false, Bool.false_eq_true, Bool.true_and, Bool.false_and, Bool.and_true, Bool.and_false, cellsOf, deref, boxAt, ldCells, oneL, oneCell, one, List.length_cons, List.length_nil, List.nil_append, List.cons_append, List.getElem?_cons_zero, List.getElem?_cons_succ, List.drop_zero, List.drop_succ_cons, List.take_succ_cons, List.take_zero, Nat.reduceLeDiff, Nat.le_refl, evL, List.map_cons, List.map_nil, List.append_nil, adopt, bin_quo, bin_rem, rigK_sc, rigK_agg, rigK_tup, fstV_eq, quiet_load, quiet_convStr, quiet_call, rigid, rigidL, trim, List.length_nil, Nat.lt_irrefl, and_false, false_and, Int.reduceEq, decide_true, decide_false, Int.reduceMod, Int.reduceDiv, Int.mul_zero, Int.add_zero, ax_loop, quiet_move, quiet_pick, quiet_build, quiet_nilCheck, quiet_bin, quiet_eqBool, quiet_eqArr, quiet_eqNil, quiet_un, quiet_convInt, quiet_makeFunc, quiet_slice, quiet_toArr, quiet_fieldAddr, quiet_field, quiet_indexAddr, quiet_index, quiet_indexStr, quiet_extract, quiet_len, quiet_lenT, quiet_convSS, quiet_minmax, opsG_undef, quiG_undef]
  | (r, b) :: l, i, e, h, hq, h5, h6, h7 => by
    have hlt : i < els.length := by
      have := hq.length
      simp at this
      omega
    rw [List.drop_eq_getElem_cons hlt] at hq
    simp only [All2] at hq
    obtain ⟨hel, hrest⟩ := hq
    obtain ⟨f, caps, hel, hag⟩ := hel
    have hg : els[i]? = some (.agg [i64 r, .func (.func f) [] caps]) := by rw [List.getElem?_eq_getElem hlt, hel]
    have c1 : decide ((i : Int) < (els.length : Int)) = true := decide_eq_true (by omega)
    have wr : IntKind.i64.wrap ((i : Int) + 1) = ((i + 1 : Nat) : Int) := by rw [IntWalk.i64_in _ ⟨by omega, by omega⟩]; rfl
    rw [axl_eq, trim_zero _ _ _ (by simp [h5, h6, h7, closed, nam]; exact hcl)]
    cases b
    · have ih := first_loop els hcl hn l (i + 1)
      generalize hK : axl T [5, 6, 7] true L27_0 0 = K at *
      simp -implicitDefEqProofs only [L27_0, h5, h6, h7, c1, hg, hag, wr, map_bind, asI, elCells, storeB, setAt, Int.natCast_nonneg, Int.toNat_natCast, and_self, true_and, List.any_cons, Bool.false_or, List.set_cons_zero, List.set_cons_succ, prun_eq, initE, ax_seq, ax_skip, ax_ret, ax_exit, ax_scope, ax_regK, ax_regQK, ax_condK, ax_blockK, condK_t, condK_f, blkR_normal, blkR_ret, blkR_hit, blkR_miss, norR_eq, norQ_eq, nextR_normal, nextR_ret, nextR_exit, aops_nil, aops_none, aops_some, opsK_some, opsG_tt, opsG_ft, opsG_tf, opsG_ff, aopsQ_nil, aopsQ_none, aopsQ_some, quiK_some, quiG_tt, quiG_ft, quiG_tf, quiG_ff, aop, evO_tmp, evO_cst, getE_hit, getE_miss, setE_some, setE_none, bin_leq, bin_geq, bin_lss, bin_gtr, bin_eql, bin_neq, bin_add, bin_sub, bin_mul, Option.bind_some, Option.map_some, Option.bind_none, Option.map_none, Nat.reduceBEq, Nat.reduceAdd, finish, resOf, tupOf, frz_eq, AM.freeze, freeze1, freezeL, closed, nam, namL, if_true, if_false, Bool.false_eq_true, Bool.true_and, Bool.false_and, Bool.and_true, Bool.and_false, cellsOf, deref, boxAt, ldCells, oneL, oneCell, one, List.length_cons, List.length_nil, List.nil_append, List.cons_append, List.getElem?_cons_zero, List.getElem?_cons_succ, List.drop_zero, List.drop_succ_cons, List.take_succ_cons, List.take_zero, Nat.reduceLeDiff, Nat.le_refl, evL, List.map_cons, List.map_nil, List.append_nil, adopt, bin_quo, bin_rem, rigK_sc, rigK_agg, rigK_tup, fstV_eq, quiet_load, quiet_convStr, quiet_call, rigid, rigidL, trim, List.length_nil, Nat.lt_irrefl, and_false, false_and, Int.reduceEq, decide_true, decide_false, Int.reduceMod, Int.reduceDiv, Int.mul_zero, Int.add_zero, ax_loop, quiet_move, quiet_pick, quiet_build, quiet_nilCheck, quiet_bin, quiet_eqBool, quiet_eqArr, quiet_eqNil, quiet_un, quiet_convInt, quiet_makeFunc, quiet_slice, quiet_toArr, quiet_fieldAddr, quiet_field, quiet_indexAddr, quiet_index, quiet_indexStr, quiet_extract, quiet_len, quiet_lenT, quiet_convSS, quiet_minmax, opsG_undef, quiG_undef]
      rw [ih _ _ hrest (by simp only [getE_hit, getE_miss, Nat.reduceBEq]) (by simp only [getE_hit, getE_miss, Nat.reduceBEq]) (by simp only [getE_hit, getE_miss, Nat.reduceBEq])]
      rfl
    · simp -implicitDefEqProofs only [L27_0, h5, h6, h7, c1, hg, hag, wr, map_bind, asI, elCells, storeB, setAt, Int.natCast_nonneg, Int.toNat_natCast, and_self, true_and, List.any_cons, Bool.true_or, List.set_cons_zero, List.set_cons_succ, selR_ret, firstS, prun_eq, initE, ax_seq, ax_skip, ax_ret, ax_exit, ax_scope, ax_regK, ax_regQK, ax_condK, ax_blockK, condK_t, condK_f, blkR_normal, blkR_ret, blkR_hit, blkR_miss, norR_eq, norQ_eq, nextR_normal, nextR_ret, nextR_exit, aops_nil, aops_none, aops_some, opsK_some, opsG_tt, opsG_ft, opsG_tf, opsG_ff, aopsQ_nil, aopsQ_none, aopsQ_some, quiK_some, quiG_tt, quiG_ft, quiG_tf, quiG_ff, aop, evO_tmp, evO_cst, getE_hit, getE_miss, setE_some, setE_none, bin_leq, bin_geq, bin_lss, bin_gtr, bin_eql, bin_neq, bin_add, bin_sub, bin_mul, Option.bind_some, Option.map_some, Option.bind_none, Option.map_none, Nat.reduceBEq, Nat.reduceAdd, finish, resOf, tupOf, frz_eq, AM.freeze, freeze1, freezeL, closed, nam, namL, if_true, if_false, Bool.false_eq_true, Bool.true_and, Bool.false_and, Bool.and_true, Bool.and_false, cellsOf, deref, boxAt, ldCells, oneL, oneCell, one, List.length_cons, List.length_nil, List.nil_append, List.cons_append, List.getElem?_cons_zero, List.getElem?_cons_succ, List.drop_zero, List.drop_succ_cons, List.take_succ_cons, List.take_zero, Nat.reduceLeDiff, Nat.le_refl, evL, List.map_cons, List.map_nil, List.append_nil, adopt, bin_quo, bin_rem, rigK_sc, rigK_agg, rigK_tup, fstV_eq, quiet_load, quiet_convStr, quiet_call, rigid, rigidL, trim, List.length_nil, Nat.lt_irrefl, and_false, false_and, Int.reduceEq, decide_true, decide_false, Int.reduceMod, Int.reduceDiv, Int.mul_zero, Int.add_zero, ax_loop, quiet_move, quiet_pick, quiet_build, quiet_nilCheck, quiet_bin, quiet_eqBool, quiet_eqArr, quiet_eqNil, quiet_un, quiet_convInt, quiet_makeFunc, quiet_slice, quiet_toArr, quiet_fieldAddr, quiet_field, quiet_indexAddr, quiet_index, quiet_indexStr, quiet_extract, quiet_len, quiet_lenT, quiet_convSS, quiet_minmax, opsG_undef, quiG_undef]
theorem first_zero : ∀ (l : List (Int × Bool)), l.any Prod.snd = false → firstS l = 0
  | [], _ => rfl
  | (r, b) :: l, h => by
    simp only [List.any_cons, Bool.or_eq_false_iff] at h
    simp only [firstS, h.1, Bool.false_eq_true, if_false]
    exact first_zero l h.2
theorem first_ok (els : List AV) (hcl : closedL els = true) (hn : els.length ≤ 1000) (l : List (Int × Bool)) (hq : All2 els l) : prun T F27 [.slice .none (some 2) els] = some (i64 (firstS l)) := by
  have key := first_loop els hcl hn l 0 [(7, i64 0), (6, i64 els.length), (5, .slice .none (some 2) els), (2, i64 0), (0, .slice .none (some 2) els)] [] (by simpa using hq) (by simp only [getE_hit, getE_miss, Nat.reduceBEq]) (by simp only [getE_hit, getE_miss, Nat.reduceBEq]) (by simp only [getE_hit, getE_miss, Nat.reduceBEq]; rfl)
  rw [Option.map_eq_some_iff] at key
  obtain ⟨⟨x, e', h'⟩, k1, k2⟩ := key
  cases ha : l.any Prod.snd
  · rw [ha] at k2
    simp only [Bool.false_eq_true, if_false, selR, Prod.mk.injEq] at k2
    obtain ⟨rfl, _⟩ := k2
    rw [first_zero l ha]
    simp -implicitDefEqProofs only [F27, k1, lenOf, prun_eq, initE, ax_seq, ax_skip, ax_ret, ax_exit, ax_scope, ax_regK, ax_regQK, ax_condK, ax_blockK, condK_t, condK_f, blkR_normal, blkR_ret, blkR_hit, blkR_miss, norR_eq, norQ_eq, nextR_normal, nextR_ret, nextR_exit, aops_nil, aops_none, aops_some, opsK_some, opsG_tt, opsG_ft, opsG_tf, opsG_ff, aopsQ_nil, aopsQ_none, aopsQ_some, quiK_some, quiG_tt, quiG_ft, quiG_tf, quiG_ff, aop, evO_tmp, evO_cst, getE_hit, getE_miss, setE_some, setE_none, bin_leq, bin_geq, bin_lss, bin_gtr, bin_eql, bin_neq, bin_add, bin_sub, bin_mul, Option.bind_some, Option.map_some, Option.bind_none, Option.map_none, Nat.reduceBEq, Nat.reduceAdd, finish, resOf, tupOf, frz_eq, AM.freeze, freeze1, freezeL, closed, nam, namL, if_true, if_false, Bool.false_eq_true, Bool.true_and, Bool.false_and, Bool.and_true, Bool.and_false, cellsOf, deref, boxAt, ldCells, oneL, oneCell, one, List.length_cons, List.length_nil, List.nil_append, List.cons_append, List.getElem?_cons_zero, List.getElem?_cons_succ, List.drop_zero, List.drop_succ_cons, List.take_succ_cons, List.take_zero, Nat.reduceLeDiff, Nat.le_refl, evL, List.map_cons, List.map_nil, List.append_nil, adopt, bin_quo, bin_rem, rigK_sc, rigK_agg, rigK_tup, fstV_eq, quiet_load, quiet_convStr, quiet_call, rigid, rigidL, trim, List.length_nil, Nat.lt_irrefl, and_false, false_and, Int.reduceEq, decide_true, decide_false, Int.reduceMod, Int.reduceDiv, Int.mul_zero, Int.add_zero, ax_loop, quiet_move, quiet_pick, quiet_build, quiet_nilCheck, quiet_bin, quiet_eqBool, quiet_eqArr, quiet_eqNil, quiet_un, quiet_convInt, quiet_makeFunc, quiet_slice, quiet_toArr, quiet_fieldAddr, quiet_field, quiet_indexAddr, quiet_index, quiet_indexStr, quiet_extract, quiet_len, quiet_lenT, quiet_convSS, quiet_minmax, opsG_undef, quiG_undef]
  · rw [ha] at k2
    simp only [if_true, selR, Prod.mk.injEq] at k2
    obtain ⟨rfl, k3⟩ := k2
    simp only at k3
    simp -implicitDefEqProofs only [F27, k1, k3, lenOf, prun_eq, initE, ax_seq, ax_skip, ax_ret, ax_exit, ax_scope, ax_regK, ax_regQK, ax_condK, ax_blockK, condK_t, condK_f, blkR_normal, blkR_ret, blkR_hit, blkR_miss, norR_eq, norQ_eq, nextR_normal, nextR_ret, nextR_exit, aops_nil, aops_none, aops_some, opsK_some, opsG_tt, opsG_ft, opsG_tf, opsG_ff, aopsQ_nil, aopsQ_none, aopsQ_some, quiK_some, quiG_tt, quiG_ft, quiG_tf, quiG_ff, aop, evO_tmp, evO_cst, getE_hit, getE_miss, setE_some, setE_none, bin_leq, bin_geq, bin_lss, bin_gtr, bin_eql, bin_neq, bin_add, bin_sub, bin_mul, Option.bind_some, Option.map_some, Option.bind_none, Option.map_none, Nat.reduceBEq, Nat.reduceAdd, finish, resOf, tupOf, frz_eq, AM.freeze, freeze1, freezeL, closed, nam, namL, if_true, if_false, Bool.false_eq_true, Bool.true_and, Bool.false_and, Bool.and_true, Bool.and_false, cellsOf, deref, boxAt, ldCells, oneL, oneCell, one, List.length_cons, List.length_nil, List.nil_append, List.cons_append, List.getElem?_cons_zero, List.getElem?_cons_succ, List.drop_zero, List.drop_succ_cons, List.take_succ_cons, List.take_zero, Nat.reduceLeDiff, Nat.le_refl, evL, List.map_cons, List.map_nil, List.append_nil, adopt, bin_quo, bin_rem, rigK_sc, rigK_agg, rigK_tup, fstV_eq, quiet_load, quiet_convStr, quiet_call, rigid, rigidL, trim, List.length_nil, Nat.lt_irrefl, and_false, false_and, Int.reduceEq, decide_true, decide_false, Int.reduceMod, Int.reduceDiv, Int.mul_zero, Int.add_zero, ax_loop, quiet_move, quiet_pick, quiet_build, quiet_nilCheck, quiet_bin, quiet_eqBool, quiet_eqArr, quiet_eqNil, quiet_un, quiet_convInt, quiet_makeFunc, quiet_slice, quiet_toArr, quiet_fieldAddr, quiet_field, quiet_indexAddr, quiet_index, quiet_indexStr, quiet_extract, quiet_len, quiet_lenT, quiet_convSS, quiet_minmax, opsG_undef, quiG_undef]
end Go.Proofs.Ytakgaofemfpakaa.AM
