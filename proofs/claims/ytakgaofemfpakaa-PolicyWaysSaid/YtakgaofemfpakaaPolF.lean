import Derived.Test.YtakgaofemfpakaaPolE
set_option maxRecDepth 100000
set_option linter.unusedSimpArgs false
set_option linter.unusedVariables false
namespace Go.Proofs.Ytakgaofemfpakaa.AM
open Go
theorem call8 (h : Heap) : ag T 8 [] h = some (.bool true, h) := ag_any rfl t8 rfl rfl rfl rfl (ag_of_gcall (n := 60) (by kernel_rfl)) h
section
variable {hop : List AV} {ch am ex tot b r d g f n e t : Int}
theorem hstrip (hh : HopOK hop ch am ex tot) : [rulesA b r d g f, .agg hop, i64 n, i64 e, i64 t].map strip = [rulesA b r d g f, .agg hop, i64 n, i64 e, i64 t] := rfl
theorem hclosed (hh : HopOK hop ch am ex tot) : closedL [rulesA b r d g f, .agg hop, i64 n, i64 e, i64 t] = true := by
  simp only [closedL, namL, nam, hh.cl, Bool.and_self, Bool.true_and, Bool.and_true]
theorem call11 (hh : HopOK hop ch am ex tot) (hb : I64 b) (hr : I64 r) (ha : I64 am) (h : Heap) : ag T 11 [rulesA b r d g f, .agg hop, i64 n, i64 e, i64 t] h = some (i64 (firstS (fwdL ch am ex b r d g f n e t)), h) := call_sc rfl t11 rfl rfl (hstrip hh) (hclosed hh) (fwd_ok hh hb hr ha)
theorem call12 (hh : HopOK hop ch am ex tot) (hb : I64 b) (ha : I64 am) (hx : I64 ex) (h : Heap) : ag T 12 [rulesA b r d g f, .agg hop, i64 n, i64 e, i64 t] h = some (i64 (firstS (fwdL ch am ex b r d g f n e t)), h) := by
  rw [fwd_eq _ _ _ _ _ _ _ _ _ _ _ hx]
  exact call_sc rfl t12 rfl rfl (hstrip hh) (hclosed hh) (rfwd_ok hh hb ha)
theorem call15 (hh : HopOK hop ch am ex tot) (hb : I64 b) (hr : I64 r) (h : Heap) : ag T 15 [rulesA b r d g f, .agg hop, i64 n, i64 e, i64 t] h = some (i64 (firstS (finL ch am ex tot b r d g f n e t)), h) := call_sc rfl t15 rfl rfl (hstrip hh) (hclosed hh) (fin_ok hh hb hr)
theorem call16 (hh : HopOK hop ch am ex tot) (h : Heap) : ag T 16 [rulesA b r d g f, .agg hop, i64 n, i64 e, i64 t] h = some (i64 (firstS (finL ch am ex tot b r d g f n e t)), h) := by
  rw [fin_eq]
  exact call_sc rfl t16 rfl rfl (hstrip hh) (hclosed hh) (rfin_ok hh)
/-- the law PolicyForwards -/
theorem law3 (hh : HopOK hop ch am ex tot) (hrig : rigidL hop = true) (hb : I64 b) (hr : I64 r) (ha : I64 am) (hx : I64 ex) : prun T F3 [rulesA b r d g f, .agg hop, i64 n, i64 e, i64 t] = some (.bool true) := by
  have hcl := hh.cl
  have hone := hh.one
  have hst := hh.st
  have hlen := hh.len
  have htake : hop.take 101 = hop := by rw [List.take_of_length_le (by omega)]
  have k9 := fun h => call9 b r d g f hb hr h
  have k10 := fun h => call10 b r d g f h
  have k11 := fun h => call11 (d := d) (g := g) (f := f) (n := n) (e := e) (t := t) hh hb hr ha h
  have k12 := fun h => call12 (r := r) (d := d) (g := g) (f := f) (n := n) (e := e) (t := t) hh hb ha hx h
  have k13 := fun h => call13 b r d g f hb hr h
  have k14 := fun h => call14 b r d g f h
  simp -implicitDefEqProofs only [F3, hcl, hone, hst, hlen, htake, hrig, k9, k10, k11, k12, k13, k14, call8, p8, p9, p10, p11, p12, p13, p14, beq_self_eq_true, bne_self_eq_false, Bool.bne_false, Nat.le_refl, Nat.reduceLeDiff, prun_eq, initE, ax_seq, ax_skip, ax_ret, ax_exit, ax_scope, ax_regK, ax_regQK, ax_condK, ax_blockK, condK_t, condK_f, blkR_normal, blkR_ret, blkR_hit, blkR_miss, norR_eq, norQ_eq, nextR_normal, nextR_ret, nextR_exit, aops_nil, aops_none, aops_some, opsK_some, opsG_tt, opsG_ft, opsG_tf, opsG_ff, aopsQ_nil, aopsQ_none, aopsQ_some, quiK_some, quiG_tt, quiG_ft, quiG_tf, quiG_ff, aop, evO_tmp, evO_cst, getE_hit, getE_miss, setE_some, setE_none, bin_leq, bin_geq, bin_lss, bin_gtr, bin_eql, bin_neq, bin_add, bin_sub, bin_mul, Option.bind_some, Option.map_some, Option.bind_none, Option.map_none, Nat.reduceBEq, Nat.reduceAdd, finish, resOf, tupOf, frz_eq, AM.freeze, freeze1, freezeL, closed, nam, namL, if_true, if_false, Bool.false_eq_true, Bool.true_and, Bool.false_and, Bool.and_true, Bool.and_false, cellsOf, deref, boxAt, ldCells, oneL, oneCell, one, List.length_cons, List.length_nil, List.nil_append, List.cons_append, List.getElem?_cons_zero, List.getElem?_cons_succ, List.drop_zero, List.drop_succ_cons, List.take_succ_cons, List.take_zero, Nat.reduceLeDiff, Nat.le_refl, evL, List.map_cons, List.map_nil, List.append_nil, adopt, bin_quo, bin_rem, rigK_sc, rigK_agg, rigK_tup, fstV_eq, quiet_load, quiet_convStr, quiet_call, rigid, rigidL, trim, List.length_nil, Nat.lt_irrefl, and_false, false_and, Int.reduceEq, decide_true, decide_false, Int.reduceMod, Int.reduceDiv, Int.mul_zero, Int.add_zero, ax_loop, quiet_move, quiet_pick, quiet_build, quiet_nilCheck, quiet_bin, quiet_eqBool, quiet_eqArr, quiet_eqNil, quiet_un, quiet_convInt, quiet_makeFunc, quiet_slice, quiet_toArr, quiet_fieldAddr, quiet_field, quiet_indexAddr, quiet_index, quiet_indexStr, quiet_extract, quiet_len, quiet_lenT, quiet_convSS, quiet_minmax, opsG_undef, quiG_undef]
/-- the law PolicyFinals -/
theorem law5 (hh : HopOK hop ch am ex tot) (hrig : rigidL hop = true) (hb : I64 b) (hr : I64 r) : prun T F5 [rulesA b r d g f, .agg hop, i64 n, i64 e, i64 t] = some (.bool true) := by
  have hcl := hh.cl
  have hone := hh.one
  have hst := hh.st
  have hlen := hh.len
  have htake : hop.take 101 = hop := by rw [List.take_of_length_le (by omega)]
  have k15 := fun h => call15 (d := d) (g := g) (f := f) (n := n) (e := e) (t := t) hh hb hr h
  have k16 := fun h => call16 (b := b) (r := r) (d := d) (g := g) (f := f) (n := n) (e := e) (t := t) hh h
  simp -implicitDefEqProofs only [F5, hcl, hone, hst, hlen, htake, hrig, k15, k16, call8, call17, call18, p8, p15, p16, p17, p18, beq_self_eq_true, bne_self_eq_false, Bool.bne_false, Nat.le_refl, Nat.reduceLeDiff, prun_eq, initE, ax_seq, ax_skip, ax_ret, ax_exit, ax_scope, ax_regK, ax_regQK, ax_condK, ax_blockK, condK_t, condK_f, blkR_normal, blkR_ret, blkR_hit, blkR_miss, norR_eq, norQ_eq, nextR_normal, nextR_ret, nextR_exit, aops_nil, aops_none, aops_some, opsK_some, opsG_tt, opsG_ft, opsG_tf, opsG_ff, aopsQ_nil, aopsQ_none, aopsQ_some, quiK_some, quiG_tt, quiG_ft, quiG_tf, quiG_ff, aop, evO_tmp, evO_cst, getE_hit, getE_miss, setE_some, setE_none, bin_leq, bin_geq, bin_lss, bin_gtr, bin_eql, bin_neq, bin_add, bin_sub, bin_mul, Option.bind_some, Option.map_some, Option.bind_none, Option.map_none, Nat.reduceBEq, Nat.reduceAdd, finish, resOf, tupOf, frz_eq, AM.freeze, freeze1, freezeL, closed, nam, namL, if_true, if_false, Bool.false_eq_true, Bool.true_and, Bool.false_and, Bool.and_true, Bool.and_false, cellsOf, deref, boxAt, ldCells, oneL, oneCell, one, List.length_cons, List.length_nil, List.nil_append, List.cons_append, List.getElem?_cons_zero, List.getElem?_cons_succ, List.drop_zero, List.drop_succ_cons, List.take_succ_cons, List.take_zero, Nat.reduceLeDiff, Nat.le_refl, evL, List.map_cons, List.map_nil, List.append_nil, adopt, bin_quo, bin_rem, rigK_sc, rigK_agg, rigK_tup, fstV_eq, quiet_load, quiet_convStr, quiet_call, rigid, rigidL, trim, List.length_nil, Nat.lt_irrefl, and_false, false_and, Int.reduceEq, decide_true, decide_false, Int.reduceMod, Int.reduceDiv, Int.mul_zero, Int.add_zero, ax_loop, quiet_move, quiet_pick, quiet_build, quiet_nilCheck, quiet_bin, quiet_eqBool, quiet_eqArr, quiet_eqNil, quiet_un, quiet_convInt, quiet_makeFunc, quiet_slice, quiet_toArr, quiet_fieldAddr, quiet_field, quiet_indexAddr, quiet_index, quiet_indexStr, quiet_extract, quiet_len, quiet_lenT, quiet_convSS, quiet_minmax, opsG_undef, quiG_undef]
end
/-! the law PolicyRises -/
theorem first_zero_iff : ∀ (l : List (Int × Bool)), (∀ p ∈ l, p.1 ≠ 0) → (firstS l = 0 ↔ ∀ p ∈ l, p.2 = false)
  | [], _ => by simp [firstS]
  | (r, b) :: l, h => by
    have ih := first_zero_iff l fun p hp => h p (List.mem_cons_of_mem _ hp)
    have hr : r ≠ 0 := h (r, b) List.mem_cons_self
    cases b
    · simp only [firstS, Bool.false_eq_true, if_false, ih, List.mem_cons, forall_eq_or_imp, true_and]
    · simp only [firstS, if_true, List.mem_cons, forall_eq_or_imp, Bool.true_eq_false, false_and, iff_false]
      exact hr
theorem rises (ch am ex b r d g f n e t more later : Int) (hx : I64 ex) (h0 : firstS (fwdL ch am ex b r d g f n e t) = 0) (m0 : 0 ≤ more) (m1 : more ≤ 4611686018427387904) (l0 : 0 ≤ later) (l1 : later ≤ 1073741824) (n1 : n ≤ 4611686018427387903) :
    firstS (fwdL ch am ex b r d g f (IntKind.i64.wrap (n + more)) e t) = 0 ∧ (firstS (fwdL ch am ex b r d g f n (IntKind.i64.wrap (e + later)) t) = 0 ∨ firstS (fwdL ch am ex b r d g f n (IntKind.i64.wrap (e + later)) t) = 6 ∨ (firstS (fwdL ch am ex b r d g f n (IntKind.i64.wrap (e + later)) t) = 1 ∧ 2147483647 < IntKind.i64.wrap (e + later))) := by
  have nz : ∀ n e, ∀ p ∈ fwdL ch am ex b r d g f n e t, p.1 ≠ 0 := by
    intro n e p hp
    simp only [fwdL, qBase, List.cons_append, List.nil_append, List.mem_cons, List.not_mem_nil, or_false] at hp
    rcases hp with rfl | rfl | rfl | rfl | rfl | rfl <;> simp
  have h := (first_zero_iff _ (nz n e)).1 h0
  simp only [fwdL, qBase, List.cons_append, List.nil_append, List.mem_cons, List.not_mem_nil, or_false, forall_eq_or_imp, forall_eq] at h
  obtain ⟨h1, h2, h3, h4, h5, h6⟩ := h
  simp only [Bool.or_eq_false_iff, Bool.not_eq_false', decide_eq_false_iff_not, witS, Bool.and_eq_true, decide_eq_true_eq, decide_eq_true_eq] at h1 h2 h3 h4 h5 h6
  obtain ⟨c0, hm, hn, ⟨he0, he1⟩, ht0, ht1⟩ := h1
  obtain ⟨_, d0, d1, g0, g1, f0, f1⟩ := (mayR_iff b r d g f).1 hm
  have w1 : IntKind.i64.wrap (n + more) = n + more := IntWalk.i64_in _ ⟨by omega, by omega⟩
  have w2 : IntKind.i64.wrap (e + later) = e + later := IntWalk.i64_in _ ⟨by omega, by omega⟩
  have w3 : IntKind.i64.wrap (e - t) = e - t := IntWalk.i64_in _ ⟨by omega, by omega⟩
  have w4 : IntKind.i64.wrap (t + g) = t + g := IntWalk.i64_in _ ⟨by omega, by omega⟩
  have w5 : IntKind.i64.wrap (e - d) = e - d := IntWalk.i64_in _ ⟨by omega, by omega⟩
  have w6 : IntKind.i64.wrap (e + later - t) = e + later - t := IntWalk.i64_in _ ⟨by omega, by omega⟩
  have w7 : IntKind.i64.wrap (e + later - d) = e + later - d := IntWalk.i64_in _ ⟨by omega, by omega⟩
  rw [w3] at h2
  rw [w4] at h3
  rw [w5] at h4
  rw [w1, w2]
  refine ⟨(first_zero_iff _ (nz _ _)).2 ?_, ?_⟩
  · simp only [fwdL, qBase, List.cons_append, List.nil_append, List.mem_cons, List.not_mem_nil, or_false, forall_eq_or_imp, forall_eq, w3, w4, w5, Bool.or_eq_false_iff, Bool.not_eq_false', decide_eq_false_iff_not, witS, Bool.and_eq_true, decide_eq_true_eq]
    exact ⟨⟨c0, hm, by omega, ⟨he0, he1⟩, ht0, ht1⟩, h2, h3, h4, h5, h6.1, by omega⟩
  · by_cases hbig : 2147483647 < e + later
    · right; right
      refine ⟨?_, hbig⟩
      have : witS (e + later) 0 2147483647 = false := by simp [witS]; omega
      simp [fwdL, qBase, firstS, this]
    · have q1 : witS (e + later) 0 2147483647 = true := by simp [witS]; omega
      have q2 : witS t 0 2147483647 = true := by simp [witS]; omega
      by_cases hfar : f < e + later - t
      · right; left
        simp [fwdL, qBase, firstS, q1, q2, w6, c0, hm, hfar]
        omega
      · left
        refine (first_zero_iff _ (nz _ _)).2 ?_
        simp only [fwdL, qBase, List.cons_append, List.nil_append, List.mem_cons, List.not_mem_nil, or_false, forall_eq_or_imp, forall_eq, w6, w4, w7, q1, q2, Bool.or_eq_false_iff, Bool.not_eq_false', decide_eq_false_iff_not, decide_eq_true_eq]
        exact ⟨⟨c0, hm, hn, trivial, trivial⟩, hfar, h3, by omega, h5, h6⟩
end Go.Proofs.Ytakgaofemfpakaa.AM
